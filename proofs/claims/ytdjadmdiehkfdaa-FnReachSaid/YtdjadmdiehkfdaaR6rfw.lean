/-
  Laws of the graph statements, turned to this seat's numbers by a program of this project (port4.py). No condition.
-/
import Derived.Test.YtdjadmdiehkfdaaR6rba
set_option linter.unusedVariables false
set_option linter.unusedSimpArgs false
namespace Go.Proofs.Ytdjadmdiehkfdaa
open Go Go.Vm Go.Proofs V
def Zr (ct:List Int):Prop:=∀ e,T ct e=0
theorem Zr.set {ct:List Int} (h:Zr ct) (x e:Nat):Zr (ct.set e (T ct x+0)):=fun y => by
 show (ct.set e (T ct x+0)).getD y 0=0
 rw [getD_set,h x]; split
 ·rfl
 ·exact h y
def upd (out:List Int) (p:Nat) (v:Int):List Int:=if T out p < 0∨v < T out p then out.set p v else out
def Outs (g:Graph) (s:Nat) (S:Nat→Prop) (tm out:List Int):Prop :=
 out.length=g.1.length∧T out s=0∧∀ p,p < g.1.length→p≠s→MinAt (fun r => r < g.2.1.length∧S r ∧ (g.2.1.getD r dR).2.1 = (p:Int)) (T tm) (T out p)
theorem Outs.uniq {g:Graph} {s:Nat} (hs:s < g.1.length) {S S':Nat→Prop} {tm tm' out out':List Int} (h:Outs g s S tm out) (h':Outs g s S' tm' out') (hS:∀ r,r < g.2.1.length → (S' r↔S r)) (ht:∀ r,r < g.2.1.length→S r→T tm' r=T tm r):out=out':=by
 refine ext_getD (d:=0) (by rw [h.1,h'.1]) fun p hp => ?_
 rw [h.1] at hp
 by_cases hps:p=s
 ·subst hps; exact h.2.1.trans h'.2.1.symm
 ·refine MinAt.uniq (MinAt.congr (h.2.2 p hp hps) (fun r => ?_) (fun r hr => ht r hr.1 hr.2.1)) (h'.2.2 p hp hps)
  constructor
  ·rintro ⟨a,b,c⟩; exact ⟨a,(hS r a).1 b,c⟩
  ·rintro ⟨a,b,c⟩; exact ⟨a,(hS r a).2 b,c⟩
theorem zr_rep (n:Nat):Zr (List.replicate n 0):=fun e => by
 show (List.replicate n (0:Int)).getD e 0=0
 rw [List.getD_eq_getElem?_getD,List.getElem?_replicate]; split <;> rfl
structure Beg (g:Graph) (s:Nat) (i:Nat) (tm:List Int):Prop where
 len:tm.length=g.2.1.length
 yes:∀ e,e ∈ (outN g s).take i→T tm e=timeOf g e
 no:∀ e,e < g.2.1.length→e ∉ (outN g s).take i→T tm e = -1
theorem Beg.step {g:Graph} {s i:Nat} {tm:List Int} (h:Beg g s i tm) (hi:i < (outN g s).length):Beg g s (i+1) (tm.set ((outN g s).getD i 0) (timeOf g ((outN g s).getD i 0))):=by
 have he:=(mem_out.1 (getD_in' hi)).1
 have hts:=take_snoc hi
 refine ⟨by rw [List.length_set]; exact h.len,fun f hf => ?_,fun f hf hn => ?_⟩
 ·rw [hts,List.mem_append,List.mem_singleton] at hf
  by_cases hfe:(outN g s).getD i 0=f
  ·rw [hfe]; exact getD_set_same (by rw [h.len]; omega) _ _
  ·rw [show T (tm.set _ _) f=T tm f from getD_set_other hfe _ _]
   exact h.yes f (hf.resolve_right (fun e => hfe e.symm))
 ·rw [hts,List.mem_append,List.mem_singleton] at hn
  rw [show T (tm.set _ _) f=T tm f from getD_set_other (fun e => hn (.inr e.symm)) _ _]
  exact h.no f hf (fun hm => hn (.inl hm))
theorem Beg.inv {g:Graph} (hg:GOk g) {s:Nat} {tm:List Int} (h:Beg g s (outN g s).length tm):Inv (dgF g hg s) (dgF g hg s).adj tm (List.replicate g.2.1.length 0) (List.replicate g.2.1.length false):=by
 have hst:∀ e,(dgF g hg s).start e=if e < g.2.1.length ∧ (g.2.1.getD e dR).1 = (s:Int) then some (timeOf g e) else none:=fun _ => rfl
 refine Inv.init (G:=dgF g hg s) h.len (by simp; rfl) (fun e v he hv => ?_) (fun e he hv => ?_)
 ·rw [hst] at hv
  by_cases hc:e < g.2.1.length ∧ (g.2.1.getD e dR).1 = (s:Int)
  ·rw [if_pos hc] at hv
   exact ⟨by rw [h.yes e (by rw [List.take_length]; exact mem_out.2 hc)]; simpa using hv,zr_rep _ e⟩
  ·rw [if_neg hc] at hv; cases hv
 ·rw [hst] at hv
  by_cases hc:e < g.2.1.length ∧ (g.2.1.getD e dR).1 = (s:Int)
  ·rw [if_pos hc] at hv; cases hv
  ·exact ⟨h.no e he (by rw [List.take_length]; exact fun hm => hc (mem_out.1 hm)),zr_rep _ e⟩
theorem relax67 {g:Graph} (hg:GOk g) (k:Nat) (hk:1099511627776 < k) (s:Nat) {net:Net} (hn:NetOf g net) {x:Nat} (hx:x < g.2.1.length) (A:Int) (rest:List It × Unit) (dn0:List Bool) (hdl:dn0.length=g.2.1.length)
 (q:(List Int × List Bool × (List It × Unit))→Option (List Int)) (tm ct:List Int) (xs:List It) (hI:Inv (dgF g hg s) (partX (dgF g hg s) x []) tm ct (dn0.set x true)) (hR:Heap (dgF g hg s) tm ct (dn0.set x true) xs) (hc:Cur (dgF g hg s) tm ct (dn0.set x true) x)
 (hA:T tm x=A) (hz:Zr ct) (hxl:xs.length≤536870912) :
 ∃ tm' ct' ys,f67.l716 k net ((A,((0:Int),(x:Int))),rest) dn0 q k (tm,(xs,()),(0:Int))=q (tm',dn0.set x true,(ys,()))∧Inv (dgF g hg s) (dgF g hg s).adj tm' ct' (dn0.set x true)∧Heap (dgF g hg s) tm' ct' (dn0.set x true) ys∧Zr ct'∧ys.length≤xs.length+g.2.1.length:=by
 have n1:=hg.n1
 have n2:=hg.n2
 have hxr:=road_nat hx
 have hend:=road_ends hg hxr
 have h1:(roadAt g (x:Int)).2.1 = (g.2.1.getD x dR).2.1:=by unfold roadAt; rw [Int.toNat_natCast]
 obtain ⟨g',o,ii,mm⟩:=net
 obtain rfl:g'=g:=hn.fst
 have hout:=hn.out
 have hadj:o.getD (g'.2.1.getD x dR).2.1.toNat [] = ((dgF g' hg s).adj x).map fun (r:Nat) => (r:Int):=by
  rw [h1] at hend
  rw [show o.getD (g'.2.1.getD x dR).2.1.toNat []=outs g' g'.2.1.length (g'.2.1.getD x dR).2.1.toNat from hout.2 _ (by omega)]
  exact outs_eq g' _
 have hlen:((dgF g' hg s).adj x).length≤g'.2.1.length:=Nat.le_trans (List.length_filter_le _ _) (by simp)
 obtain ⟨tm',ct',ys,q1,q2,q3,q4,q5⟩:=relaxHeap (G:=dgF g' hg s) (P:=Zr) (A:=A) (A':=0) hx (dn:=dn0.set x true) (PU:=fun xs v ys => f68 k (xs,()) v=some (ys,())) (B:=1073741824)
  (fun xs v h hl => push_ok k hk h hl)
  (L:=fun m tm ct xs i => f67.l716 k (g',(o,(ii,mm))) ((A,((0:Int),(x:Int))),rest) dn0 q m (tm,(xs,()),(i:Int))) (Q:=fun tm ct xs => q (tm,dn0.set x true,(xs,())))
  (fun m tm ct xs i hi hI hz hc hA _ => by
   have he:=getD_in' hi
   have hl1:=hI.l1; have hl2:=hI.l2
   have hai:((dgF g' hg s).adj x).getD i 0 < g'.2.1.length:=(dgF g' hg s).hadj x hx _ he
   have hci:decide ((i:Int) < ((((dgF g' hg s).adj x).map fun (r:Nat) => (r:Int)).length:Int))=true:=by simpa using hi
   have hbi:(0:Int) ≤ (i:Int) ∧ (i:Int) < ((((dgF g' hg s).adj x).map fun (r:Nat) => (r:Int)).length:Int):=⟨by omega,by simpa using hi⟩
   have hb1:=bnd_num (G:=dgF g' hg s) rfl n2 hI hx
   have hb0:=hI.pos x hx (hI.dfin x hx hc.don)
   have hcv:(dgF g' hg s).cost x (((dgF g' hg s).adj x).getD i 0)=if ((dgF g' hg s).adj x).getD i 0 < g'.2.1.length then costN g' x (((dgF g' hg s).adj x).getD i 0) (((dgF g' hg s).adj x).getD i 0) else -1:=rfl
   have hcd:=castD ((dgF g' hg s).adj x) i
   have hends:(g'.2.1.getD (((dgF g' hg s).adj x).getD i 0) dR).1 = ((g'.2.1.getD x dR).2.1.toNat:Int):=(mem_out.1 he).2
   generalize ((dgF g' hg s).adj x).getD i 0=e at *
   rw [if_pos hai] at hcv
   have htm:=time_bd hg hai
   have htr:=turn_range g' (x:Int) (e:Int)
   have e66':f66 k (g',(o,(ii,mm))) (x:Int) (e:Int)=some (turnOf g' (x:Int) (e:Int)):=by
    rw [e66 hg k hn hxr (road_nat hai),if_pos]
    rw [h1] at hend ⊢
    unfold roadAt; rw [Int.toNat_natCast]
    have:=hends
    have h3:=hend.2
    rw [show (g'.2.1.getD e ((0:Int),((0:Int),((0:Int),((0:Int),((0:Int),(⟨#[]⟩:ByteArray))))))).1 = (g'.2.1.getD e dR).1 from rfl]
    omega
   have hdl':(dgF g' hg s).dl=0:=rfl
   have tl1:tm.length=g'.2.1.length:=hl1
   have be:(0:Int) ≤ (e:Int) ∧ (e:Int) < (g'.2.1.length:Int):=⟨by omega,by omega⟩
   have w0:IntKind.i64.wrap ((i:Int)+1) = ((i+1:Nat):Int):=wrap_s (by have:i < ((dgF g' hg s).adj x).length:=hi; omega)
   have w1:IntKind.i64.wrap (A+turnOf g' (x:Int) (e:Int))=A+turnOf g' (x:Int) (e:Int):=wrap_in (by omega) (by omega)
   have w2:IntKind.i64.wrap (A+turnOf g' (x:Int) (e:Int)+timeOf g' e)=A+turnOf g' (x:Int) (e:Int)+timeOf g' e:=wrap_in (by omega) (by omega)
   have hgt:(g'.2.1.getD e dR).2.2.2.1=timeOf g' e:=rfl
   have key:f67.l716 k (g',(o,(ii,mm))) ((A,((0:Int),(x:Int))),rest) dn0 q (m+1) (tm,(xs,()),(i:Int)) =
    if D (dn0.set x true) e=true∨turnOf g' (x:Int) (e:Int) < 0 ∨ (0≤T tm e∧T tm e≤A+turnOf g' (x:Int) (e:Int)+timeOf g' e) then f67.l716 k (g',(o,(ii,mm))) ((A,((0:Int),(x:Int))),rest) dn0 q m (tm,(xs,()),((i+1:Nat):Int)) else
    (f68 k (xs,()) (A+turnOf g' (x:Int) (e:Int)+timeOf g' e,((0:Int),(e:Int)))).bind fun r => f67.l716 k (g',(o,(ii,mm))) ((A,((0:Int),(x:Int))),rest) dn0 q m (tm.set e (A+turnOf g' (x:Int) (e:Int)+timeOf g' e),r,((i+1:Nat):Int)):=by
    rw [f67.l716]
    simp only [Int.toNat_natCast,hadj,hcd,e66',Option.bind_some,f67.j807,w0,List.length_set,hdl,tl1,hgt,w1,w2,if_t hci,if_t hbi,if_t be]
    by_cases h1:D (dn0.set x true) e=true
    ·rw [if_t (show (dn0.set x true).getD e false=true from h1),if_pos (.inl h1)]
    ·rw [if_f (show ¬ (dn0.set x true).getD e false=true from h1)]
     by_cases h2:turnOf g' (x:Int) (e:Int) < 0
     ·rw [if_t (by simpa using h2),if_pos (.inr (.inl h2))]
     ·rw [if_f (by simpa using h2),if_t (fun _ => be)]
      by_cases h3:T tm e < 0
      ·rw [show decide (tm.getD e 0 < 0)=true from decide_eq_true h3,if_t (by rfl),if_neg (fun h => by rcases h with h | h | h; exact h1 h; exact h2 h; omega)]
      ·rw [show decide (tm.getD e 0 < 0)=false from decide_eq_false h3]
       by_cases h4:T tm e≤A+turnOf g' (x:Int) (e:Int)+timeOf g' e
       ·rw [if_f,if_pos (.inr (.inr ⟨by omega,h4⟩))]
        rw [show decide (A+turnOf g' (x:Int) (e:Int)+timeOf g' e < tm.getD e 0)=false from decide_eq_false (show ¬ (A+turnOf g' (x:Int) (e:Int)+timeOf g' e < T tm e) by omega)]
        decide
       ·rw [if_t,if_neg (fun h => by rcases h with h | h | h; exact h1 h; exact h2 h; exact h4 h.2)]
        rw [show decide (A+turnOf g' (x:Int) (e:Int)+timeOf g' e < tm.getD e 0)=true from decide_eq_true (show A+turnOf g' (x:Int) (e:Int)+timeOf g' e < T tm e by omega)]; rfl
   have hcn:costN g' x e e < 0↔turnOf g' (x:Int) (e:Int) < 0:=by unfold costN; split <;> omega
   have hcp:¬ turnOf g' (x:Int) (e:Int) < 0→costN g' x e e=turnOf g' (x:Int) (e:Int)+timeOf g' e:=fun h => by unfold costN; rw [if_neg h]
   rw [hcv,hA,hdl',hz x,hz e]
   have hLe:∀ a b:Int,Le a 0 b (0+0)↔a≤b:=fun a b => by unfold Le; omega
   rw [hLe]
   refine ⟨fun h => ?_,fun hd h0 hb ys hy => ?_⟩
   ·show f67.l716 k (g',(o,(ii,mm))) ((A,((0:Int),(x:Int))),rest) dn0 q (m+1) (tm,(xs,()),(i:Int))=_
    rw [key,if_pos]
    rcases h with h | h | h
    ·exact .inl h
    ·exact .inr (.inl (hcn.1 h))
    ·by_cases h2:turnOf g' (x:Int) (e:Int) < 0
     ·exact .inr (.inl h2)
     ·rw [hcp h2] at h
      exact .inr (.inr ⟨h.1,by omega⟩)
   ·have ht:¬ turnOf g' (x:Int) (e:Int) < 0:=by rw [← hcn]; omega
    show f67.l716 k (g',(o,(ii,mm))) ((A,((0:Int),(x:Int))),rest) dn0 q (m+1) (tm,(xs,()),(i:Int))=_
    rw [hcp ht,show A + (turnOf g' (x:Int) (e:Int)+timeOf g' e)=A+turnOf g' (x:Int) (e:Int)+timeOf g' e by omega] at hy hb ⊢
    rw [key,if_neg (fun h => by
     rcases h with h | h | h
     ·rw [hd] at h; cases h
     ·exact ht h
     ·omega)]
    rw [show ((0:Int)+0)=0 from rfl] at hy
    rw [hy,Option.bind_some])
  (fun ct e h => h.set x e)
  (fun m tm ct xs => by
   show f67.l716 k (g',(o,(ii,mm))) ((A,((0:Int),(x:Int))),rest) dn0 q (m+1) (tm,(xs,()),(((dgF g' hg s).adj x).length:Int))=_
   rw [f67.l716]
   simp only [Int.toNat_natCast,hadj,List.length_map]
   rw [if_f (by simp)])
  _ 0 k tm ct xs (Nat.zero_add _) (by omega) (by omega) (by rw [List.take_zero]; exact hI) hR hz hc hA (hz x)
 exact ⟨tm',ct',ys,q1,q2,q3,q4,by omega⟩
theorem run67 {g:Graph} (hg:GOk g) (k:Nat) (hk:1099511627776 < k) (s:Nat) {net:Net} (hn:NetOf g net) (tm ct:List Int) (xs:List It) (hxl:xs.length≤g.2.1.length) (hz:Zr ct)
 (hI:Inv (dgF g hg s) (dgF g hg s).adj tm ct (List.replicate g.2.1.length false)) (hR:Heap (dgF g hg s) tm ct (List.replicate g.2.1.length false) xs) :
 ∃ tm' ct',f67.l478 k net k (tm,List.replicate g.2.1.length false,(xs,()))=some tm'∧Final (dgF g hg s) tm' ct'∧Zr ct':=by
 have n2:=hg.n2
 have hout:=hn.out
 have hfst:=hn.fst
 have hnn:(g.2.1.length - cnt (List.replicate g.2.1.length false)) * (g.2.1.length+1)≤64008000:=by
  rw [cnt_rep]
  exact Nat.le_trans (Nat.mul_le_mul (show g.2.1.length - 0≤8000 by omega) (show g.2.1.length+1≤8001 by omega)) (by decide)
 obtain ⟨tm',ct',q1,q2,q3⟩:=heapRun (G:=dgF g hg s) (P:=Zr) (B:=134217728) (L:=fun m tm ct dn xs => f67.l478 k net m (tm,dn,(xs,()))) (F:=fun tm ct => some tm)
  (fun m tm ct dn xs hI hR hz h0 hb => by
   obtain ⟨ys,p1,p2,p3,p4,p5,p6⟩:=pop_ok k hk hR.hp h0 (by omega)
   obtain ⟨x,x1,x2,x3,x4⟩:=heapPop hI hR h0 p2 p4 p5 p6
   have l3:dn.length=g.2.1.length:=hI.l3
   have bx:(0:Int) ≤ (x:Int) ∧ (x:Int) < (g.2.1.length:Int):=⟨by omega,by have:x < g.2.1.length:=x2; omega⟩
   have hc:decide (((xs.length:Int)) > 0)=true:=by simpa using h0
   have hend:=road_ends hg (road_nat (show x < g.2.1.length from x2))
   rw [show (roadAt g (x:Int)).2.1 = (g.2.1.getD x dR).2.1 by unfold roadAt; rw [Int.toNat_natCast]] at hend
   have bend:(0:Int) ≤ (g.2.1.getD x dR).2.1 ∧ (g.2.1.getD x dR).2.1 < (net.2.1.length:Int):=by rw [hout.1]; exact hend.2
   cases hd:D dn x with
   | true =>
     refine .inl ⟨ys,?_,x3 hd,by omega⟩
     show f67.l478 k net (m+1) (tm,dn,(xs,()))=_
     rw [f67.l478]
     simp only [if_t hc,p1,Option.bind_some,x1,Int.toNat_natCast,l3,if_t bx]
     rw [if_t (show dn.getD x false=true from hd)]
   | false =>
     obtain ⟨y1,y2,y3,y4⟩:=x4 hd
     obtain ⟨tm',ct',zs,r1,r2,r3,r5,r4⟩:=relax67 hg k hk s hn x2 (T tm x) (ys,()) dn l3 (f67.l478 k net m) tm ct ys y2 y3 y4 rfl hz (by omega)
     refine .inr ⟨x,tm',ct',zs,x2,hd,?_,r2,r3,r5,by show zs.length < xs.length+g.2.1.length; omega⟩
     show f67.l478 k net (m+1) (tm,dn,(xs,()))=_
     rw [f67.l478]
     simp only [if_t hc,p1,Option.bind_some,x1,Int.toNat_natCast,l3,hfst,if_t bx]
     rw [if_f (show ¬ dn.getD x false=true by rw [show dn.getD x false=false from hd]; decide),if_t bend,y1,hz x]
     exact r1)
  (fun m tm ct dn xs h0 => by
   show f67.l478 k net (m+1) (tm,dn,(xs,()))=_
   rw [f67.l478,if_f (by simp [h0])])
  134217728 k tm ct _ xs (by show xs.length + (g.2.1.length - _) * (g.2.1.length+1)≤_; omega) (by omega) (by omega) hI hR hz
 exact ⟨tm',ct',q1,q2,q3⟩
theorem e67 {g:Graph} (hg:GOk g) (k:Nat) (hk:1099511627776 < k) (s:Nat) (hs:s < g.1.length) {net:Net} (hn:NetOf g net):∃ tm ct,f67 k net (s:Int)=some tm∧Final (dgF g hg s) tm ct∧Zr ct:=by
 have n2:=hg.n2
 have c8:(0:Int) ≤ (g.2.1.length:Int)∧Int.toNat (g.2.1.length:Int)*8≤140737488355328:=⟨by omega,by rw [Int.toNat_natCast]; omega⟩
 have c1:(0:Int) ≤ (g.2.1.length:Int)∧Int.toNat (g.2.1.length:Int)*1≤140737488355328:=⟨by omega,by rw [Int.toNat_natCast]; omega⟩
 have hfst:=hn.fst
 have hout:=hn.out
 have hadj:net.2.1.getD s [] = (outN g s).map fun (r:Nat) => (r:Int):=by rw [hout.2 s hs]; exact outs_eq g s
 have bs:(0:Int) ≤ (s:Int) ∧ (s:Int) < (net.2.1.length:Int):=⟨by omega,by rw [hout.1]; omega⟩
 have hol:(outN g s).length≤g.2.1.length:=Nat.le_trans (List.length_filter_le _ _) (by simp)
 have go:∀ (d i m:Nat) (tm:List Int) (xs:List It),i+d = (outN g s).length→d < m→Beg g s i tm→xs.length≤i→HP xs → (∀ u,Has xs u↔∃ e,e ∈ (outN g s).take i∧u = (timeOf g e,0,(e:Int))) →
  ∃ tm' ct',f67.l80 k net (s:Int) m (tm,(xs,()),(i:Int))=some tm'∧Final (dgF g hg s) tm' ct'∧Zr ct':=by
  intro d
  induction d with
  | zero =>
    intro i m tm xs a1 a2 a3 a4 a5 a6
    obtain ⟨m,rfl⟩:∃ q,m=q+1:=⟨m - 1,by omega⟩
    obtain rfl:i = (outN g s).length:=by omega
    rw [f67.l80]
    simp only [Int.toNat_natCast,hadj,List.length_map,hfst]
    rw [if_f (by simp)]
    refine run67 hg k hk s hn tm _ xs (by omega) (zr_rep _) (a3.inv hg) ⟨a5,fun j hj => ?_,fun e he hf _ => (a6 _).2 ⟨e,?_,?_⟩⟩
    ·obtain ⟨e,h1,h2⟩:=(a6 _).1 ⟨j,hj,rfl⟩
     have hen:=(mem_out.1 (List.mem_of_mem_take h1)).1
     have:=time_bd hg hen
     rw [h2]
     exact ⟨e,rfl,hen,by rw [a3.yes e h1]; omega,.inr ⟨a3.yes e h1,by rw [zr_rep _ e]; exact Int.le_refl _⟩⟩
    ·by_cases hm:e ∈ (outN g s).take (outN g s).length
     ·exact hm
     ·have:=a3.no e he hm; omega
    ·by_cases hm:e ∈ (outN g s).take (outN g s).length
     ·rw [a3.yes e hm,zr_rep _ e]
     ·have:=a3.no e he hm; omega
  | succ d ih =>
    intro i m tm xs a1 a2 a3 a4 a5 a6
    obtain ⟨m,rfl⟩:∃ q,m=q+1:=⟨m - 1,by omega⟩
    have hi:i < (outN g s).length:=by omega
    have he:=(mem_out.1 (getD_in' hi)).1
    have hcd:=castD (outN g s) i
    have hts:=take_snoc hi
    have hst:=a3.step hi
    have a7:=a3.len
    generalize (outN g s).getD i 0=e at *
    have be:(0:Int) ≤ (e:Int) ∧ (e:Int) < (g.2.1.length:Int):=⟨by omega,by omega⟩
    have bi:(0:Int) ≤ (i:Int) ∧ (i:Int) < ((outN g s).length:Int):=⟨by omega,by omega⟩
    have hci:decide ((i:Int) < ((outN g s).length:Int))=true:=by simpa using hi
    have hsame:(tm.set e (g.2.1.getD e dR).2.2.2.1).getD e 0=timeOf g e:=getD_set_same (by omega) _ _
    obtain ⟨ys,p1,p2,p3,p4⟩:=push_ok k hk (v:=(timeOf g e,0,(e:Int))) a5 (by omega)
    rw [f67.l80]
    simp only [Int.toNat_natCast,hadj,hcd,List.length_map,List.length_set,a7,hfst,if_t hci,if_t bi,if_t be,hsame,p1,Option.bind_some]
    rw [wrap_s (by omega)]
    refine ih (i+1) m _ ys (by omega) (by omega) hst (by omega) p2 (fun u => ?_)
    rw [p4,a6,hts]
    constructor
    ·rintro (⟨f,h1,h2⟩ | h1)
     ·exact ⟨f,List.mem_append_left _ h1,h2⟩
     ·exact ⟨e,List.mem_append_right _ (List.mem_singleton.2 rfl),h1⟩
    ·rintro ⟨f,h1,h2⟩
     rw [List.mem_append,List.mem_singleton] at h1
     rcases h1 with h1 | h1
     ·exact .inl ⟨f,h1,h2⟩
     ·subst h1; exact .inr h2
 unfold f67
 rw [hfst,if_t c8,if_t c1,Int.toNat_natCast]
 obtain ⟨t',⟨s1,s2⟩,s3⟩:=foldLoop (L:=f67.l16 k net (s:Int)) (n:=g.2.1.length) (g:=fun i t => t.set i (-1)) (fin:=fun t => f67.l80 k net (s:Int) k (t,(([]:List It),()),(0:Int)))
  (Inv:=fun i t => t.length=g.2.1.length∧∀ j,j < i→T t j = -1)
  (fun m i t hi ⟨q1,q2⟩ => by
   have bi:(0:Int) ≤ (i:Int) ∧ (i:Int) < (g.2.1.length:Int):=⟨by omega,by omega⟩
   refine ⟨⟨by rw [List.length_set]; exact q1,fun j hj => ?_⟩,?_⟩
   ·by_cases hji:i=j
    ·subst hji; exact getD_set_same (by omega) _ _
    ·rw [show T (t.set i (-1)) j=T t j from getD_set_other hji _ _]; exact q2 j (by omega)
   ·rw [f67.l16,hfst,List.length_replicate,Int.toNat_natCast,if_t (by simpa using hi),q1,if_t bi,wrap_s (by omega)]; rfl)
  (fun m t hs' => by rw [f67.l16,hfst,List.length_replicate,Int.toNat_natCast,if_f (by simp),if_t bs]) k 0 (List.replicate g.2.1.length (0:Int)) ⟨by simp,fun j hj => by omega⟩ (by omega) (by omega)
 rw [show ((0:Nat):Int)=0 from rfl] at s3
 rw [s3]
 exact go (outN g s).length 0 k t' [] (by omega) (by omega) ⟨s1,fun e he => by simp at he,fun e he _ => s2 e he⟩ (by simp) (fun j _ h => by simp at h) (fun u => by
  constructor
  ·rintro ⟨j,hj,_⟩; simp at hj
  ·rintro ⟨e,h,_⟩; simp at h)
theorem e42 {g:Graph} (hg:GOk g) (k:Nat) (hk:1099511627776 < k) (s:Nat) (hs:s < g.1.length) {net:Net} (hn:NetOf g net):∃ out tm ct,f42 k net (s:Int)=some out∧Final (dgF g hg s) tm ct∧Zr ct∧Outs g s (fun r => 0≤T tm r) tm out:=by
 have n1:=hg.n1
 have n2:=hg.n2
 obtain ⟨tm,ct,t1,t2,t3⟩:=e67 hg k hk s hs hn
 have tl:tm.length=g.2.1.length:=t2.l1
 have hfst:=hn.fst
 have c8:(0:Int) ≤ (g.1.length:Int)∧Int.toNat (g.1.length:Int)*8≤140737488355328:=⟨by omega,by rw [Int.toNat_natCast]; omega⟩
 unfold f42
 rw [t1,Option.bind_some,hfst,if_t c8,Int.toNat_natCast]
 have main:∀ (out:List Int),out.length=g.1.length → (∀ p,p < g.1.length→T out p = -1)→∃ out',f42.l101 k net tm (s:Int) k (out,(0:Int))=some out'∧Outs g s (fun r => 0≤T tm r) tm out':=by
  intro out o1 o2
  obtain ⟨z,⟨z1,z2⟩,z3⟩:=foldLoop (L:=f42.l101 k net tm (s:Int)) (n:=g.2.1.length) (g:=fun i z => if 0≤T tm i then upd z (g.2.1.getD i dR).2.1.toNat (T tm i) else z) (fin:=fun z => some (z.set s 0))
   (Inv:=fun i z => z.length=g.1.length∧∀ p,p < g.1.length→MinAt (fun r => r < i∧0≤T tm r ∧ (g.2.1.getD r dR).2.1 = (p:Int)) (T tm) (T z p))
   (fun m i z hi ⟨q1,q2⟩ => by
    have bi:(0:Int) ≤ (i:Int) ∧ (i:Int) < (g.2.1.length:Int):=⟨by omega,by omega⟩
    have hci:decide ((i:Int) < (g.2.1.length:Int))=true:=by simpa using hi
    have hend:=(road_ends hg (road_nat hi)).2
    rw [show (roadAt g (i:Int)).2.1 = (g.2.1.getD i dR).2.1 by unfold roadAt; rw [Int.toNat_natCast]] at hend
    have hend':0 ≤ (g.2.1.getD i dR).2.1 ∧ (g.2.1.getD i dR).2.1 < (z.length:Int):=by rw [q1]; exact hend
    refine ⟨⟨?_,fun p hp => ?_⟩,?_⟩
    ·split
     ·unfold upd; split <;> simp [q1]
     ·exact q1
    ·have hold:=q2 p hp
     by_cases hf:0≤T tm i
     ·rw [if_pos hf]
      by_cases hto:(g.2.1.getD i dR).2.1.toNat=p
      ·have e1:T (upd z (g.2.1.getD i dR).2.1.toNat (T tm i)) p=if T z p < 0∨T tm i < T z p then T tm i else T z p:=by
        rw [hto]; unfold upd; split
        ·exact getD_set_same (by rw [q1]; exact hp) _ _
        ·rfl
       rw [e1]
       refine MinAt.add hold (x:=i) (fun r => ?_) (fun r hr => hr.2.1)
       constructor
       ·rintro ⟨a,b,c⟩
        by_cases hri:r=i
        ·exact .inr hri
        ·exact .inl ⟨by omega,b,c⟩
       ·rintro (⟨a,b,c⟩ | rfl)
        ·exact ⟨by omega,b,c⟩
        ·exact ⟨by omega,hf,by omega⟩
      ·have e1:T (upd z (g.2.1.getD i dR).2.1.toNat (T tm i)) p=T z p:=by
        unfold upd; split
        ·exact getD_set_other hto _ _
        ·rfl
       rw [e1]
       refine MinAt.congr hold (fun r => ?_) (fun _ _ => rfl)
       constructor
       ·rintro ⟨a,b,c⟩
        by_cases hri:r=i
        ·subst hri; exact absurd (by omega) hto
        ·exact ⟨by omega,b,c⟩
       ·rintro ⟨a,b,c⟩; exact ⟨by omega,b,c⟩
     ·rw [if_neg hf]
      refine MinAt.congr hold (fun r => ?_) (fun _ _ => rfl)
      constructor
      ·rintro ⟨a,b,c⟩
       by_cases hri:r=i
       ·subst hri; exact absurd b hf
       ·exact ⟨by omega,b,c⟩
      ·rintro ⟨a,b,c⟩; exact ⟨by omega,b,c⟩
    ·rw [f42.l101]
     simp only [hfst,if_t hci,if_t bi,Int.toNat_natCast,tl,f42.j160]
     rw [if_t (fun _ => hend'),if_t (fun _ => bi),if_t (fun _ => hend'),Option.bind_some,wrap_s (by omega)]
     by_cases hf:0≤T tm i
     ·rw [show decide (tm.getD i 0 ≥ 0)=true from decide_eq_true hf,cond_true,if_pos hf]
      unfold upd
      by_cases c1:T z (g.2.1.getD i dR).2.1.toNat < 0
      ·rw [if_t (by rw [show decide (z.getD (g.2.1.getD i dR).2.1.toNat 0 < 0)=true from decide_eq_true c1]; rfl),if_t hend',if_pos (.inl c1)]
      ·rw [show decide (z.getD (g.2.1.getD i dR).2.1.toNat 0 < 0)=false from decide_eq_false c1]
       by_cases c2:T tm i < T z (g.2.1.getD i dR).2.1.toNat
       ·rw [if_t (by rw [show decide (tm.getD i 0 < z.getD (g.2.1.getD i dR).2.1.toNat 0)=true from decide_eq_true c2]; rfl),if_t hend',if_pos (.inr c2)]
       ·rw [if_f (by rw [show decide (tm.getD i 0 < z.getD (g.2.1.getD i dR).2.1.toNat 0)=false from decide_eq_false c2]; simp),if_neg (by omega)]
     ·rw [show decide (tm.getD i 0 ≥ 0)=false from decide_eq_false hf,cond_false,if_f (by simp),if_neg hf])
   (fun m z hz => by rw [f42.l101,hfst,if_f (by simp),hz.1,if_t ⟨by omega,by omega⟩,Int.toNat_natCast]) k 0 out ⟨o1,fun p hp => .inl ⟨o2 p hp,fun r hr => by omega⟩⟩ (by omega) (by omega)
  rw [show ((0:Nat):Int)=0 from rfl] at z3
  refine ⟨_,z3,by rw [List.length_set]; exact z1,getD_set_same (by omega) _ _,fun p hp hps => ?_⟩
  rw [show T (z.set s 0) p=T z p from getD_set_other (fun h => hps h.symm) _ _]
  exact z2 p hp
 obtain ⟨o',⟨s1,s2⟩,s3⟩:=foldLoop (L:=f42.l17 k net tm (s:Int)) (n:=g.1.length) (g:=fun i t => t.set i (-1)) (fin:=fun o => f42.l101 k net tm (s:Int) k (o,(0:Int)))
  (Inv:=fun i t => t.length=g.1.length∧∀ j,j < i→T t j = -1)
  (fun m i t hi ⟨q1,q2⟩ => by
   have bi:(0:Int) ≤ (i:Int) ∧ (i:Int) < (g.1.length:Int):=⟨by omega,by omega⟩
   refine ⟨⟨by rw [List.length_set]; exact q1,fun j hj => ?_⟩,?_⟩
   ·by_cases hji:i=j
    ·subst hji; exact getD_set_same (by omega) _ _
    ·rw [show T (t.set i (-1)) j=T t j from getD_set_other hji _ _]; exact q2 j (by omega)
   ·rw [f42.l17,hfst,List.length_replicate,Int.toNat_natCast,if_t (by simpa using hi),q1,if_t bi,wrap_s (by omega)]; rfl)
  (fun m t hs' => by rw [f42.l17,hfst,List.length_replicate,Int.toNat_natCast,if_f (by simp)]) k 0 (List.replicate g.1.length (0:Int)) ⟨by simp,fun j hj => by omega⟩ (by omega) (by omega)
 rw [show ((0:Nat):Int)=0 from rfl] at s3
 rw [s3]
 obtain ⟨out',m1,m2⟩:=main o' s1 s2
 exact ⟨out',tm,ct,m1,t2,t3,m2⟩
end Go.Proofs.Ytdjadmdiehkfdaa
