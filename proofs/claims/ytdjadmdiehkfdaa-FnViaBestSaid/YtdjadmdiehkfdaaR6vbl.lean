/-
  FnViaBest: at every draw the law's function returns true. No condition.
-/
import Derived.Test.YtdjadmdiehkfdaaR6vwk
import Derived.Test.YtdjadmdiehkfdaaR6vdg
set_option linter.unusedVariables false
set_option linter.unusedSimpArgs false
namespace Go.Proofs.Ytdjadmdiehkfdaa
open Go Go.Vm Go.Proofs V
abbrev Pt:=Bool × (List Int × (Int × Int))
abbrev noP:Pt:=(false,(([]:List Int),((0:Int),(0:Int))))
theorem e56 (k:Nat) {g:Graph} {t:Net} (ht:NetOf g t) (p:Int):f56 k t p=some (roadIs g p):=by
 unfold f56 roadIs
 rw [ht.fst]
 cases decide (0≤p) <;> simp
theorem ok_of {g:Graph} (h:GOk g):graphOk g=true:=by
 unfold graphOk
 rw [decide_eq_true h.n1,decide_eq_true h.n2,decide_eq_true h.n3,allTo_iff.2 h.spot,allTo_iff.2 h.road,allTo_iff.2 h.ban]
 rfl
theorem Wk.pos {g:Graph} (hg:GOk g) {t:Int} {e:Nat} {l:List Nat} {c:Int} (h:Wk g t e l c):1≤c:=by
 induction h with
 | one he ht => exact (time_bd hg he).1
 | cons he hw hf htu ih => have:=(time_bd hg he).1; omega
theorem Wk.head {g:Graph} {t:Int} {e:Nat} {l:List Nat} {c:Int} (h:Wk g t e l c):∃ q,l=e :: q:=by cases h <;> exact ⟨_,rfl⟩
theorem Wk.last {g:Graph} {t:Int} {e:Nat} {l:List Nat} {c:Int} (h:Wk g t e l c):∃ q z,l=q ++ [z]∧z < g.2.1.length∧tt g z=t:=by
 induction h with
 | @one e he ht => exact ⟨[],e,rfl,he,ht⟩
 | @cons e x l c he hw hf htu ih =>
   obtain ⟨q,z,h1,h2,h3⟩:=ih
   exact ⟨e :: q,z,by rw [h1]; rfl,h2,h3⟩
theorem Wk.app {g:Graph} {v t:Int} {e:Nat} {la:List Nat} {ca:Int} (h:Wk g v e la ca):∀ {f:Nat} {lb:List Nat} {cb:Int},Wk g t f lb cb→fr g f=v→∀ (q:List Nat) (z:Nat),la=q ++ [z]→0≤turnOf g (z:Int) (f:Int)→Wk g t e (la ++ lb) (ca+turnOf g (z:Int) (f:Int)+cb):=by
 induction h with
 | @one e he ht =>
   intro f lb cb hb hf q z hq htu
   have hz:e=z:=by
    rcases q with _ | ⟨a,q⟩
    ·simpa using hq
    ·simp at hq
   subst hz
   exact .cons he hb (hf.trans ht.symm) htu
 | @cons e x l c he hw hf0 htu0 ih =>
   intro f lb cb hb hf q z hq htu
   obtain ⟨ql,zl,h1,_,_⟩:=hw.last
   have hz:zl=z∧q=e :: ql:=by
    rw [h1] at hq
    rcases q with _ | ⟨a,q⟩
    ·simp at hq
    ·have h2:ql ++ [zl]=q ++ [z]:=(List.cons.inj hq).2
     have h3:=List.append_inj' h2 rfl
     exact ⟨by simpa using h3.2,by rw [h3.1,(List.cons.inj hq).1]⟩
   have:=ih hb hf ql zl h1 (by rw [hz.1]; exact htu)
   rw [hz.1] at this
   rw [show timeOf g e+turnOf g (e:Int) (x:Int)+c+turnOf g (z:Int) (f:Int)+cb=timeOf g e+turnOf g (e:Int) (x:Int) + (c+turnOf g (z:Int) (f:Int)+cb) by omega]
   exact .cons he this hf0 htu0
structure BP (g:Graph) (s t:Nat) (y:Pt):Prop where
 no:y.1=false→y=noP
 same:s=t→y = (true,(([]:List Int),((0:Int),(0:Int))))
 yes:s≠t→y.1=true→∃ e l,y.2.1=castL l∧Wk g (t:Int) e l y.2.2.1∧fr g e = (s:Int)
 min:s≠t→∀ e l c,fr g e = (s:Int)→Wk g (t:Int) e l c→y.1=true∧y.2.2.1≤c
 len:y.2.1.length≤9000
 bd:0≤y.2.2.1∧y.2.2.1≤10000000000
theorem bp38 {g:Graph} (hg:GOk g) (k:Nat) (hk:1099511627776 < k) {net:Net} (hn:NetOf g net) {s t:Nat} (hs:s < g.1.length):∃ y,f38 k net (s:Int) (t:Int)=some y ∧ (y.2.1.length≤9000→BP g s t y):=by
 by_cases hst:s=t
 ·subst hst
  refine ⟨(true,([],(0,0))),by unfold f38; rw [if_t (by simp)],fun hl => ⟨(fun h => by cases h),fun _ => rfl,fun h => absurd rfl h,fun h => absurd rfl h,hl,by decide⟩⟩
 ·obtain ⟨y,tm,ct,b1,b2,b3,b4⟩:=best_told hg k hk hn hs (t:Int) (by omega)
  refine ⟨y,b1,fun hl => ⟨fun h => (b4.no h).1,fun h => absurd h hst,fun _ hy => ?_,fun _ e l c hf hw => ?_,hl,?_⟩⟩
  ·obtain ⟨e,l,h1,h2,h3,h4,h5,h6⟩:=b4.yes hy
   exact ⟨e,e :: l,by rw [h1],by rw [h1]; exact h5,h3⟩
  ·have hb:=back_le b3 hw
   cases hy:y.1 with
   | false => have:=(b4.no hy).2 e hw.lt hf; omega
   | true =>
     obtain ⟨e',l',h1,h2,h3,h4,h5,h6⟩:=b4.yes hy
     have:=h6 e hw.lt hf hb.1
     rw [h1]
     exact ⟨rfl,by show T tm e'≤c; omega⟩
  ·cases hy:y.1 with
   | false => rw [(b4.no hy).1]; decide
   | true =>
     obtain ⟨e',l',h1,h2,h3,h4,h5,h6⟩:=b4.yes hy
     have:=(tm_bd b3 h2).1
     rw [h1]
     exact ⟨h4,this⟩
theorem time_go {g:Graph} (hg:GOk g) (k:Nat) {net:Net} (hn:NetOf g net) {t:Int} (X:List Int) (hX:X.length≤1000000) {e:Nat} {l:List Nat} {c:Int} (hw:Wk g t e l c) :
 ∀ (m:Nat) (pre:List Int) (sum:Int),X=pre ++ castL l→l.length < m→0≤sum →
   (pre=[]→sum+c≤1000000000000→f39.l98 k X net t m (fr g e,sum,(pre.length:Int))=some (sum+c)) ∧
   (∀ (q:List Int) (p:Nat),pre=q ++ [(p:Int)]→p < g.2.1.length→tt g p=fr g e→0≤turnOf g (p:Int) (e:Int)→sum+turnOf g (p:Int) (e:Int)+c≤1000000000000→f39.l98 k X net t m (fr g e,sum,(pre.length:Int))=some (sum+turnOf g (p:Int) (e:Int)+c)):=by
 induction hw with
 | @one e he ht =>
   intro m pre sum hpre hm hsum
   obtain ⟨m,rfl⟩:∃ m',m=m'+2:=⟨m - 2,by simp at hm; omega⟩
   have hl:X.length=pre.length+1:=by rw [hpre]; simp
   have hi:(0:Int) ≤ (pre.length:Int) ∧ (pre.length:Int) < (X.length:Int):=⟨by omega,by omega⟩
   have hXe:X.getD pre.length 0 = (e:Int):=by rw [hpre]; simp [List.getD_eq_getElem?_getD]
   have be:(0:Int) ≤ (e:Int) ∧ (e:Int) < (g.2.1.length:Int):=⟨by omega,by omega⟩
   have htm:=time_bd hg he
   have fin:∀ s:Int,0≤s→s+timeOf g e≤1000000000000→f39.j186 k X (pre.length:Int) net (f39.l98 k X net t (m+1)) s=some (s+timeOf g e):=fun s h0 hs => by
    unfold f39.j186
    simp only [hn.fst,Int.toNat_natCast,hXe,if_t be]
    rw [wrap_s (by omega),show IntKind.i64.wrap (s + (g.2.1.getD e dR).2.2.2.1)=s+timeOf g e from wrap_in (show _≤s+timeOf g e by omega) (show s+timeOf g e≤_ by omega),f39.l98,if_f (by rw [decide_eq_true_eq]; omega)]
    have:(g.2.1.getD e dR).2.1=t:=ht
    rw [this,if_f (by simp)]
   have hr:=e56 k hn (e:Int)
   have hfr:((g.2.1.getD e dR).1 != fr g e)=false:=bne_self_eq_false _
   constructor
   ·intro hp hs
    subst hp
    rw [f39.l98,if_t (decide_eq_true hi.2),if_t hi]
    simp only [Int.toNat_natCast,hXe,hr,road_nat he,Option.bind_some,hn.fst,Bool.not_true,cond_false,hfr]
    rw [if_t (fun _ => be),if_f (by simp),if_f (by simp)]
    exact fin sum hsum hs
   ·intro q p hq hp hpt htu hs
    have hpl:pre.length=q.length+1:=by rw [hq]; simp
    have hXp:X.getD q.length 0 = (p:Int):=by rw [hpre,hq]; simp [List.getD_eq_getElem?_getD]
    have hj:(0:Int) ≤ (q.length:Int) ∧ (q.length:Int) < (X.length:Int):=⟨by omega,by omega⟩
    have h66:f66 k net (p:Int) (e:Int)=some (turnOf g (p:Int) (e:Int)):=by
     rw [e66 hg k hn (road_nat hp) (road_nat he),if_pos]
     unfold roadAt; rw [Int.toNat_natCast,Int.toNat_natCast]; exact hpt
    rw [f39.l98,if_t (decide_eq_true hi.2),if_t hi]
    simp only [Int.toNat_natCast,hXe,hr,road_nat he,Option.bind_some,hn.fst,Bool.not_true,cond_false,hfr]
    rw [if_t (fun _ => be),if_f (by simp),if_t (by rw [decide_eq_true_eq]; omega)]
    rw [hpl,wrap_p q.length (by omega),if_t hj]
    simp only [Int.toNat_natCast,hXp]
    rw [h66,Option.bind_some,if_f (by rw [decide_eq_true_eq]; omega),show IntKind.i64.wrap (sum+turnOf g (p:Int) (e:Int))=sum+turnOf g (p:Int) (e:Int) from wrap_in (by omega) (by omega),← hpl]
    exact fin _ (by omega) hs
 | @cons e x l c he hw hf htu0 ih =>
   intro m pre sum hpre hm hsum
   obtain ⟨m,rfl⟩:∃ m',m=m'+1:=⟨m - 1,by omega⟩
   have hcp:=hw.pos hg
   have hl:X.length=pre.length+1+l.length:=by rw [hpre]; simp; omega
   have hi:(0:Int) ≤ (pre.length:Int) ∧ (pre.length:Int) < (X.length:Int):=⟨by omega,by omega⟩
   have hXe:X.getD pre.length 0 = (e:Int):=by rw [hpre]; simp [List.getD_eq_getElem?_getD]
   have be:(0:Int) ≤ (e:Int) ∧ (e:Int) < (g.2.1.length:Int):=⟨by omega,by omega⟩
   have htm:=time_bd hg he
   have fin:∀ s:Int,0≤s→s + (timeOf g e+turnOf g (e:Int) (x:Int)+c)≤1000000000000→f39.j186 k X (pre.length:Int) net (f39.l98 k X net t m) s=some (s + (timeOf g e+turnOf g (e:Int) (x:Int)+c)):=fun s h0 hs => by
    have ih2:=(ih m (pre ++ [(e:Int)]) (s+timeOf g e) (by rw [hpre]; simp) (by simp at hm; omega) (by omega)).2 pre e rfl he hf.symm htu0 (by omega)
    unfold f39.j186
    simp only [hn.fst,Int.toNat_natCast,hXe,if_t be]
    rw [wrap_s (by omega),show IntKind.i64.wrap (s + (g.2.1.getD e dR).2.2.2.1)=s+timeOf g e from wrap_in (show _≤s+timeOf g e by omega) (show s+timeOf g e≤_ by omega)]
    have h1:(g.2.1.getD e dR).2.1=fr g x:=hf.symm
    rw [h1]
    rw [show ((pre ++ [(e:Int)]).length:Int) = ((pre.length+1:Nat):Int) by simp] at ih2
    rw [ih2]
    congr 1; omega
   have hr:=e56 k hn (e:Int)
   have hfr:((g.2.1.getD e dR).1 != fr g e)=false:=bne_self_eq_false _
   constructor
   ·intro hp hs
    subst hp
    rw [f39.l98,if_t (decide_eq_true hi.2),if_t hi]
    simp only [Int.toNat_natCast,hXe,hr,road_nat he,Option.bind_some,hn.fst,Bool.not_true,cond_false,hfr]
    rw [if_t (fun _ => be),if_f (by simp),if_f (by simp)]
    exact fin sum hsum hs
   ·intro q p hq hp hpt htu hs
    have hpl:pre.length=q.length+1:=by rw [hq]; simp
    have hXp:X.getD q.length 0 = (p:Int):=by rw [hpre,hq]; simp [List.getD_eq_getElem?_getD]
    have hj:(0:Int) ≤ (q.length:Int) ∧ (q.length:Int) < (X.length:Int):=⟨by omega,by omega⟩
    have h66:f66 k net (p:Int) (e:Int)=some (turnOf g (p:Int) (e:Int)):=by
     rw [e66 hg k hn (road_nat hp) (road_nat he),if_pos]
     unfold roadAt; rw [Int.toNat_natCast,Int.toNat_natCast]; exact hpt
    rw [f39.l98,if_t (decide_eq_true hi.2),if_t hi]
    simp only [Int.toNat_natCast,hXe,hr,road_nat he,Option.bind_some,hn.fst,Bool.not_true,cond_false,hfr]
    rw [if_t (fun _ => be),if_f (by simp),if_t (by rw [decide_eq_true_eq]; omega)]
    rw [hpl,wrap_p q.length (by omega),if_t hj]
    simp only [Int.toNat_natCast,hXp]
    rw [h66,Option.bind_some,if_f (by rw [decide_eq_true_eq]; omega),show IntKind.i64.wrap (sum+turnOf g (p:Int) (e:Int))=sum+turnOf g (p:Int) (e:Int) from wrap_in (by omega) (by omega),← hpl]
    exact fin _ (by omega) hs
def IsPath (g:Graph) (s t:Nat) (y:Pt):Prop:=(s=t∧y.2.1=[]∧y.2.2.1=0)∨∃ e l,y.2.1=castL l∧Wk g (t:Int) e l y.2.2.1∧fr g e = (s:Int)
theorem path11 {g:Graph} (hg:GOk g) (k:Nat) (hk:1099511627776 < k) {s t:Nat} (hs:s < g.1.length) (ht:t < g.1.length) {y:Pt} (hy:IsPath g s t y) (hl:y.2.1.length≤100000) (hb:y.2.2.1≤1000000000000):f11 k g y.2.1 (s:Int) (t:Int)=some y.2.2.1:=by
 have n1:=hg.n1
 have n2:=hg.n2
 have n3:=hg.n3
 obtain ⟨net,hn,hno⟩:=e36 hg k (by omega)
 have s1:spotIs g (s:Int)=true:=spotIs_iff.2 ⟨by omega,by omega⟩
 have s2:spotIs g (t:Int)=true:=spotIs_iff.2 ⟨by omega,by omega⟩
 have h39:f39 k net y.2.1 (s:Int) (t:Int)=some y.2.2.1:=by
  unfold f39
  rcases hy with ⟨rfl,h1,h2⟩ | ⟨e,l,h1,h2,h3⟩
  ·rw [h1,h2]
   obtain ⟨k',rfl⟩:∃ z,k=z+1:=⟨k - 1,by omega⟩
   rw [f39.l98,if_f (by simp),if_f (by simp)]
  ·have hll:l.length≤100000:=by rw [h1] at hl; simpa using hl
   have:=(time_go hg k hno y.2.1 (by omega) h2 k [] 0 (by rw [h1]; rfl) (by omega) (by omega)).1 rfl (by omega)
   rw [h3] at this
   rw [show ((([]:List Int).length:Nat):Int)=0 from rfl] at this
   rw [this]; congr 1; omega
 unfold f11
 rw [impl9 k (by omega) g (by omega) (by omega) (by omega),ok_of hg,Option.bind_some,if_f (by simp),hn,Option.bind_some,e37 k hno,Option.bind_some,s1,if_t (by simp),e37 k hno,Option.bind_some,s2,if_f (by simp),h39,Option.bind_some]
theorem join_told {g:Graph} (hg:GOk g) (k:Nat) {net:Net} (hn:NetOf g net) {s v t:Nat} {a b:Pt} (ha:BP g s v a) (hb:BP g v t b) :
 ∃ p,f46 k net a b=some p ∧ (p.1=true→IsPath g s t p∧p.2.1.length≤18000∧0≤p.2.2.1∧p.2.2.1≤30000000000) ∧ (s=v→p.1=b.1∧p.2.2.1=b.2.2.1∧p.2.1=b.2.1) ∧ (v=t→p.1=a.1∧p.2.2.1=a.2.2.1∧p.2.1=a.2.1):=by
 have la:=ha.len
 have lb:=hb.len
 have ba:=ha.bd
 have bb:=hb.bd
 unfold f46
 by_cases hno:(bif (!a.1) then true else (!b.1))=true
 ·rw [if_t hno]
  refine ⟨_,rfl,fun h => (by cases h),fun h => ?_,fun h => ?_⟩
  ·have h1:=ha.same h
   rw [h1] at hno
   have hb1:b.1=false:=by simpa using hno
   rw [hb.no hb1]; exact ⟨rfl,rfl,rfl⟩
  ·have h1:=hb.same h
   rw [h1] at hno
   have ha1:a.1=false:=by simpa using hno
   rw [ha.no ha1]; exact ⟨rfl,rfl,rfl⟩
 ·have ha1:a.1=true:=by
   cases h:a.1 with
   | true => rfl
   | false => rw [h] at hno; exact absurd rfl hno
  have hb1:b.1=true:=by
   cases h:b.1 with
   | true => rfl
   | false => rw [ha1,h] at hno; exact absurd rfl hno
  rw [if_f hno]
  have c1:(List.length ([]:List Int)+a.2.1.length)*8≤140737488355328:=by rw [List.length_nil]; omega
  have c2:((([]:List Int) ++ a.2.1).length+b.2.1.length)*8≤140737488355328:=by rw [List.nil_append]; omega
  have j6:∀ z,f46.j6 k a b z=some (true,(a.2.1 ++ b.2.1,(z,IntKind.i64.wrap (a.2.2.2+b.2.2.2)))):=fun z => by
   unfold f46.j6
   rw [if_t c1,if_t c2]
   rfl
  have w1:IntKind.i64.wrap (a.2.2.1+b.2.2.1)=a.2.2.1+b.2.2.1:=wrap_in (by omega) (by omega)
  by_cases hsv:s=v
  ·have h1:=ha.same hsv
   have hlen:decide ((List.length a.2.1:Int) > 0)=false:=by rw [h1]; rfl
   rw [hlen,cond_false,if_f (by simp),w1,j6,h1]
   refine ⟨_,rfl,fun _ => ⟨?_,by simp; omega,by simpa using bb.1,by show (0:Int)+b.2.2.1≤_; omega⟩,fun _ => ⟨hb1.symm,by show (0:Int)+b.2.2.1=_; omega,rfl⟩,fun hvt => ?_⟩
   ·subst hsv
    by_cases hst:s=t
    ·have h2:=hb.same hst
     exact .inl ⟨hst,by rw [h2]; rfl,by rw [h2]; rfl⟩
    ·obtain ⟨e,l,e1,e2,e3⟩:=hb.yes hst hb1
     exact .inr ⟨e,l,e1,by show Wk g (t:Int) e l (0+b.2.2.1); rw [Int.zero_add]; exact e2,e3⟩
   ·have h2:=hb.same hvt
    rw [h2]; exact ⟨rfl,rfl,rfl⟩
  ·obtain ⟨e,l,e1,e2,e3⟩:=ha.yes hsv ha1
   obtain ⟨ql,zl,z1,z2,z3⟩:=e2.last
   have hal:a.2.1=castL ql ++ [(zl:Int)]:=by rw [e1,z1]; simp [castL]
   have hlen:decide ((List.length a.2.1:Int) > 0)=true:=decide_eq_true (by rw [hal]; simp)
   rw [hlen,cond_true]
   by_cases hvt:v=t
   ·have h2:=hb.same hvt
    have hlen2:decide ((List.length b.2.1:Int) > 0)=false:=by rw [h2]; rfl
    rw [hlen2,if_f (by simp),w1,j6,h2]
    refine ⟨_,rfl,fun _ => ⟨?_,by simp; omega,by simpa using ba.1,by show a.2.2.1 + (0:Int)≤_; omega⟩,fun h => absurd h hsv,fun _ => ⟨ha1.symm,by show a.2.2.1 + (0:Int)=_; omega,List.append_nil _⟩⟩
    subst hvt
    exact .inr ⟨e,l,by show a.2.1 ++ []=_; rw [List.append_nil]; exact e1,by show Wk g (v:Int) e l (a.2.2.1+0); rw [Int.add_zero]; exact e2,e3⟩
   ·obtain ⟨f,m,f1,f2,f3⟩:=hb.yes hvt hb1
    obtain ⟨mq,m1⟩:=f2.head
    have hbl:b.2.1 = (f:Int) :: castL mq:=by rw [f1,m1]; rfl
    have hlen2:decide ((List.length b.2.1:Int) > 0)=true:=decide_eq_true (by rw [hbl]; simp)
    have hal2:a.2.1.length=ql.length+1:=by rw [hal]; simp
    have hw:IntKind.i64.wrap ((List.length a.2.1:Int) - 1) = (ql.length:Int):=by rw [hal2]; exact wrap_p _ (by omega)
    have hb0:(0:Int) ≤ (ql.length:Int) ∧ (ql.length:Int) < (a.2.1.length:Int):=⟨by omega,by omega⟩
    have hbb:(0:Int)≤0 ∧ (0:Int) < (b.2.1.length:Int):=⟨by omega,by rw [hbl]; simp⟩
    have hga:a.2.1.getD ql.length 0 = (zl:Int):=by rw [hal]; simp [castL,List.getD_eq_getElem?_getD]
    have hgb:b.2.1.getD (Int.toNat 0) 0 = (f:Int):=by rw [hbl]; rfl
    have h66:f66 k net (zl:Int) (f:Int)=some (turnOf g (zl:Int) (f:Int)):=by
     rw [e66 hg k hn (road_nat z2) (road_nat f2.lt),if_pos]
     unfold roadAt; rw [Int.toNat_natCast,Int.toNat_natCast]
     exact z3.trans f3.symm
    have htr:=turn_range g (zl:Int) (f:Int)
    rw [hlen2,if_t rfl,hw,if_t hb0,if_t hbb,Int.toNat_natCast,hga,hgb,h66,Option.bind_some]
    by_cases hneg:turnOf g (zl:Int) (f:Int) < 0
    ·rw [if_t (by rw [decide_eq_true_eq]; exact hneg)]
     exact ⟨_,rfl,fun h => (by cases h),fun h => absurd h hsv,fun h => absurd h hvt⟩
    ·rw [if_f (by rw [decide_eq_true_eq]; exact hneg),w1,j6,wrap_in (n:=a.2.2.1+b.2.2.1+turnOf g (zl:Int) (f:Int)) (by omega) (by omega)]
     refine ⟨_,rfl,fun _ => ⟨.inr ⟨e,l ++ m,?_,?_,e3⟩,by simp; omega,by show 0≤a.2.2.1+b.2.2.1+turnOf g (zl:Int) (f:Int); omega,by show a.2.2.1+b.2.2.1+turnOf g (zl:Int) (f:Int)≤_; omega⟩,fun h => absurd h hsv,fun h => absurd h hvt⟩
     ·show a.2.1 ++ b.2.1=_
      rw [e1,f1]; simp [castL]
     ·show Wk g (t:Int) e (l ++ m) (a.2.2.1+b.2.2.1+turnOf g (zl:Int) (f:Int))
      rw [show a.2.2.1+b.2.2.1+turnOf g (zl:Int) (f:Int)=a.2.2.1+turnOf g (zl:Int) (f:Int)+b.2.2.1 by omega]
      exact e2.app f2 f3 ql zl z1 (by omega)
theorem same14 (k:Nat) (hk:1048576 < k) (l:List Int) (hl:l.length≤1048576):f14 k l l=some true:=by
 have q:=allLoop (L:=f14.l18 k l l) (n:=l.length) (p:=fun _ => true) (fin:=some true) (fun m i hi => by
  have hb:(0:Int) ≤ (i:Int) ∧ (i:Int) < (l.length:Int):=⟨by omega,by omega⟩
  rw [f14.l18,if_t (decide_eq_true hb.2),if_t hb,if_t hb,if_f (by simp),wrap_s (by omega)]; rfl) (fun m => by rw [f14.l18,if_f (by simp)]) (k:=k) (by omega)
 unfold f14
 rw [if_f (by simp),q,show allTo (fun _ => true) l.length=true from allTo_iff.2 (fun _ _ => rfl),cond_true]
theorem via_no (k:Nat) (hk:1099511627776 < k) (g:Graph) (h1:g.1.length≤1048576) (h2:g.2.1.length≤1048576) (h3:g.2.2.length≤1048576) (s v t:Int) (h:¬ (graphOk g=true∧spotIs g s=true∧spotIs g v=true∧spotIs g t=true)):f21 k g s v t=some noP:=by
 unfold f21
 rw [impl9 k (by omega) g h1 h2 h3,Option.bind_some]
 cases hok:graphOk g with
 | false => rw [if_t (by simp)]
 | true =>
   obtain ⟨net,hn,hno⟩:=e36 (gok hok) k (by omega)
   rw [if_f (by simp),hn,Option.bind_some,e37 k hno,e37 k hno,e37 k hno,Option.bind_some]
   cases hs:spotIs g s with
   | false => simp
   | true =>
     cases hv:spotIs g v with
     | false => simp
     | true =>
       cases ht:spotIs g t with
       | false => simp
       | true => exact absurd ⟨hok,hs,hv,ht⟩ h
theorem best_no (k:Nat) (hk:1099511627776 < k) (g:Graph) (h1:g.1.length≤1048576) (h2:g.2.1.length≤1048576) (h3:g.2.2.length≤1048576) (s t:Int) (h:¬ (graphOk g=true∧spotIs g s=true∧spotIs g t=true)):f10 k g s t=some noP:=by
 unfold f10
 rw [impl9 k (by omega) g h1 h2 h3,Option.bind_some]
 cases hok:graphOk g with
 | false => rw [if_t (by simp)]
 | true =>
   obtain ⟨net,hn,hno⟩:=e36 (gok hok) k (by omega)
   rw [if_f (by simp),hn,Option.bind_some,e37 k hno,e37 k hno,Option.bind_some]
   cases hs:spotIs g s with
   | false => simp
   | true =>
     cases ht:spotIs g t with
     | false => simp
     | true => exact absurd ⟨hok,hs,ht⟩ h
theorem via_yes (k:Nat) (hk:1099511627776 < k) {g:Graph} (hg:GOk g) {s v t:Nat} (hs:s < g.1.length) (hv:v < g.1.length) (ht:t < g.1.length) {net:Net} (hn:f36 k g=some net) (hno:NetOf g net) {a b p:Pt} (ha:f38 k net (s:Int) (v:Int)=some a) (hb:f38 k net (v:Int) (t:Int)=some b) (hp:f46 k net a b=some p):f21 k g (s:Int) (v:Int) (t:Int)=some p:=by
 have n1:=hg.n1
 have n2:=hg.n2
 have n3:=hg.n3
 have s1:spotIs g (s:Int)=true:=spotIs_iff.2 ⟨by omega,by omega⟩
 have s2:spotIs g (v:Int)=true:=spotIs_iff.2 ⟨by omega,by omega⟩
 have s3:spotIs g (t:Int)=true:=spotIs_iff.2 ⟨by omega,by omega⟩
 unfold f21
 rw [impl9 k (by omega) g (by omega) (by omega) (by omega),ok_of hg,Option.bind_some,if_f (by simp),hn,Option.bind_some,e37 k hno,e37 k hno,e37 k hno,s1,s2,s3]
 simp [ha,hb,hp]
theorem best_yes (k:Nat) (hk:1099511627776 < k) {g:Graph} (hg:GOk g) {s t:Nat} (hs:s < g.1.length) (ht:t < g.1.length) {net:Net} (hn:f36 k g=some net) (hno:NetOf g net) {a:Pt} (ha:f38 k net (s:Int) (t:Int)=some a):f10 k g (s:Int) (t:Int)=some a:=by
 have n1:=hg.n1
 have n2:=hg.n2
 have n3:=hg.n3
 have s1:spotIs g (s:Int)=true:=spotIs_iff.2 ⟨by omega,by omega⟩
 have s3:spotIs g (t:Int)=true:=spotIs_iff.2 ⟨by omega,by omega⟩
 unfold f10
 rw [impl9 k (by omega) g (by omega) (by omega) (by omega),ok_of hg,Option.bind_some,if_f (by simp),hn,Option.bind_some,e37 k hno,e37 k hno,s1,s3]
 simp [ha]
theorem len38 (k:Nat) (hk:1099511627776 < k) {g:Graph} (hg:GOk g) {s t:Nat} (hs:s < g.1.length) (ht:t < g.1.length) {net:Net} (hn:f36 k g=some net) (hno:NetOf g net) {a:Pt} (ha:f38 k net (s:Int) (t:Int)=some a):a.2.1.length≤9000:=by
 obtain ⟨tm,ct,q1,q2,q3⟩:=same_back hg k hk (t:Int) hno
 obtain ⟨es,es1,es2,es3⟩:=e49 hg k (by omega) false
 have hss:spotIs g (s:Int)=true:=spotIs_iff.2 ⟨by omega,by omega⟩
 obtain ⟨y,y1,y2,y3⟩:=best_same hg k hk hno ⟨es2,es3⟩ hss q3 q2
 rw [ha] at y2
 rw [Option.some.inj y2]
 first | exact y3 | exact y3.1 | omega
theorem law5 (x:List Int):∃ k,f5 k x=some true:=by
 refine ⟨1099511627777,?_⟩
 have hk:1099511627776 < 1099511627777:=by decide
 have hk1:1048576 < 1099511627777:=by decide
 generalize (1099511627777:Nat)=k at *
 unfold f5 f7
 rw [Option.bind_some]
 split
 ·rfl
 ·rename_i hx
  have hx':x.length≤1048576:=by rw [decide_eq_true_eq] at hx; omega
  obtain ⟨c,c1,c2⟩:=t31 k x hx' hk1
  obtain ⟨r,r1,r2,r3⟩:=t32 k hk1 c c2
  obtain ⟨qs,q1,q2⟩:=t33 k r.2 r.1 r2
  obtain ⟨qv,q3,q4⟩:=t33 k qs.2 r.1 q2
  obtain ⟨qt,q5,q6⟩:=t33 k qv.2 r.1 q4
  have h20:f20 k x=some (r.1,(qs.1,(qv.1,qt.1))):=by unfold f20; rw [c1,Option.bind_some,r1,Option.bind_some,q1,Option.bind_some,q3,Option.bind_some,q5,Option.bind_some]
  have hp:=r3.p
  have hr:=r3.r
  have hb:=r3.b
  generalize r.1=g at *
  generalize qs.1=s at *
  generalize qv.1=v at *
  generalize qt.1=t at *
  obtain ⟨p,p1,p2,p3⟩:=same_via k hk g (by omega) (by omega) (by omega) s v t
  rw [h20,Option.bind_some]
  simp only
  rw [p2,Option.bind_some,impl9 k hk1 noG (by simp) (by simp) (by simp),show graphOk noG=true from noG_ok,Option.bind_some,if_f (by simp),p1,Option.bind_some,if_f (by simp)]
  by_cases hall:graphOk g=true∧spotIs g s=true∧spotIs g t=true
  ·obtain ⟨hok,hs,ht⟩:=hall
   have hg:=gok hok
   obtain ⟨net,hn,hno⟩:=e36 hg k hk1
   obtain ⟨s0,s1⟩:=spotIs_iff.1 hs
   obtain ⟨t0,t1⟩:=spotIs_iff.1 ht
   obtain ⟨s,rfl⟩:∃ z:Nat,s = (z:Int):=⟨s.toNat,by omega⟩
   obtain ⟨t,rfl⟩:∃ z:Nat,t = (z:Int):=⟨t.toNat,by omega⟩
   have hsl:s < g.1.length:=by omega
   have htl:t < g.1.length:=by omega
   have mk:∀ a b:Nat,a < g.1.length→b < g.1.length→∃ y,f38 k net (a:Int) (b:Int)=some y∧BP g a b y:=fun a b ha hb => by
    obtain ⟨y,y1,y2⟩:=bp38 hg k hk hno (t:=b) ha
    exact ⟨y,y1,y2 (len38 k hk hg ha hb hn hno y1)⟩
   obtain ⟨bst,b1,b2⟩:=mk s t hsl htl
   obtain ⟨bss,b3,b4⟩:=mk s s hsl hsl
   obtain ⟨btt,b5,b6⟩:=mk t t htl htl
   obtain ⟨xx,x1,_,x2,_⟩:=join_told hg k hno b4 b2
   obtain ⟨yy,y1,_,_,y2⟩:=join_told hg k hno b2 b6
   obtain ⟨a1,a2,a3⟩:=x2 rfl
   obtain ⟨d1,d2,d3⟩:=y2 rfl
   rw [best_yes k hk hg hsl htl hn hno b1,Option.bind_some]
   have hbl:=b2.len
   have tail:((f21 k g (s:Int) (s:Int) (t:Int)).bind fun r8 => ((f21 k g (s:Int) (t:Int) (t:Int)).bind fun r9 => ((if ((bif ((r8.1:Bool) == bst.1) then ((r8.2.2.1:Int) == bst.2.2.1) else false)=true) then f14 k r8.2.1 bst.2.1 else some default).bind fun r10 => ((if ((bif (bif (bif ((r8.1:Bool) == bst.1) then ((r8.2.2.1:Int) == bst.2.2.1) else false) then r10 else false) then ((r9.1:Bool) == bst.1) else false)=true) then f14 k r9.2.1 bst.2.1 else some default).bind fun r11 => (some (bif (bif (bif (bif ((r8.1:Bool) == bst.1) then ((r8.2.2.1:Int) == bst.2.2.1) else false) then r10 else false) then ((r9.1:Bool) == bst.1) else false) then r11 else false))))))=some true:=by
    rw [via_yes k hk hg hsl hsl htl hn hno b3 b1 x1,Option.bind_some,via_yes k hk hg hsl htl htl hn hno b1 b5 y1,Option.bind_some,a1,a2,a3,d1,d3]
    simp only [beq_self_eq_true,cond_true,if_true,same14 k hk1 _ (show bst.2.1.length≤1048576 by omega),Option.bind_some]
   cases hf:p.1 with
   | false =>
     rw [if_f (by simp),Option.bind_some]
     simp only [cond_false]
     rw [if_f (by simp)]
     exact tail
   | true =>
     have hv:spotIs g v=true:=by
      cases h:spotIs g v with
      | true => rfl
      | false =>
        rw [via_no k hk g (by omega) (by omega) (by omega) _ v _ (fun hh => by rw [h] at hh; exact absurd hh.2.2.1 (by simp))] at p2
        rw [← Option.some.inj p2] at hf; cases hf
     obtain ⟨v0,v1⟩:=spotIs_iff.1 hv
     obtain ⟨v,rfl⟩:∃ z:Nat,v = (z:Int):=⟨v.toNat,by omega⟩
     have hvl:v < g.1.length:=by omega
     obtain ⟨bsv,e1,e2⟩:=mk s v hsl hvl
     obtain ⟨bvt,e3,e4⟩:=mk v t hvl htl
     obtain ⟨pp,z1,z2,_,_⟩:=join_told hg k hno e2 e4
     have hpp:=via_yes k hk hg hsl hvl htl hn hno e1 e3 z1
     rw [p2] at hpp
     obtain rfl:=Option.some.inj hpp
     obtain ⟨i1,i2,i3,i4⟩:=z2 hf
     rw [if_t rfl,path11 hg k hk hsl htl i1 (by omega) (by omega),Option.bind_some]
     have hbest:bst.1=true∧bst.2.2.1≤p.2.2.1:=by
      by_cases hst:s=t
      ·rw [b2.same hst]; exact ⟨rfl,i3⟩
      ·rcases i1 with ⟨h,_⟩ | ⟨e,l,_,h2,h3⟩
       ·exact absurd h hst
       ·exact b2.min hst e l _ h3 h2
     rw [hbest.1,decide_eq_false (show ¬ p.2.2.1 < bst.2.2.1 by omega)]
     rw [if_f (by simp)]
     rw [hbest.1] at tail
     exact tail
  ·have hx1:=via_no k hk g (by omega) (by omega) (by omega) s s t (fun h => hall ⟨h.1,h.2.1,h.2.2.2⟩)
   have hx2:=via_no k hk g (by omega) (by omega) (by omega) s t t (fun h => hall ⟨h.1,h.2.1,h.2.2.2⟩)
   have hx3:=via_no k hk g (by omega) (by omega) (by omega) s v t (fun h => hall ⟨h.1,h.2.1,h.2.2.2⟩)
   have hx4:=best_no k hk g (by omega) (by omega) (by omega) s t hall
   rw [hx3] at p2
   obtain rfl:=Option.some.inj p2
   rw [hx4,Option.bind_some,if_f (by simp),Option.bind_some]
   simp only [cond_false]
   rw [if_f (by simp),hx1,Option.bind_some,hx2,Option.bind_some]
   simp only [beq_self_eq_true,cond_true,if_true,same14 k hk1 [] (by simp),Option.bind_some]
end Go.Proofs.Ytdjadmdiehkfdaa
