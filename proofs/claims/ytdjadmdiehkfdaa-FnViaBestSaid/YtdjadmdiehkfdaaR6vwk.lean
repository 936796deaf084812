/-
  Walks: the labels from the beginning and those to the end are the least times of the same walks; the program's best way is one. No condition.
-/
import Derived.Test.YtdjadmdiehkfdaaR6vba
set_option linter.unusedVariables false
set_option linter.unusedSimpArgs false
namespace Go.Proofs.Ytdjadmdiehkfdaa
open Go Go.Vm Go.Proofs V
abbrev fr (g:Graph) (e:Nat):Int:=(g.2.1.getD e dR).1
abbrev tt (g:Graph) (e:Nat):Int:=(g.2.1.getD e dR).2.1
inductive Wk (g:Graph) (t:Int):Nat→List Nat→Int→Prop
 | one {e:Nat}:e < g.2.1.length→tt g e=t→Wk g t e [e] (timeOf g e)
 | cons {e x:Nat} {l:List Nat} {c:Int}:e < g.2.1.length→Wk g t x l c→fr g x=tt g e→0≤turnOf g (e:Int) (x:Int)→Wk g t e (e :: l) (timeOf g e+turnOf g (e:Int) (x:Int)+c)
theorem Wk.lt {g:Graph} {t:Int} {e:Nat} {l:List Nat} {c:Int} (h:Wk g t e l c):e < g.2.1.length:=by cases h <;> assumption
theorem fr_nn {g:Graph} (hg:GOk g) {e:Nat} (he:e < g.2.1.length):(0≤fr g e∧fr g e < (g.1.length:Int)) ∧ (0≤tt g e∧tt g e < (g.1.length:Int)):=by
 have:=road_ends hg (road_nat he)
 unfold roadAt at this
 rw [Int.toNat_natCast] at this
 exact this
theorem cost_yes {g:Graph} {a b:Nat} (e:Nat) (h:0≤turnOf g (a:Int) (b:Int)):costN g a b e=turnOf g (a:Int) (b:Int)+timeOf g e:=by unfold costN; rw [if_neg (by omega)]
theorem cost_nn {g:Graph} {a b e:Nat} (h:0≤costN g a b e):0≤turnOf g (a:Int) (b:Int)∧costN g a b e=turnOf g (a:Int) (b:Int)+timeOf g e:=by
 unfold costN at h ⊢
 by_cases hl:turnOf g (a:Int) (b:Int) < 0
 ·rw [if_pos hl] at h; omega
 ·rw [if_neg hl]; exact ⟨by omega,rfl⟩
theorem back_le {g:Graph} {hg:GOk g} {t:Int} {tm ct:List Int} (h:Final (dgB g hg t) tm ct) {e:Nat} {l:List Nat} {c:Int} (hw:Wk g t e l c):0≤T tm e∧T tm e≤c:=by
 induction hw with
 | @one e he ht =>
   obtain ⟨h1,h2⟩:=h.sta e (timeOf g e) he (if_pos ⟨he,ht⟩)
   unfold Le at h2; omega
 | @cons e x l c he hw hf htu ih =>
   have hx:=hw.lt
   have hxe:=(fr_nn hg hx).1
   have hadj:e ∈ (dgB g hg t).adj x:=by
    show e ∈ inN g (g.2.1.getD x dR).1.toNat
    rw [mem_in]
    exact ⟨he,by show tt g e=_; rw [← hf]; show fr g x = ((fr g x).toNat:Int); omega⟩
   have hco:(dgB g hg t).cost x e=turnOf g (e:Int) (x:Int)+timeOf g e:=(if_pos he).trans (cost_yes e htu)
   have htm:=time_bd hg he
   obtain ⟨h1,h2⟩:=h.rel x hx ih.1 e he hadj (by rw [hco]; omega)
   rw [hco] at h2
   unfold Le at h2; omega
theorem Le.trans {a b c d e f:Int} (h1:Le a b c d) (h2:Le c d e f):Le a b e f:=by unfold Le at *; omega
theorem Le.total (a b c d:Int):Le a b c d∨Le c d a b:=by unfold Le; omega
theorem min_key (key:Nat→Option (Int × Int)):∀ l:List Nat,(∃ x,x ∈ l∧∃ a b,key x=some (a,b))→∃ A B,(∃ e,e ∈ l∧key e=some (A,B))∧∀ x ∈ l,∀ a b,key x=some (a,b)→Le A B a b
 | [],h => by obtain ⟨x,hx,_⟩:=h; cases hx
 | y :: l,h => by
   by_cases hl:∃ x,x ∈ l∧∃ a b,key x=some (a,b)
   ·obtain ⟨A,B,⟨e,he,hk⟩,hm⟩:=min_key key l hl
    cases hy:key y with
    | none => exact ⟨A,B,⟨e,List.mem_cons_of_mem _ he,hk⟩,fun x hx a b hxa => by
     rcases List.mem_cons.1 hx with rfl | hx
     ·rw [hy] at hxa; cases hxa
     ·exact hm x hx a b hxa⟩
    | some v =>
      obtain ⟨C,D⟩:=v
      rcases Le.total A B C D with hle | hle
      ·exact ⟨A,B,⟨e,List.mem_cons_of_mem _ he,hk⟩,fun x hx a b hxa => by
        rcases List.mem_cons.1 hx with rfl | hx
        ·rw [hy] at hxa; cases hxa; exact hle
        ·exact hm x hx a b hxa⟩
      ·exact ⟨C,D,⟨y,List.mem_cons_self,hy⟩,fun x hx a b hxa => by
        rcases List.mem_cons.1 hx with rfl | hx
        ·rw [hy] at hxa; cases hxa; unfold Le; omega
        ·exact Le.trans hle (hm x hx a b hxa)⟩
   ·obtain ⟨x,hx,a,b,hxa⟩:=h
    rcases List.mem_cons.1 hx with rfl | hx
    ·exact ⟨a,b,⟨x,List.mem_cons_self,hxa⟩,fun z hz c d hzc => by
      rcases List.mem_cons.1 hz with rfl | hz
      ·rw [hxa] at hzc; cases hzc; unfold Le; omega
      ·exact absurd ⟨z,hz,c,d,hzc⟩ hl⟩
    ·exact absurd ⟨x,hx,a,b,hxa⟩ hl
theorem pk_min (key:Nat→Option (Int × Int)) (l:List Nat):(pk key l = (-1,0,0)∧∀ x ∈ l,key x=none)∨∃ e A B,e ∈ l∧key e=some (A,B)∧pk key l = ((e:Int),A,B)∧∀ x ∈ l,∀ a b,key x=some (a,b)→Le A B a b:=by
 by_cases hl:∃ x,x ∈ l∧∃ a b,key x=some (a,b)
 ·obtain ⟨A,B,hex,hm⟩:=min_key key l hl
  obtain ⟨l1,e,l2,h1,h2,h3⟩:=first_split hex
  refine .inr ⟨e,A,B,by rw [h1]; simp,h2,?_,hm⟩
  rw [h1]
  exact pk_first h2 h3 (by rw [← h1]; exact hm)
 ·have hn:∀ x ∈ l,key x=none:=fun x hx => by
   cases h:key x with
   | none => rfl
   | some v => exact absurd ⟨x,hx,v.1,v.2,h⟩ hl
  rcases pk_mem key l with h | ⟨e,a,b,h1,h2,_⟩
  ·exact .inl ⟨h,hn⟩
  ·rw [hn e h1] at h2; cases h2
theorem next_impl {g:Graph} {hg:GOk g} {t:Int} {tm ct:List Int} (h:Final (dgB g hg t) tm ct) {e:Nat} (he:e < g.2.1.length) (hf:0≤T tm e) (hc:T ct e≠1) :
 ∃ x,x < g.2.1.length∧0≤T tm x∧T ct x=T ct e - 1∧fr g x=tt g e∧0≤turnOf g (e:Int) (x:Int)∧T tm e=timeOf g e+turnOf g (e:Int) (x:Int)+T tm x ∧ (pk (keyOf tm ct fun x => turnOf g (e:Int) (x:Int)) (outN g (g.2.1.getD e dR).2.1.toNat)).1 = (x:Int):=by
 have hend:0 ≤ (g.2.1.getD e dR).2.1 ∧ (g.2.1.getD e dR).2.1 < (g.1.length:Int):=(fr_nn hg he).2
 have hcv:∀ x,(dgB g hg t).cost x e=costN g e x e:=fun x => if_pos he
 have hdl:(dgB g hg t).dl=1:=rfl
 have hadj:∀ x,x < g.2.1.length→x ∈ outN g (g.2.1.getD e dR).2.1.toNat→e ∈ (dgB g hg t).adj x:=fun x hx hm => by
  have h1:=(mem_out.1 hm).2
  show e ∈ inN g (g.2.1.getD x dR).1.toNat
  rw [mem_in]
  exact ⟨he,by omega⟩
 have k1:∀ x a b,keyOf tm ct (fun x => turnOf g (e:Int) (x:Int)) x=some (a,b)→0≤T tm x∧0≤turnOf g (e:Int) (x:Int)∧a=T tm x+turnOf g (e:Int) (x:Int)∧b=T ct x:=fun x a b hk => keyOf_some hk
 have hmin:∀ x ∈ outN g (g.2.1.getD e dR).2.1.toNat,∀ a b,keyOf tm ct (fun x => turnOf g (e:Int) (x:Int)) x=some (a,b)→Le (T tm e - timeOf g e) (T ct e - 1) a b:=fun x hx a b hk => by
  obtain ⟨q1,q2,q3,q4⟩:=k1 x a b hk
  have hxn:=(mem_out.1 hx).1
  have hco:=cost_yes (g:=g) (a:=e) (b:=x) e q2
  have htm:=time_bd hg he
  obtain ⟨_,r2⟩:=h.rel x hxn q1 e he (hadj x hxn hx) (by rw [hcv,hco]; omega)
  rw [hcv,hco,hdl] at r2
  unfold Le at r2 ⊢; omega
 have hexist:∃ x,x ∈ outN g (g.2.1.getD e dR).2.1.toNat∧keyOf tm ct (fun x => turnOf g (e:Int) (x:Int)) x=some (T tm e - timeOf g e,T ct e - 1):=by
  rcases h.att e he hf with ⟨_,h2⟩ | ⟨x,hx,hfx,h1,h2,h3,h4⟩
  ·rw [hdl] at h2; exact absurd h2 hc
  ·have h1':e ∈ inN g (g.2.1.getD x dR).1.toNat:=h1
   have h1'':=(mem_in.1 h1').2
   have hxe:=(fr_nn hg (show x < g.2.1.length from hx)).1
   rw [hcv] at h2 h3
   rw [hdl] at h4
   have hco:=cost_nn h2
   refine ⟨x,mem_out.2 ⟨hx,by show fr g x = ((tt g e).toNat:Int); have:tt g e = ((fr g x).toNat:Int):=h1''; omega⟩,?_⟩
   exact (key_yes (v:=turnOf g (e:Int) (x:Int)) rfl (by omega)).trans (by congr 2 <;> omega)
 obtain ⟨a1,x,a2,b1,b2,b3⟩:=first_split hexist
 have hxm:x ∈ outN g (g.2.1.getD e dR).2.1.toNat:=by rw [b1]; simp
 obtain ⟨q1,q2,q3,q4⟩:=k1 x _ _ b2
 have hxo:=mem_out.1 hxm
 refine ⟨x,hxo.1,q1,by omega,by show (g.2.1.getD x dR).1=tt g e; rw [hxo.2]; show ((tt g e).toNat:Int)=tt g e; have h0:0≤tt g e:=hend.1; omega,q2,by omega,?_⟩
 rw [b1,pk_first (key:=keyOf tm ct fun x => turnOf g (e:Int) (x:Int)) b2 b3 (fun y hy => hmin y (by rw [b1]; exact hy))]
def lnS (g:Graph) (a:Int) (l:List Nat):Int:=l.foldl (fun a e => IntKind.i64.wrap (a + (g.2.1.getD e dR).2.2.2.2.1)) a
abbrev castL (l:List Nat):List Int:=l.map fun (r:Nat) => (r:Int)
theorem walk_impl {g:Graph} (hg:GOk g) (k:Nat) (hk:1048576 < k) {t:Int} {tm ct:List Int} (h:Final (dgB g hg t) tm ct) {net:Net} (hn:NetOf g net) (r:Int) (hr:0≤r∧r < (tm.length:Int)) :
 ∀ (c m e:Nat) (p:List Int) (ln:Int),e < g.2.1.length→0≤T tm e→T ct e = (c:Int)→c < m→p.length+c≤9000 →
   ∃ l,f38.l3 k net t (tm,ct) r m ((e:Int),p,ln)=some (true,(p ++ castL (e :: l),(tm.getD r.toNat 0,lnS g ln (e :: l))))∧Wk g t e (e :: l) (T tm e)
 | 0,m,e,p,ln,he,hf,hc,h1,h3 => by have:=ct_pos h he hf; omega
 | c+1,m,e,p,ln,he,hf,hc,h1,h3 => by
   obtain ⟨m,rfl⟩:∃ q,m=q+1:=⟨m - 1,by omega⟩
   have n2:=hg.n2
   have be:(0:Int) ≤ (e:Int) ∧ (e:Int) < (g.2.1.length:Int):=⟨by omega,by omega⟩
   have hend:0 ≤ (g.2.1.getD e dR).2.1 ∧ (g.2.1.getD e dR).2.1 < (g.1.length:Int):=(fr_nn hg he).2
   have bno:(0:Int) ≤ (g.2.1.getD e dR).2.1 ∧ (g.2.1.getD e dR).2.1 < (net.2.1.length:Int):=by rw [hn.out.1]; exact hend
   have hpl:(p.length + ([(e:Int)]).length)*8≤140737488355328:=by simp only [List.length_singleton]; omega
   have hapl:(List.append p [(e:Int)]).length=p.length+1:=by rw [show List.append p [(e:Int)]=p ++ [(e:Int)] from rfl,List.length_append]; rfl
   rw [f38.l3]
   simp only [hn.fst,if_t hpl,if_t be,Int.toNat_natCast]
   by_cases hto:(g.2.1.getD e dR).2.1=t
   ·rw [if_t (by simpa using hto)]
    refine ⟨[],rfl,?_⟩
    have hc1:=(end_iff h he hf).2 hto
    have hte:T tm e=timeOf g e:=by
     obtain ⟨_,h2⟩:=h.sta e (timeOf g e) he (if_pos ⟨he,hto⟩)
     rcases h.att e he hf with ⟨h1,_⟩ | ⟨x,hx,hfx,_,_,_,h4⟩
     ·have h1':(if e < g.2.1.length ∧ (g.2.1.getD e dR).2.1=t then some (timeOf g e) else none)=some (T tm e):=h1
      rw [if_pos ⟨he,hto⟩] at h1'
      exact (Option.some.inj h1').symm
     ·have h4':T ct e=T ct x+1:=h4
      have:=ct_pos h hx hfx
      omega
    rw [hte]
    exact .one he hto
   ·have hc1:T ct e≠1:=fun hh => hto ((end_iff h he hf).1 hh)
    obtain ⟨x,x1,x2,x3,x4,x5,x6,x7⟩:=next_impl h he hf hc1
    rw [if_f (by simpa using hto),if_t bno]
    have hadj:net.2.1.getD (g.2.1.getD e dR).2.1.toNat [] = (outN g (g.2.1.getD e dR).2.1.toNat).map fun (r:Nat) => (r:Int):=by
     rw [hn.out.2 _ (by omega)]; exact outs_eq g _
    have hln:(outN g (g.2.1.getD e dR).2.1.toNat).length≤g.2.1.length:=Nat.le_trans (List.length_filter_le _ _) (by simp)
    have hb:=e63b (n:=g.2.1.length) k hk net (e:Int) tm ct h.l1 h.l2 n2 (fun x hx => (tm_bd h hx).1) (outN g (g.2.1.getD e dR).2.1.toNat) (fun x hx => (mem_out.1 hx).1) (by omega) (fun x => turnOf g (e:Int) (x:Int)) (fun x hx => by
     have hxo:=mem_out.1 hx
     refine ⟨?_,(turn_range g (e:Int) (x:Int)).2⟩
     rw [e66 hg k hn (road_nat he) (road_nat hxo.1),if_pos]
     unfold roadAt; rw [Int.toNat_natCast,Int.toNat_natCast]
     have:=hxo.2
     show (g.2.1.getD e dR).2.1 = (g.2.1.getD x dR).1
     omega)
    rw [hadj,hb,Option.bind_some,x7]
    obtain ⟨l,l1,l2⟩:=walk_impl hg k hk h hn r hr c m x (List.append p [(e:Int)]) (IntKind.i64.wrap (ln + (g.2.1.getD e dR).2.2.2.2.1)) x1 x2 (by omega) (by omega) (by rw [hapl]; omega)
    refine ⟨x :: l,?_,?_⟩
    ·rw [l1]
     show some (true,((p ++ [(e:Int)]) ++ castL (x :: l),_))=_
     rw [List.append_assoc]
     rfl
    ·rw [x6]
     exact .cons he l2 x4 x5
structure Told (g:Graph) (tm:List Int) (s:Int) (t:Int) (y:Bool × (List Int × (Int × Int))):Prop where
 no:y.1=false→y = (false,([],(0,0)))∧∀ e,e < g.2.1.length→fr g e=s→T tm e < 0
 yes:y.1=true→∃ e l,y = (true,(castL (e :: l),(T tm e,lnS g 0 (e :: l))))∧e < g.2.1.length∧fr g e=s∧0≤T tm e∧Wk g t e (e :: l) (T tm e)∧∀ x,x < g.2.1.length→fr g x=s→0≤T tm x→T tm e≤T tm x
theorem best_told {g:Graph} (hg:GOk g) (k:Nat) (hk:1099511627776 < k) {net:Net} (hn:NetOf g net) {s:Nat} (hs:s < g.1.length) (t:Int) (hst:(s:Int)≠t) :
 ∃ y tm ct,f38 k net (s:Int) t=some y∧f45 k net t=some (tm,ct)∧Final (dgB g hg t) tm ct∧Told g tm (s:Int) t y:=by
 have n2:=hg.n2
 obtain ⟨tm,ct,h45,h⟩:=e45 hg k hk t hn
 have bno:(0:Int) ≤ (s:Int) ∧ (s:Int) < (net.2.1.length:Int):=by rw [hn.out.1]; exact ⟨by omega,by omega⟩
 have hln:(outN g s).length≤g.2.1.length:=Nat.le_trans (List.length_filter_le _ _) (by simp)
 have ha2:net.2.1.getD s [] = (outN g s).map fun (r:Nat) => (r:Int):=by rw [hn.out.2 s (by omega)]; exact outs_eq g s
 have hmem:∀ x ∈ outN g s,x < g.2.1.length:=fun x hx => (mem_out.1 hx).1
 have q2:=e63 (n:=g.2.1.length) k (by omega) tm ct h.l1 h.l2 n2 (fun x hx => (tm_bd h hx).1) (outN g s) hmem (by omega)
 have tl1:tm.length=g.2.1.length:=h.l1
 have key0:∀ x,0≤T tm x→keyOf tm ct (fun _ => 0) x=some (T tm x+0,T ct x):=fun x hx => key_yes (v:=0) rfl (by omega)
 unfold f38
 rw [if_f (show ¬ (((s:Int) == t)=true) by simpa using hst),h45,Option.bind_some,if_t bno,Int.toNat_natCast]
 simp only
 rw [ha2,q2,Option.bind_some]
 rcases pk_min (keyOf tm ct fun _ => 0) (outN g s) with ⟨hp,hnone⟩ | ⟨e,A,B,m1,m2,hp,hmin⟩
 ·rw [hp,if_t (by decide)]
  refine ⟨_,tm,ct,rfl,rfl,h,⟨fun _ => ⟨rfl,fun e he hf => ?_⟩,fun h => by cases h⟩⟩
  have:=hnone e (mem_out.2 ⟨he,hf⟩)
  by_cases hx:0≤T tm e
  ·rw [key0 e hx] at this; cases this
  ·omega
 ·have hen:=hmem e m1
  obtain ⟨hf,_,hA,hB⟩:=keyOf_some m2
  have be:(0:Int) ≤ (e:Int) ∧ (e:Int) < (tm.length:Int):=⟨by omega,by omega⟩
  have hcp:=ct_pos h hen hf
  have hcb:=(tm_bd h hen).2
  have hz:¬ (decide ((e:Int) < 0)=true):=by rw [decide_eq_true_eq]; omega
  rw [hp]
  simp only [if_f hz,if_t be]
  obtain ⟨l,l1,l2⟩:=walk_impl hg k (by omega) h hn (e:Int) be (T ct e).toNat k e [] 0 hen hf (by omega) (by omega) (by rw [List.length_nil]; omega)
  refine ⟨_,tm,ct,l1,rfl,h,⟨fun h => (by cases h),fun _ => ⟨e,l,?_,hen,(mem_out.1 m1).2,hf,l2,fun x hx hxs hxf => ?_⟩⟩⟩
  ·rw [List.nil_append,Int.toNat_natCast]
  ·have:=hmin x (mem_out.2 ⟨hx,hxs⟩) _ _ (key0 x hxf)
   unfold Le at this; omega
end Go.Proofs.Ytdjadmdiehkfdaa
