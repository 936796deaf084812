/-
  FnReach: at every draw the law's function returns true. No condition.
-/
import Derived.Test.YtdjadmdiehkfdaaR6rwk
import Derived.Test.YtdjadmdiehkfdaaR6rsl
import Derived.Test.YtdjadmdiehkfdaaR6rdg
set_option linter.unusedVariables false
set_option linter.unusedSimpArgs false
namespace Go.Proofs.Ytdjadmdiehkfdaa
open Go Go.Vm Go.Proofs V
theorem spot_eq (g:Graph) (p:Int):(bif (decide ((p:Int) ≥ (0:Int))) then (decide ((p:Int) < (List.length g.1:Int))) else false)=spotIs g p:=by
 unfold spotIs
 cases decide (p ≥ 0) <;> simp
theorem e37 (k:Nat) {g:Graph} {t:Net} (ht:NetOf g t) (p:Int):f37 k t p=some (spotIs g p):=by unfold f37; rw [ht.fst,spot_eq]
theorem ok_of {g:Graph} (h:GOk g):graphOk g=true:=by
 unfold graphOk
 rw [decide_eq_true h.n1,decide_eq_true h.n2,decide_eq_true h.n3,allTo_iff.2 h.spot,allTo_iff.2 h.road,allTo_iff.2 h.ban]
 rfl
theorem reach16 (k:Nat) (hk:1099511627776 < k) (g:Graph) (h1:g.1.length≤1048576) (h2:g.2.1.length≤1048576) (h3:g.2.2.length≤1048576) (s:Int) :
 ∃ l,f16 k g s=some l ∧ ((graphOk g=false∨spotIs g s=false)→l=[])∧∀ (hg:GOk g) (n:Nat),s = (n:Int)→n < g.1.length→∃ tf cf,Final (dgF g hg n) tf cf∧Outs g n (fun r => 0≤T tf r) tf l:=by
 unfold f16
 rw [impl9 k (by omega) g h1 h2 h3,Option.bind_some]
 cases hok:graphOk g with
 | false =>
   rw [if_t (by simp)]
   exact ⟨_,rfl,fun _ => rfl,fun hg => by rw [ok_of hg] at hok; cases hok⟩
 | true =>
   have hg:=gok hok
   obtain ⟨net,hn,hno⟩:=e36 hg k (by omega)
   rw [if_f (by simp),hn,Option.bind_some,e37 k hno,Option.bind_some]
   cases hs:spotIs g s with
   | false =>
     rw [if_t (by simp)]
     refine ⟨_,rfl,fun _ => rfl,fun hg n hsn hlt => ?_⟩
     rw [hsn,spotIs_iff.2 ⟨by omega,by omega⟩] at hs; cases hs
   | true =>
     obtain ⟨q0,q1⟩:=spotIs_iff.1 hs
     obtain ⟨n,rfl⟩:∃ n:Nat,s = (n:Int):=⟨s.toNat,by omega⟩
     obtain ⟨out,tm,ct,a1,a2,a3,a4⟩:=e42 hg k hk n (by omega) hno
     rw [if_f (by simp),a1,Option.bind_some]
     refine ⟨out,rfl,(fun h => by rcases h with h | h <;> cases h),fun hg' n' hsn hlt => ?_⟩
     obtain rfl:n=n':=by omega
     exact ⟨tm,ct,a2,a4⟩
theorem best10 (k:Nat) (hk:1099511627776 < k) {g:Graph} (hg:GOk g) {s t:Nat} (hs:s < g.1.length) (ht:t < g.1.length) :
 ∃ y,f10 k g (s:Int) (t:Int)=some y ∧ ((s=t∧y = (true,([],(0,0)))) ∨ (s≠t∧∃ tm ct,f19 k g (t:Int)=some tm∧Final (dgB g hg (t:Int)) tm ct∧Told g tm (s:Int) (t:Int) y)):=by
 have n1:=hg.n1
 have n2:=hg.n2
 have n3:=hg.n3
 obtain ⟨net,hn,hno⟩:=e36 hg k (by omega)
 have s1:spotIs g (s:Int)=true:=spotIs_iff.2 ⟨by omega,by omega⟩
 have s2:spotIs g (t:Int)=true:=spotIs_iff.2 ⟨by omega,by omega⟩
 have e10:∀ y,f38 k net (s:Int) (t:Int)=some y→f10 k g (s:Int) (t:Int)=some y:=fun y hy => by
  unfold f10
  rw [impl9 k (by omega) g (by omega) (by omega) (by omega),ok_of hg,Option.bind_some,if_f (by simp),hn,Option.bind_some,e37 k hno,Option.bind_some,s1,if_t (by simp),e37 k hno,Option.bind_some,s2,if_f (by simp),hy,Option.bind_some]
 by_cases hst:s=t
 ·subst hst
  refine ⟨_,e10 _ ?_,.inl ⟨rfl,rfl⟩⟩
  unfold f38
  rw [if_t (by simp)]
 ·obtain ⟨y,tm,ct,b1,b2,b3,b4⟩:=best_told hg k hk hno hs (t:Int) (by omega)
  refine ⟨y,e10 y b1,.inr ⟨hst,tm,ct,?_,b3,b4⟩⟩
  unfold f19
  rw [impl9 k (by omega) g (by omega) (by omega) (by omega),ok_of hg,Option.bind_some,if_f (by simp),hn,Option.bind_some,e37 k hno,Option.bind_some,s2,if_f (by simp),b2,Option.bind_some]
theorem slow150 {x:Int} (h1:1≤x) (h2:x≤1000000):x≤slow x 150∧slow x 150≤1000000:=by
 unfold slow
 rw [wrap_in (n:=x*150) (by omega) (by omega),wrap_in (n:=x*150+99) (by omega) (by omega),Int.tdiv_eq_ediv_of_nonneg (by omega),wrap_in (by omega) (by omega)]
 have a:¬ ((x*150+99) / 100 < 1):=by omega
 rw [decide_eq_false a,cond_false]
 by_cases hb:(x*150+99) / 100 > 1000000
 ·rw [decide_eq_true hb,cond_true]; omega
 ·rw [decide_eq_false hb,cond_false]; omega
theorem slow100 {x:Int} (h1:1≤x) (h2:x≤1000000):slow x 100=x:=by
 unfold slow
 rw [wrap_in (n:=x*100) (by omega) (by omega),wrap_in (n:=x*100+99) (by omega) (by omega),Int.tdiv_eq_ediv_of_nonneg (by omega),wrap_in (by omega) (by omega)]
 have a:¬ ((x*100+99) / 100 < 1):=by omega
 have b:¬ ((x*100+99) / 100 > 1000000):=by omega
 rw [decide_eq_false a,cond_false,decide_eq_false b,cond_false]; omega
theorem road_time {g:Graph} (hg:GOk g) {e:Nat} (he:e < g.2.1.length):1 ≤ (g.2.1.getD e dR).2.2.2.1 ∧ (g.2.1.getD e dR).2.2.2.1≤1000000:=time_bd hg he
theorem slowTo_at (g:Graph) (a:List Int) (p:Int):∀ q,q≤g.2.1.length→∀ e,(slowTo g a p q).getD e dR=if e < q ∧ (g.2.1.getD e dR).2.2.1 ∈ a then ((g.2.1.getD e dR).1,((g.2.1.getD e dR).2.1,((g.2.1.getD e dR).2.2.1,(slow (g.2.1.getD e dR).2.2.2.1 p,(g.2.1.getD e dR).2.2.2.2)))) else g.2.1.getD e dR
 | 0,_,e => by rw [if_neg (by omega)]; rfl
 | q+1,hq,e => by
   have ih:=slowTo_at g a p q (by omega)
   have hl:=slowTo_len g a p q
   have hqq:(slowTo g a p q).getD q dR=g.2.1.getD q dR:=by rw [ih q,if_neg (by omega)]
   rw [slowTo,hqq]
   by_cases hm:(g.2.1.getD q dR).2.2.1 ∈ a
   ·rw [if_pos hm,getD_set]
    by_cases he:q=e
    ·subst he
     rw [if_pos ⟨rfl,by omega⟩,if_pos ⟨by omega,hm⟩]
    ·rw [if_neg (fun h => he h.1),ih e]
     by_cases hc:e < q ∧ (g.2.1.getD e dR).2.2.1 ∈ a
     ·rw [if_pos hc,if_pos ⟨by omega,hc.2⟩]
     ·rw [if_neg hc,if_neg (fun h => hc ⟨by omega,h.2⟩)]
   ·rw [if_neg hm,ih e]
    by_cases hc:e < q ∧ (g.2.1.getD e dR).2.2.1 ∈ a
    ·rw [if_pos hc,if_pos ⟨by omega,hc.2⟩]
    ·rw [if_neg hc,if_neg (fun h => ?_)]
     by_cases he:e=q
     ·subst he; exact hm h.2
     ·exact hc ⟨by omega,h.2⟩
theorem slowTo_100 {g:Graph} (hg:GOk g) (a:List Int):slowTo g a 100 g.2.1.length=g.2.1:=by
 refine ext_getD (d:=dR) (slowTo_len g a 100 _) fun e he => ?_
 rw [slowTo_len] at he
 rw [slowTo_at g a 100 _ (Nat.le_refl _) e]
 split
 ·have:=road_time hg he
  rw [slow100 this.1 this.2]
 ·rfl
theorem slowTo_same (g:Graph) (a:List Int) (p:Int) (e:Nat):((slowTo g a p g.2.1.length).getD e dR).1 = (g.2.1.getD e dR).1 ∧ ((slowTo g a p g.2.1.length).getD e dR).2.1 = (g.2.1.getD e dR).2.1 ∧ ((slowTo g a p g.2.1.length).getD e dR).2.2.1 = (g.2.1.getD e dR).2.2.1 ∧ ((slowTo g a p g.2.1.length).getD e dR).2.2.2.2.1 = (g.2.1.getD e dR).2.2.2.2.1:=by
 rw [slowTo_at g a p _ (Nat.le_refl _) e]
 split <;> exact ⟨rfl,rfl,rfl,rfl⟩
theorem turn_same {g g':Graph} (hp:g'.1=g.1) (hb:g'.2.2=g.2.2) (h1:∀ r,(roadAt g' r).1 = (roadAt g r).1) (h2:∀ r,(roadAt g' r).2.1 = (roadAt g r).2.1) (a b:Int):turnOf g' a b=turnOf g a b:=by
 have hs:∀ p,spotAt g' p=spotAt g p:=fun p => by unfold spotAt; rw [hp]
 have hh:∀ r,headOf g' r=headOf g r:=fun r => by unfold headOf; rw [h1,h2,hs,hs]
 have hban:banned g' a b=banned g a b:=by unfold banned; rw [hb]
 unfold turnOf windOf
 rw [hban,h1,h2,hh,hh]
theorem slow_graph {g:Graph} (hg:GOk g) (a:List Int):∃ hg':GOk (g.1,(slowTo g a 150 g.2.1.length,g.2.2)),Slow g (g.1,(slowTo g a 150 g.2.1.length,g.2.2)):=by
 have hl:=slowTo_len g a 150 g.2.1.length
 have hsm:=slowTo_same g a 150
 have htm:∀ e,e < g.2.1.length → (g.2.1.getD e dR).2.2.2.1 ≤ ((slowTo g a 150 g.2.1.length).getD e dR).2.2.2.1 ∧ ((slowTo g a 150 g.2.1.length).getD e dR).2.2.2.1≤1000000:=fun e he => by
  have:=road_time hg he
  rw [slowTo_at g a 150 _ (Nat.le_refl _) e]
  split
  ·exact slow150 this.1 this.2
  ·omega
 refine ⟨⟨hg.n1,by show (slowTo g a 150 g.2.1.length).length≤8000; rw [hl]; exact hg.n2,hg.n3,hg.spot,fun i hi => ?_,fun i hi => ?_⟩,⟨hl,fun e he => (hsm e).1,fun e he => (hsm e).2.1,fun x y hx hy => ?_,fun e he => (htm e he).1⟩⟩
 ·have hi':i < g.2.1.length:=by rw [← hl]; exact hi
  have h0:=hg.road i hi'
  obtain ⟨s1,s2,s3,s4⟩:=hsm i
  obtain ⟨t1,t2⟩:=htm i hi'
  unfold okRoad at h0 ⊢
  simp only [Bool.and_eq_true,decide_eq_true_eq] at h0 ⊢
  rw [s1,s2,s3,s4]
  exact ⟨⟨⟨⟨h0.1.1.1.1,by omega⟩,t2⟩,h0.1.2⟩,h0.2⟩
 ·have h0:=hg.ban i hi
  unfold okBan at h0 ⊢
  simp only [Bool.and_eq_true,decide_eq_true_eq] at h0 ⊢
  rw [hl,(hsm _).1,(hsm _).2.1]
  exact h0
 ·exact turn_same (g:=g) (g':=(g.1,(slowTo g a 150 g.2.1.length,g.2.2))) rfl rfl (fun r => (hsm _).1) (fun r => (hsm _).2.1) _ _
theorem slower17 {g:Graph} (hg:GOk g) (k:Nat) (hk:1048576 < k) (a:List Int) (ha:a.length≤1000) (p:Int) (hp:1≤p∧p≤10000):f17 k g a p=some (g.1,(slowTo g a p g.2.1.length,g.2.2)):=by
 have n1:=hg.n1
 have n2:=hg.n2
 have n3:=hg.n3
 unfold f17
 rw [impl9 k (by omega) g (by omega) (by omega) (by omega),ok_of hg,Option.bind_some]
 rw [decide_eq_false (show ¬ p < 1 by omega),decide_eq_false (show ¬ p > 10000 by omega),decide_eq_false (show ¬ ((List.length a:Int) > 1000) by omega)]
 rw [if_f (by simp)]
 exact e17 hg k hk a (by omega) p (e104 hg k).2
theorem beq_spot (a:Spot):Sh.beq (.st (.pair (.int .i64) (.st (.pair (.int .i64) (.int .i64))))) a a=true:=by
 obtain ⟨a,b,c⟩:=a; simp [Sh.beq]
theorem beq_road (a:Road):Sh.beq (.st (.pair (.int .i64) (.pair (.int .i64) (.pair (.int .i64) (.pair (.int .i64) (.pair (.int .i64) .str)))))) a a=true:=by
 obtain ⟨a,b,c,d,e,f⟩:=a; simp [Sh.beq]
theorem same18 {g:Graph} (hg:GOk g) (k:Nat) (hk:1048576 < k):f18 k g g=some true:=by
 have n1:=hg.n1
 have n2:=hg.n2
 have n3:=hg.n3
 have q3:f18.l86 k g g k 0=some true:=by
  have q:=allLoop (L:=f18.l86 k g g) (n:=g.2.2.length) (p:=fun _ => true) (fin:=some true) (fun m i hi => by
   have hb:(0:Int) ≤ (i:Int) ∧ (i:Int) < (g.2.2.length:Int):=⟨by omega,by omega⟩
   rw [f18.l86,if_t (decide_eq_true hb.2),if_t hb,if_t hb]
   have:Sh.beq sh5 (g.2.2.getD (Int.toNat (i:Int)) (0,0)) (g.2.2.getD (Int.toNat (i:Int)) (0,0))=true:=(beq5 _ _).2 rfl
   rw [if_f (by rw [this]; simp),wrap_s (by omega)]; rfl) (fun m => by rw [f18.l86,if_f (by simp)]) (k:=k) (by omega)
  rw [q,show allTo (fun _ => true) g.2.2.length=true from allTo_iff.2 (fun _ _ => rfl),cond_true]
 have q2:f18.l52 k g g k 0=some true:=by
  have q:=allLoop (L:=f18.l52 k g g) (n:=g.2.1.length) (p:=fun _ => true) (fin:=f18.l86 k g g k 0) (fun m i hi => by
   have hb:(0:Int) ≤ (i:Int) ∧ (i:Int) < (g.2.1.length:Int):=⟨by omega,by omega⟩
   rw [f18.l52,if_t (decide_eq_true hb.2),if_t hb,if_t hb]
   rw [if_f (by rw [beq_road]; simp),wrap_s (by omega)]; rfl) (fun m => by rw [f18.l52,if_f (by simp)]) (k:=k) (by omega)
  rw [q,show allTo (fun _ => true) g.2.1.length=true from allTo_iff.2 (fun _ _ => rfl),cond_true,q3]
 have q1:f18.l18 k g g k 0=some true:=by
  have q:=allLoop (L:=f18.l18 k g g) (n:=g.1.length) (p:=fun _ => true) (fin:=f18.l52 k g g k 0) (fun m i hi => by
   have hb:(0:Int) ≤ (i:Int) ∧ (i:Int) < (g.1.length:Int):=⟨by omega,by omega⟩
   rw [f18.l18,if_t (decide_eq_true hb.2),if_t hb,if_t hb]
   rw [if_f (by rw [beq_spot]; simp),wrap_s (by omega)]; rfl) (fun m => by rw [f18.l18,if_f (by simp)]) (k:=k) (by omega)
  rw [q,show allTo (fun _ => true) g.1.length=true from allTo_iff.2 (fun _ _ => rfl),cond_true,q2]
 unfold f18
 rw [if_f (by simp)]
 exact q1
theorem times_loop (k:Nat) (hk:1099511627776 < k) {g:Graph} (hg:GOk g) {s:Nat} (hs:s < g.1.length) {g':Graph} {hg':GOk g'} (hsl:Slow g g') (hp:g'.1.length=g.1.length) {tf cf all tf' cf' slw:List Int}
 (hF:Final (dgF g hg s) tf cf) (hO:Outs g s (fun r => 0≤T tf r) tf all) (hF':Final (dgF g' hg' s) tf' cf') (hO':Outs g' s (fun r => 0≤T tf' r) tf' slw) :
 ∀ (d m t:Nat),g.1.length - t=d→d < m→t≤g.1.length→f4.l165 k (g,(s:Int)) all slw m (t:Int)=some true
 | d,0,t,_,h,_ => by omega
 | 0,m+1,t,h,_,ht => by
   have hl:=hO.1
   have h0:all.getD s 0=0:=hO.2.1
   have hb:(0:Int) ≤ (s:Int) ∧ (s:Int) < (all.length:Int):=⟨by omega,by omega⟩
   rw [f4.l165]
   simp only
   rw [if_f (by rw [decide_eq_true_eq]; omega),if_t hb,Int.toNat_natCast,h0]
   rfl
 | d+1,m+1,t,h,hm,ht => by
   have n1:=hg.n1
   have hl:=hO.1
   have hl':slw.length=g.1.length:=by rw [hO'.1,hp]
   have hlt:t < g.1.length:=by omega
   have ih:=times_loop k hk hg hs hsl hp hF hO hF' hO' d m (t+1) (by omega) (by omega) (by omega)
   have ba:(0:Int) ≤ (t:Int) ∧ (t:Int) < (all.length:Int):=⟨by omega,by omega⟩
   have bs:(0:Int) ≤ (t:Int) ∧ (t:Int) < (slw.length:Int):=⟨by omega,by omega⟩
   obtain ⟨y,y1,y2⟩:=best10 k hk hg hs hlt
   have w0:IntKind.i64.wrap ((t:Int)+1) = (t:Int)+1:=wrap_s (by omega)
   replace ih:f4.l165 k (g,(s:Int)) all slw m ((t:Int)+1)=some true:=ih
   rw [f4.l165]
   simp only
   rw [if_t (show decide ((t:Int) < (g.1.length:Int))=true from decide_eq_true (by omega)),y1,Option.bind_some]
   simp only [if_t ba,if_t bs,Int.toNat_natCast,w0]
   rw [if_t (fun _ => ba),if_t (fun _ => bs),if_t (fun _ => ba),if_t (fun _ => bs),if_t (fun _ => ba),Option.bind_some]
   rcases y2 with ⟨hst,rfl⟩ | ⟨hst,tm,ct,c1,c2,c3⟩
   ·subst hst
    have h0:all.getD s 0=0:=hO.2.1
    have h0':slw.getD s 0=0:=hO'.2.1
    simp only [h0,h0']
    simp [ih]
   ·obtain ⟨r1,r2⟩:=reach_told hlt (Ne.symm hst) c2 hF hO c3
    obtain ⟨r3,r4⟩:=slow_told hsl hp hlt (Ne.symm hst) hF hO hF' hO'
    have hA:T all t=all.getD t 0:=rfl
    have hS:T slw t=slw.getD t 0:=rfl
    rw [hA] at r1 r2 r3 r4
    rw [hS] at r3 r4
    clear hA hS
    obtain ⟨A,hA⟩:∃ A,all.getD t 0=A:=⟨_,rfl⟩
    obtain ⟨S,hS⟩:∃ S,slw.getD t 0=S:=⟨_,rfl⟩
    rw [hA] at r1 r2 r3 r4
    rw [hS] at r3 r4
    simp only [hA,hS]
    cases hy:y.1 with
    | false =>
      obtain ⟨rfl,_⟩:=c3.no hy
      have a1:=r1 hy
      have a2:S < 0:=r3.2 (by omega)
      subst a1
      have e1:decide (S < -1)=false:=decide_eq_false (by omega)
      have e2:decide (S < 0)=true:=decide_eq_true a2
      simp only [e1,e2]
      simp [ih]
    | true =>
      obtain ⟨e,l,rfl,he1,he2,he3,he4,he5⟩:=c3.yes hy
      obtain ⟨a1,a2⟩:=r2 hy
      have a2':T tm e=A:=a2
      have a3:¬ S < 0:=fun h => by have:=r3.1 h; omega
      have e1:decide (S < A)=false:=decide_eq_false (by omega)
      have e2:decide (S < 0)=false:=decide_eq_false a3
      have e3:decide (A < 0)=false:=decide_eq_false (by omega)
      have e4:decide (A ≥ 0)=true:=decide_eq_true a1
      have tl:tm.length=g.2.1.length:=c2.l1
      have e5:decide ((List.length (castL (e :: l)):Int) > 0)=true:=decide_eq_true (by simp)
      have e6:(castL (e :: l)).getD (Int.toNat 0) 0 = (e:Int):=rfl
      have be:(0:Int) ≤ (e:Int) ∧ (e:Int) < (tm.length:Int):=⟨by omega,by omega⟩
      have b0:(0:Int)≤0 ∧ (0:Int) < (List.length (castL (e :: l)):Int):=⟨by omega,by simp⟩
      have e7:tm.getD e 0=A:=a2'
      simp only [e1,e2,e3,e4,e5,e6,a2',Int.toNat_natCast]
      simp only [cond_true,if_true,c1,Option.bind_some,Int.toNat_natCast,e7]
      simp [be,ih]
      try omega
theorem ways_loop (k:Nat) (hk:1099511627776 < k) {g:Graph} (hg:GOk g) {s:Nat} (hs:s < g.1.length) {tf cf all:List Int}
 (hF:Final (dgF g hg s) tf cf) (hO:Outs g s (fun r => 0≤T tf r) tf all) :
 ∀ (d m i:Nat) (w:List Int),g.2.1.length - i=d→d < m→i≤g.2.1.length→w.length≤i→f4.l39 k (g,(s:Int)) all m (w,(i:Int))=some true
 | d,0,i,w,_,h,_,_ => by omega
 | 0,m+1,i,w,h,_,hi,hw => by
   have n1:=hg.n1
   have n2:=hg.n2
   have n3:=hg.n3
   rw [f4.l39]
   simp only
   rw [if_f (by rw [decide_eq_true_eq]; omega)]
   split
   ·rfl
   ·rename_i hc
    have hw2:w.length≤1000:=by
     refine Decidable.byContradiction fun hn => hc ?_
     rw [decide_eq_true (show (w.length:Int) > 1000 by omega)]; rfl
    obtain ⟨hg',hsl⟩:=slow_graph hg w
    obtain ⟨l',l1,_,l3⟩:=reach16 k hk (g.1,(slowTo g w 150 g.2.1.length,g.2.2)) (by have:=hg'.n1; omega) (by have:=hg'.n2; omega) (by have:=hg'.n3; omega) (s:Int)
    obtain ⟨tf',cf',f1,f2⟩:=l3 hg' s rfl hs
    rw [slower17 hg k (by omega) w hw2 150 (by decide),Option.bind_some,l1,Option.bind_some,slower17 hg k (by omega) w hw2 100 (by decide),slowTo_100 hg,Option.bind_some]
    rw [show ((g.1,(g.2.1,g.2.2)):Graph)=g from rfl,same18 hg k (by omega),Option.bind_some,if_f (by simp)]
    exact times_loop k hk hg hs hsl rfl hF hO f1 f2 _ k 0 rfl (by omega) (Nat.zero_le _)
 | d+1,m+1,i,w,h,hm,hi,hw => by
   have n2:=hg.n2
   have hb:(0:Int) ≤ (i:Int) ∧ (i:Int) < (g.2.1.length:Int):=⟨by omega,by omega⟩
   have ih:=fun w hw => ways_loop k hk hg hs hF hO d m (i+1) w (by omega) (by omega) (by omega) hw
   rw [f4.l39]
   simp only
   rw [if_t (decide_eq_true hb.2),if_t (by decide)]
   split
   ·rw [if_t (by simp only [List.length_singleton]; omega)]
    unfold f4.j68
    rw [wrap_s (by omega)]
    exact ih _ (by simp; omega)
   ·unfold f4.j68
    rw [wrap_s (by omega)]
    exact ih w (by omega)
theorem law4 (x:List Int):∃ k,f4 k x=some true:=by
 refine ⟨1099511627777,?_⟩
 have hk:1099511627776 < 1099511627777:=by decide
 have hk1:1048576 < 1099511627777:=by decide
 generalize (1099511627777:Nat)=k at *
 unfold f4 f7
 rw [Option.bind_some]
 split
 ·rfl
 ·rename_i hx
  have hx':x.length≤1048576:=by rw [decide_eq_true_eq] at hx; omega
  obtain ⟨c,c1,c2⟩:=t31 k x hx' hk1
  obtain ⟨r,r1,r2,r3⟩:=t32 k hk1 c c2
  obtain ⟨q,q1,q2⟩:=t33 k r.2 r.1 r2
  have h15:f15 k x=some (r.1,q.1):=by unfold f15; rw [c1,Option.bind_some,r1,Option.bind_some,q1,Option.bind_some]
  have hp:=r3.p
  have hr:=r3.r
  have hb:=r3.b
  obtain ⟨all,a1,a2,a3⟩:=reach16 k hk r.1 (by omega) (by omega) (by omega) q.1
  rw [h15,Option.bind_some]
  simp only
  rw [a1,Option.bind_some,impl9 k hk1 noG (by simp) (by simp) (by simp),show graphOk noG=true from noG_ok,Option.bind_some,if_f (by simp),impl9 k hk1 r.1 (by omega) (by omega) (by omega),Option.bind_some]
  by_cases hc:(bif (bif (!graphOk r.1) then true else (decide (q.1 < 0))) then true else (decide (q.1 ≥ (List.length r.1.1:Int))))=true
  ·rw [if_t hc]
   have hn:all=[]:=by
    refine a2 ?_
    cases hg:graphOk r.1 with
    | false => exact .inl rfl
    | true =>
      refine .inr ?_
      cases hs:spotIs r.1 q.1 with
      | false => rfl
      | true =>
        obtain ⟨s1,s2⟩:=spotIs_iff.1 hs
        rw [hg,decide_eq_false (show ¬ q.1 < 0 by omega),decide_eq_false (show ¬ (q.1 ≥ (List.length r.1.1:Int)) by omega)] at hc
        cases hc
   rw [hn]; rfl
  ·rw [if_f hc]
   have hg:graphOk r.1=true:=by
    cases h:graphOk r.1 with
    | true => rfl
    | false => rw [h] at hc; exact absurd rfl hc
   rw [hg] at hc
   have h0:¬ q.1 < 0:=fun h => hc (by rw [decide_eq_true h]; rfl)
   have h1:¬ (q.1 ≥ (List.length r.1.1:Int)):=fun h => hc (by rw [decide_eq_false h0,decide_eq_true h]; rfl)
   obtain ⟨s,hs⟩:∃ s:Nat,q.1 = (s:Int):=⟨q.1.toNat,by omega⟩
   obtain ⟨tf,cf,f1,f2⟩:=a3 (gok hg) s hs (by omega)
   rw [hs]
   exact ways_loop k hk (gok hg) (by omega) f1 f2 _ k 0 [] rfl (by omega) (Nat.zero_le _) (by simp)
end Go.Proofs.Ytdjadmdiehkfdaa
