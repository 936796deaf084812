/-
  The specification's MakeGraph ends, with a graph that is one. No condition.
-/
import Derived.Test.YtdjadmdiehkfdaaR6vdr
set_option linter.unusedVariables false
set_option linter.unusedSimpArgs false
namespace Go.Proofs.Ytdjadmdiehkfdaa
open Go Go.Vm Go.Proofs V
def GD (y:Graph):Prop:=graphOk y=true
theorem noG_ok:GD noG:=by unfold GD graphOk noG allTo allFrom; rfl
theorem tag_go (k:Nat) (x:Tags) (s:ByteArray) (hx:x.length≤9223372036854775806):∀ (d m i:Nat),x.length - i=d→d < m→i≤x.length→∃ t,f103.l18 k x s m (i:Int)=some t:=by
 intro d
 induction d with
 | zero =>
   intro m i h1 h2 h3
   obtain ⟨m,rfl⟩:∃ m',m=m'+1:=⟨m - 1,by omega⟩
   rw [f103.l18,if_f (by rw [decide_eq_true_eq]; omega)]
   exact ⟨_,rfl⟩
 | succ d ih =>
   intro m i h1 h2 h3
   obtain ⟨m,rfl⟩:∃ m',m=m'+1:=⟨m - 1,by omega⟩
   have hb:(0:Int) ≤ (i:Int) ∧ (i:Int) < (x.length:Int):=⟨by omega,by omega⟩
   rw [f103.l18,if_t (decide_eq_true hb.2),if_t hb]
   split
   ·exact ⟨_,rfl⟩
   ·rw [wrap_s (by omega)]; exact ih m (i+1) (by omega) (by omega) (by omega)
theorem tag_tot (k:Nat) (x:Tags) (s:ByteArray) (hk:1048576 < k) (hx:x.length≤1048576):∃ t,f103 k x s=some t:=tag_go k x s (by omega) _ k 0 rfl (by omega) (by omega)
theorem num_go (k:Nat) (s:ByteArray) (mx:Int) (hs:s.size≤10):∀ (d m i:Nat) (u:Int),s.size - i=d→d < m→i≤s.size→∃ t,f113.l28 k s mx m (u,(i:Int))=some t:=by
 intro d
 induction d with
 | zero =>
   intro m i u h1 h2 h3
   obtain ⟨m,rfl⟩:∃ m',m=m'+1:=⟨m - 1,by omega⟩
   rw [f113.l28,if_f (by rw [decide_eq_true_eq]; omega)]
   split
   ·exact ⟨_,rfl⟩
   ·exact ⟨_,rfl⟩
 | succ d ih =>
   intro m i u h1 h2 h3
   obtain ⟨m,rfl⟩:∃ m',m=m'+1:=⟨m - 1,by omega⟩
   have hb:(0:Int) ≤ (i:Int) ∧ (i:Int) < (s.size:Int):=⟨by omega,by omega⟩
   rw [f113.l28,if_t (decide_eq_true hb.2),if_t hb,if_t (fun _ => hb)]
   split
   ·exact ⟨_,rfl⟩
   ·rw [wrap_s (by omega)]; exact ih m (i+1) _ (by omega) (by omega) (by omega)
theorem num_tot (k:Nat) (s:ByteArray) (mx:Int) (hk:1048576 < k):∃ t,f113 k s mx=some t:=by
 unfold f113
 by_cases h:(bif ((ByteArray.size s:Int) == 0) then true else (decide ((ByteArray.size s:Int) > 10)))=true
 ·rw [if_t h]; exact ⟨_,rfl⟩
 ·rw [if_f h]
  have hs:s.size≤10:=by
   refine Decidable.byContradiction fun h0 => h ?_
   have:(decide ((ByteArray.size s:Int) > 10))=true:=by simp; omega
   rw [this]
   cases ((ByteArray.size s:Int) == 0) <;> rfl
  exact num_go k s mx hs _ k 0 0 rfl (by omega) (by omega)
theorem sp_tot (k:Nat) (ts:Tags) (v:Int) (hk:1048576 < k) (hx:ts.length≤1048576):f98 k ts v=some (spd k ts v):=by
 have hj:∀ b,∃ r,f98.j4 k ts b=some r:=fun b => by
  obtain ⟨t,h1⟩:=tag_tot k ts (⟨#[109,97,120,115,112,101,101,100]⟩:ByteArray) hk hx
  obtain ⟨n,h2⟩:=num_tot k t 30 hk
  unfold f98.j4 f98.j8
  rw [h1,Option.bind_some,h2,Option.bind_some]
  split
  ·exact ⟨_,rfl⟩
  ·exact ⟨_,rfl⟩
 have key:∃ r,f98 k ts v=some r:=by
  obtain ⟨t,h1⟩:=tag_tot k ts (⟨#[104,105,103,104,119,97,121]⟩:ByteArray) hk hx
  obtain ⟨u,h2⟩:=tag_tot k ts (⟨#[97,99,99,101,115,115]⟩:ByteArray) hk hx
  unfold f98
  rw [h1,Option.bind_some,h2,Option.bind_some]
  split
  ·exact ⟨_,rfl⟩
  ·split
   ·split
    ·exact ⟨_,rfl⟩
    ·exact ⟨_,rfl⟩
   ·split
    ·exact ⟨_,rfl⟩
    ·split
     ·exact hj _
     ·split
      ·exact hj _
      ·split
       ·exact hj _
       ·exact hj _
 obtain ⟨r,hr⟩:=key
 have e:spd k ts v=r:=by unfold spd; rw [hr]; rfl
 rw [e,hr]
theorem ow_tot (k:Nat) (ts:Tags) (v:Int) (hk:1048576 < k) (hx:ts.length≤1048576):∃ r,f100 k ts v=some r:=by
 obtain ⟨t,h1⟩:=tag_tot k ts (⟨#[111,110,101,119,97,121]⟩:ByteArray) hk hx
 obtain ⟨u,h2⟩:=tag_tot k ts (⟨#[106,117,110,99,116,105,111,110]⟩:ByteArray) hk hx
 unfold f100
 rw [h1,Option.bind_some]
 split
 ·exact ⟨_,rfl⟩
 ·obtain ⟨z,hz⟩:∃ z,(if (((ByteArray.toList t == ByteArray.toList (⟨#[121,101,115]⟩:ByteArray))=false) ∧ ((ByteArray.toList t == ByteArray.toList (⟨#[]⟩:ByteArray))=true)) then f103 k ts (⟨#[106,117,110,99,116,105,111,110]⟩:ByteArray) else some default)=some z:=by
   split
   ·exact ⟨_,h2⟩
   ·exact ⟨_,rfl⟩
  rw [hz,Option.bind_some]
  split
  ·exact ⟨_,rfl⟩
  ·split
   ·exact ⟨_,rfl⟩
   ·exact ⟨_,rfl⟩
theorem dist_tot (k:Nat) (hk:64 < k) (p q:Int × Int) (hp:ptB p=true) (hq:ptB q=true):∃ d,f102 k p q=some d:=by
 have bp:=pt_bd hp
 have bq:=pt_bd hq
 obtain ⟨x1,x2⟩:=sq_of (x:=q.1 - p.1) (by omega) (by omega)
 obtain ⟨y1,y2⟩:=sq_of (x:=q.2 - p.2) (by omega) (by omega)
 generalize (q.1 - p.1).natAbs * (q.1 - p.1).natAbs=X at *
 generalize (q.2 - p.2).natAbs * (q.2 - p.2).natAbs=Y at *
 have s1:f115 k p q=some ((X+Y:Nat):Int):=by
  unfold f115
  rw [wrap_in (n:=q.1 - p.1) (by omega) (by omega),wrap_in (n:=q.2 - p.2) (by omega) (by omega),x1,y1,wrap_in (n:=(X:Int)) (by omega) (by omega),wrap_in (n:=(Y:Int)) (by omega) (by omega),wrap_in (by omega) (by omega)]
  congr 1
 obtain ⟨c,c1,_,_⟩:=e114 k (4 * (X+Y)) hk (by omega)
 have w4:IntKind.i64.wrap (4 * ((X+Y:Nat):Int)) = ((4 * (X+Y):Nat):Int):=by rw [wrap_in (by omega) (by omega)]; omega
 unfold f102
 rw [s1,Option.bind_some,w4,c1,Option.bind_some,if_t (by decide)]
 exact ⟨_,rfl⟩
theorem ends_tot (k:Nat) (hk:1048576 < k) (P:List Spot) (R:List Road) (hP:P.length≤1048576):∃ y,GD y ∧
 ((f47 k (P,(R,([]:(List (Int × Int)))))).bind fun r2408 => (if (!r2408) then (some noG) else (some (P,(R,([]:(List (Int × Int))))))))=some y:=by
 obtain ⟨b,b1,b2,b3⟩:=ends k hk P R hP
 rw [b1]
 cases b with
 | false => exact ⟨noG,noG_ok,rfl⟩
 | true =>
   have:=spec47 k hk (P,(R,[])) hP (b3 rfl) (by simp)
   rw [b1] at this
   exact ⟨_,(Option.some.inj this).symm,rfl⟩
def InP (P:List Spot) (x:Int):Prop:=∃ t:Nat,t < P.length ∧ (P.getD t dS).1=x∧ptB (P.getD t dS).2=true
theorem road_tot {m:Mp} (hm:MOk m) (k:Nat) (hk:1048576 < k) (P:List Spot) (hP:P.length≤1048576) (hasc:∀ i j,i < j→j < P.length → (P.getD i dS).1 < (P.getD j dS).1)
 (i:Nat) (hi:i < m.2.1.length) (hzl:(m.2.1.getD i dW).2.2.length≤1048576) (sp:Int) (hsp:0 < sp) (ow:Int) (hsh:∀ j,j < (m.2.1.getD i dW).2.1.length→InP P ((m.2.1.getD i dW).2.1.getD j 0))
 (qs:List Road × Int→Option Graph) (Bd:Nat) (hBd:Bd≤4000000) (hq:∀ R,R.length≤Bd+4000→∃ y,GD y∧qs (R,((i+1:Nat):Int))=some y) :
 ∀ (d f j:Nat) (R:List Road),(m.2.1.getD i dW).2.1.length - j=d→d < f→1≤j→j ≤ (m.2.1.getD i dW).2.1.length→R.length≤Bd+2*j →
   ∃ y,GD y∧f83.l2270 k m (i:Int) sp P ow qs f (R,(j:Int))=some y
 | d,0,j,R,_,h,_,_,_ => by omega
 | 0,f+1,j,R,h,_,h1,hj,hR => by
   obtain ⟨w1,w2,w3⟩:=hm.ways i hi
   obtain ⟨y,y1,y2⟩:=hq R (by omega)
   rw [f83.l2270]
   simp only [Int.toNat_natCast]
   have c1:decide ((j:Int) < ((m.2.1.getD i dW).2.1.length:Int))=false:=decide_eq_false (by omega)
   rw [c1,cond_false,if_f (by simp),wrap_s (by have:=hm.n2; omega)]
   exact ⟨y,y1,y2⟩
 | d+1,f+1,0,R,h,_,h1,hj,hR => by omega
 | d+1,f+1,j+1,R,h,hf,h1,hj,hR => by
   obtain ⟨w1,w2,w3⟩:=hm.ways i hi
   have n2:=hm.n2
   obtain ⟨nm,nn1⟩:=tag_tot k (m.2.1.getD i dW).2.2 nmB hk hzl
   have hlt:j+1 < (m.2.1.getD i dW).2.1.length:=by omega
   have hb0:(0:Int) ≤ (j:Int) ∧ (j:Int) < ((m.2.1.getD i dW).2.1.length:Int):=⟨by omega,by omega⟩
   have hb1:(0:Int) ≤ ((j+1:Nat):Int) ∧ ((j+1:Nat):Int) < ((m.2.1.getD i dW).2.1.length:Int):=⟨by omega,by omega⟩
   have c1:decide (((j+1:Nat):Int) < ((m.2.1.getD i dW).2.1.length:Int))=true:=decide_eq_true hb1.2
   have c2:decide (sp > 0)=true:=decide_eq_true hsp
   have c3:sp≠0:=by omega
   obtain ⟨ta,a1,a3,a4⟩:=hsh j (by omega)
   obtain ⟨tb,b1,b3,b4⟩:=hsh (j+1) hlt
   have ea:=e101 k hk P R [] hP hasc a1 a3
   have eb:=e101 k hk P R [] hP hasc b1 b3
   obtain ⟨ds,d1⟩:=dist_tot k (by omega) (P.getD ta dS).2 (P.getD tb dS).2 a4 b4
   have ha:(0:Int) ≤ (ta:Int) ∧ (ta:Int) < (P.length:Int):=⟨by omega,by omega⟩
   have hb:(0:Int) ≤ (tb:Int) ∧ (tb:Int) < (P.length:Int):=⟨by omega,by omega⟩
   generalize hT:IntKind.i64.wrap (Int.tdiv (IntKind.i64.wrap ((IntKind.i64.wrap (ds+sp)) - 1)) sp)=T
   have sz:∀ (L:List Road) (r:Road),L.length≤R.length+1 → (L.length+[r].length)*56≤140737488355328:=fun L r hL => by
    simp only [List.length_singleton]; omega
   have ih:=fun R' hR' => road_tot hm k hk P hP hasc i hi hzl sp hsp ow hsh qs Bd hBd hq d f (j+1+1) R' (by omega) (by omega) (by omega) (by omega) hR'
   have fin:∀ T:Int,∃ y,GD y∧f83.j2389 k m (i:Int) ow R (ta:Int) (tb:Int) ds (f83.j2384 k ((j+1:Nat):Int) (f83.l2270 k m (i:Int) sp P ow qs f)) T=some y:=fun T => by
    unfold f83.j2389
    simp only [Int.toNat_natCast]
    rw [nn1,Option.bind_some]
    have tail:∀ R',R'.length≤R.length+1→∃ y,GD y∧f83.j2393 k ow (tb:Int) (ta:Int) m (i:Int) T ds nm (f83.j2384 k ((j+1:Nat):Int) (f83.l2270 k m (i:Int) sp P ow qs f)) R'=some y:=fun R' hR' => by
     unfold f83.j2393
     simp only [Int.toNat_natCast]
     split
     ·rw [if_t (sz _ _ hR')]
      unfold f83.j2384
      rw [wrap_s (by omega)]
      exact ih _ (by simp; omega)
     ·unfold f83.j2384
      rw [wrap_s (by omega)]
      exact ih _ (by omega)
    split
    ·rw [if_t (sz _ _ (by omega))]
     exact tail _ (by simp)
    ·exact tail _ (by omega)
   rw [f83.l2270]
   simp only [Int.toNat_natCast,wrap_p j (show j < 9223372036854775807 by omega)]
   rw [c1,c2,cond_true,if_t rfl,if_t hb0,ea,Option.bind_some,if_t hb1,eb,Option.bind_some,if_t ha,if_t hb,Int.toNat_natCast,Int.toNat_natCast,d1,Option.bind_some,if_t c3,hT]
   split
   ·exact fin 1
   ·exact fin T
theorem ways_tot {m:Mp} (hm:MOk m) (hzl:∀ x ∈ m.2.1,x.2.2.length≤1048576) (k:Nat) (hk:1048576 < k) (x1:Int) (P:List Spot) (hP:P.length≤1048576) (hasc:∀ i j,i < j→j < P.length → (P.getD i dS).1 < (P.getD j dS).1)
 (hsh:∀ i,i < m.2.1.length→0 < spd k (m.2.1.getD i dW).2.2 x1→∀ j,j < (m.2.1.getD i dW).2.1.length→InP P ((m.2.1.getD i dW).2.1.getD j 0)) :
 ∀ (d f i:Nat) (R:List Road),m.2.1.length - i=d→d < f→i≤m.2.1.length→R.length≤4000*i →
   ∃ y,GD y∧f83.l1559 k m x1 P f (R,(i:Int))=some y
 | d,0,i,R,_,h,_,_ => by omega
 | 0,f+1,i,R,h,_,hi,hR => by
   obtain rfl:i=m.2.1.length:=by omega
   rw [f83.l1559,if_f (by simp)]
   exact ends_tot k hk P R hP
 | d+1,f+1,i,R,h,hf,hi,hR => by
   have hlt:i < m.2.1.length:=by omega
   have n2:=hm.n2
   have hmem:=in_getD (d:=dW) hlt
   obtain ⟨w1,w2,w3⟩:=hm.ways i hlt
   have s1:=sp_tot k (m.2.1.getD i dW).2.2 x1 hk (hzl _ hmem)
   obtain ⟨ow,o1⟩:=ow_tot k (m.2.1.getD i dW).2.2 x1 hk (hzl _ hmem)
   have hb:(0:Int) ≤ (i:Int) ∧ (i:Int) < (m.2.1.length:Int):=⟨by omega,by omega⟩
   have ih:=fun R hR => ways_tot hm hzl k hk x1 P hP hasc hsh d f (i+1) R (by omega) (by omega) (by omega) hR
   have hs:=hsh i hlt
   rw [f83.l1559,if_t (decide_eq_true hb.2),if_t hb]
   simp only [Int.toNat_natCast]
   rw [s1,o1,Option.bind_some,Option.bind_some]
   generalize spd k (m.2.1.getD i dW).2.2 x1=sp at *
   by_cases h0:sp≤0
   ·obtain ⟨y,y1,y2⟩:=ih R (by omega)
    obtain ⟨k',hk'⟩:∃ z,k=z+1:=⟨k - 1,by omega⟩
    have one:∀ K,f83.l2270 K m (i:Int) sp P ow (f83.l1559 k m x1 P f) (k'+1) (R,(1:Int))=f83.l1559 k m x1 P f (R,((i+1:Nat):Int)):=fun K => by
     rw [f83.l2270]
     have c:decide (sp > 0)=false:=decide_eq_false (by omega)
     rw [c,if_f (by cases decide ((1:Int) < _) <;> simp),wrap_s (by omega)]
    have:=one k
    rw [← hk'] at this
    rw [this]
    exact ⟨y,y1,y2⟩
   ·exact road_tot hm k hk P hP hasc i hlt (hzl _ hmem) sp (by omega) ow (hs (by omega)) (f83.l1559 k m x1 P f) (4000*i) (by omega) (fun R' hR' => ih R' (by omega)) _ k 1 R rfl (by omega) (Nat.le_refl _) (by omega) (by omega)
structure PlS (m:Mp) (us:List Bool) (P:List Spot) (i:Nat):Prop where
 len:P.length≤i
 asc:∀ a b,a < b→b < P.length → (P.getD a dS).1 < (P.getD b dS).1
 src:∀ a,a < P.length→∃ p,p < i∧P.getD a dS = ((m.1.getD p dN).1,(m.1.getD p dN).2.1)
 has:∀ p,p < i→us.getD p false=true→∃ a,a < P.length∧P.getD a dS = ((m.1.getD p dN).1,(m.1.getD p dN).2.1)
theorem PlS.add {m:Mp} (hm:MOk m) {us:List Bool} {P:List Spot} {i:Nat} (hi:i < m.1.length) (h:PlS m us P i) :
 PlS m us (List.append P [((m.1.getD i dN).1,(m.1.getD i dN).2.1)]) (i+1) where
 len:=by have:=h.len; simp; omega
 asc a b hab hb:=by
  have hlen:(List.append P [((m.1.getD i dN).1,(m.1.getD i dN).2.1)]).length=P.length+1:=by simp
  rw [hlen] at hb
  rw [gd_app_l (by omega)]
  by_cases hbl:b < P.length
  ·rw [gd_app_l hbl]; exact h.asc a b hab hbl
  ·obtain rfl:b=P.length:=by omega
   rw [gd_app_r]
   obtain ⟨p,hp,he⟩:=h.src a (by omega)
   rw [he]
   exact hm.asc p i hp hi
 src a ha:=by
  have hlen:(List.append P [((m.1.getD i dN).1,(m.1.getD i dN).2.1)]).length=P.length+1:=by simp
  rw [hlen] at ha
  by_cases hal:a < P.length
  ·rw [gd_app_l hal]
   obtain ⟨p,hp,he⟩:=h.src a hal
   exact ⟨p,by omega,he⟩
  ·obtain rfl:a=P.length:=by omega
   exact ⟨i,by omega,gd_app_r⟩
 has p hp hu:=by
  have hlen:(List.append P [((m.1.getD i dN).1,(m.1.getD i dN).2.1)]).length=P.length+1:=by simp
  by_cases hpi:p=i
  ·subst hpi
   exact ⟨P.length,by rw [hlen]; omega,gd_app_r⟩
  ·obtain ⟨a,a1,a2⟩:=h.has p (by omega) hu
   exact ⟨a,by rw [hlen]; omega,by rw [gd_app_l a1]; exact a2⟩
theorem place_tot {m:Mp} (hm:MOk m) (k:Nat) (hk:1048576 < k) (x1:Int) (us:List Bool) (hul:us.length=m.1.length)
 (hq:∀ P,PlS m us P m.1.length→∃ y,GD y∧f83.l1559 k m x1 P k (([]:(List (Int × (Int × (Int × (Int × (Int × ByteArray))))))),(0:Int))=some y) :
 ∀ (d f i:Nat) (P:List Spot),m.1.length - i=d→d < f→i≤m.1.length→PlS m us P i →
   ∃ y,GD y∧f83.l671 k m us x1 f (P,(i:Int))=some y
 | d,0,i,P,_,h,_,_ => by omega
 | 0,f+1,i,P,h,_,hi,hI => by
   obtain rfl:i=m.1.length:=by omega
   rw [f83.l671,if_f (by simp)]
   exact hq P hI
 | d+1,f+1,i,P,h,hf,hi,hI => by
   have hlt:i < m.1.length:=by omega
   have n1:=hm.n1
   have hb:(0:Int) ≤ (i:Int) ∧ (i:Int) < (m.1.length:Int):=⟨by omega,by omega⟩
   have hbu:(0:Int) ≤ (i:Int) ∧ (i:Int) < (us.length:Int):=⟨by omega,by omega⟩
   have ih:=fun P hI => place_tot hm k hk x1 us hul hq d f (i+1) P (by omega) (by omega) (by omega) hI
   have hl:=hI.len
   rw [f83.l671,if_t (decide_eq_true hb.2)]
   simp only [Int.toNat_natCast,if_t hb,if_t hbu]
   cases hc:us.getD i false with
   | true =>
     have sz:∀ r:Spot,(P.length+[r].length)*24≤140737488355328:=fun r => by simp only [List.length_singleton]; omega
     simp only [if_true,if_t (sz _)]
     unfold f83.j705
     rw [wrap_s (by omega)]
     exact ih _ (hI.add hm hlt)
   | false =>
     simp only [Bool.false_eq_true,if_false]
     unfold f83.j705
     rw [wrap_s (by omega)]
     refine ih P ⟨by omega,hI.asc,fun a ha => ?_,fun p hp hu2 => ?_⟩
     ·obtain ⟨p,hp,he⟩:=hI.src a ha
      exact ⟨p,by omega,he⟩
     ·by_cases hpi:p=i
      ·rw [hpi,hc] at hu2; cases hu2
      ·exact hI.has p (by omega) hu2
def Cov (m:Mp) (us:List Bool) (x:Int):Prop:=∃ p,p < m.1.length ∧ (m.1.getD p dN).1=x∧us.getD p false=true
theorem Cov.set {m:Mp} {us:List Bool} {x:Int} (h:Cov m us x) (r:Nat):Cov m (us.set r true) x:=by
 obtain ⟨p,h1,h2,h3⟩:=h
 refine ⟨p,h1,h2,?_⟩
 rw [getD_set]
 split
 ·rfl
 ·exact h3
theorem use_in_tot {m:Mp} (hm:MOk m) (k:Nat) (hk:1048576 < k) (x1:Int) (i:Nat) (hi:i < m.2.1.length) (hsp:f98 k (m.2.1.getD i dW).2.2 x1=some (spd k (m.2.1.getD i dW).2.2 x1)) (hp:0 < spd k (m.2.1.getD i dW).2.2 x1)
 (qs:List Bool × Int→Option Graph) (us0:List Bool)
 (hq:∀ us,us.length=m.1.length → (∀ x,Cov m us0 x→Cov m us x) → (∀ j,j < (m.2.1.getD i dW).2.1.length→Cov m us ((m.2.1.getD i dW).2.1.getD j 0))→∃ y,GD y∧qs (us,((i+1:Nat):Int))=some y) :
 ∀ (d f j:Nat) (us:List Bool),(m.2.1.getD i dW).2.1.length - j=d→d < f→j ≤ (m.2.1.getD i dW).2.1.length→us.length=m.1.length → (∀ x,Cov m us0 x→Cov m us x) → (∀ q,q < j→Cov m us ((m.2.1.getD i dW).2.1.getD q 0)) →
   ∃ y,GD y∧f83.l581 k (i:Int) m x1 qs f (us,(j:Int))=some y
 | d,0,j,us,_,h,_,_,_,_ => by omega
 | 0,f+1,j,us,h,_,hj,hU,h0,hd => by
   have n2:=hm.n2
   have hb:(0:Int) ≤ (i:Int) ∧ (i:Int) < (m.2.1.length:Int):=⟨by omega,by omega⟩
   obtain ⟨y,y1,y2⟩:=hq us hU h0 (fun q hq => hd q (by omega))
   have c1:decide ((j:Int) < ((m.2.1.getD i dW).2.1.length:Int))=false:=decide_eq_false (by omega)
   rw [f83.l581]
   simp only [Int.toNat_natCast]
   rw [if_t hb,c1,if_t (by simp),if_f (by simp),Option.bind_some,cond_false,if_f (by simp),wrap_s (by omega)]
   exact ⟨y,y1,y2⟩
 | d+1,f+1,j,us,h,hf,hj,hU,h0,hd => by
   have n1:=hm.n1
   have hlt:j < (m.2.1.getD i dW).2.1.length:=by omega
   obtain ⟨w1,w2,w3⟩:=hm.ways i hi
   have hb:(0:Int) ≤ (i:Int) ∧ (i:Int) < (m.2.1.length:Int):=⟨by omega,by omega⟩
   have hbj:(0:Int) ≤ (j:Int) ∧ (j:Int) < ((m.2.1.getD i dW).2.1.length:Int):=⟨by omega,by omega⟩
   have c1:decide ((j:Int) < ((m.2.1.getD i dW).2.1.length:Int))=true:=decide_eq_true hbj.2
   obtain ⟨r,r1,r2⟩:=e99 k hk m ((m.2.1.getD i dW).2.1.getD j 0) (by omega) hm.asc
   have hh:=w3 j hlt
   obtain ⟨p,p1,p2,p3⟩:∃ p:Nat,r = (p:Int)∧p < m.1.length ∧ (m.1.getD p dN).1 = (m.2.1.getD i dW).2.1.getD j 0:=by
    rcases r2 with ⟨_,p,h⟩ | ⟨h,_⟩
    ·exact ⟨p,h⟩
    ·rw [hh] at h; cases h
   subst p1
   clear r2
   have hbu:(0:Int) ≤ (p:Int) ∧ (p:Int) < (us.length:Int):=⟨by omega,by rw [hU]; omega⟩
   have ih:=use_in_tot hm k hk x1 i hi hsp hp qs us0 hq d f (j+1) (us.set p true) (by omega) (by omega) (by omega) (by rw [List.length_set]; exact hU) (fun x hx => (h0 x hx).set p) (fun q hq => by
    by_cases hqj:q=j
    ·subst hqj
     exact ⟨p,p2,p3,getD_set_same (by omega) _ _⟩
    ·exact (hd q (by omega)).set p)
   rw [f83.l581]
   simp only [Int.toNat_natCast]
   simp only [if_t hb,c1,if_true,true_implies,hsp,Option.bind_some,cond_true,if_t (decide_eq_true hp),if_t hbj,r1,if_t hbu,Int.toNat_natCast]
   rw [wrap_s (by omega)]
   exact ih
theorem use_tot {m:Mp} (hm:MOk m) (hzl:∀ x ∈ m.2.1,x.2.2.length≤1048576) (k:Nat) (hk:1048576 < k) (x1:Int)
 (hq:∀ us,us.length=m.1.length → (∀ i,i < m.2.1.length→0 < spd k (m.2.1.getD i dW).2.2 x1→∀ j,j < (m.2.1.getD i dW).2.1.length→Cov m us ((m.2.1.getD i dW).2.1.getD j 0))→∃ y,GD y∧f83.l671 k m us x1 k (([]:(List (Int × (Int × Int)))),(0:Int))=some y) :
 ∀ (d f i:Nat) (us:List Bool),m.2.1.length - i=d→d < f→i≤m.2.1.length→us.length=m.1.length → (∀ i',i' < i→0 < spd k (m.2.1.getD i' dW).2.2 x1→∀ j,j < (m.2.1.getD i' dW).2.1.length→Cov m us ((m.2.1.getD i' dW).2.1.getD j 0)) →
   ∃ y,GD y∧f83.l317 k m x1 f (us,(i:Int))=some y
 | d,0,i,us,_,h,_,_,_ => by omega
 | 0,f+1,i,us,h,_,hi,hU,hd => by
   obtain rfl:i=m.2.1.length:=by omega
   rw [f83.l317,if_f (by simp)]
   exact hq us hU hd
 | d+1,f+1,i,us,h,hf,hi,hU,hd => by
   have hlt:i < m.2.1.length:=by omega
   have n2:=hm.n2
   have hmem:=in_getD (d:=dW) hlt
   obtain ⟨w1,w2,w3⟩:=hm.ways i hlt
   have s1:=sp_tot k (m.2.1.getD i dW).2.2 x1 hk (hzl _ hmem)
   have hb:(0:Int) ≤ (i:Int) ∧ (i:Int) < (m.2.1.length:Int):=⟨by omega,by omega⟩
   have ih:=fun us hU hd => use_tot hm hzl k hk x1 hq d f (i+1) us (by omega) (by omega) (by omega) hU hd
   rw [f83.l317,if_t (decide_eq_true hb.2)]
   by_cases hp:0 < spd k (m.2.1.getD i dW).2.2 x1
   ·refine use_in_tot hm k hk x1 i hlt s1 hp (f83.l317 k m x1 f) us (fun us' hU' h0' hd' => ?_) _ k 0 us rfl (by omega) (Nat.zero_le _) hU (fun x hx => hx) (fun q hq => by omega)
    refine ih us' hU' (fun i' hi' hp' j hj => ?_)
    by_cases hii:i'=i
    ·subst hii; exact hd' j hj
    ·exact h0' _ (hd i' (by omega) hp' j hj)
   ·obtain ⟨y,y1,y2⟩:=ih us hU (fun i' hi' hp' j hj => by
     by_cases hii:i'=i
     ·subst hii; exact absurd hp' hp
     ·exact hd i' (by omega) hp' j hj)
    obtain ⟨k',hk'⟩:∃ z,k=z+1:=⟨k - 1,by omega⟩
    have one:∀ K,f98 K (m.2.1.getD i dW).2.2 x1=some (spd k (m.2.1.getD i dW).2.2 x1)→f83.l581 K (i:Int) m x1 (f83.l317 k m x1 f) (k'+1) (us,(0:Int))=f83.l317 k m x1 f (us,((i+1:Nat):Int)):=fun K hK => by
     have hpos:decide ((0:Int) < ((m.2.1.getD i dW).2.1.length:Int))=true:=decide_eq_true (by omega)
     rw [f83.l581]
     simp only [Int.toNat_natCast]
     rw [if_t hb,if_t (fun _ => hb),hpos,if_t rfl,hK,Option.bind_some,cond_true,if_f (by simpa using hp),wrap_s (by omega)]
    have:=one k s1
    rw [← hk'] at this
    rw [this]
    exact ⟨y,y1,y2⟩
theorem make_tot (k:Nat) (hk:1048576 < k) (m:Mp) (hz:MSz m) (hzl:∀ x ∈ m.2.1,x.2.2.length≤1048576) (x1:Int):∃ y,GD y∧f83 k m x1=some y:=by
 unfold f83
 rw [e97 k hk m hz,Option.bind_some]
 by_cases hc:(bif (!mapOk m) then true else (bif ((x1:Int) != (1:Int)) then ((x1:Int) != (2:Int)) else false))=true
 ·rw [if_t hc]
  exact ⟨_,noG_ok,rfl⟩
 ·rw [if_f hc]
  have hmo:mapOk m=true:=by
   cases h:mapOk m with
   | true => rfl
   | false => rw [h] at hc; exact absurd rfl hc
  have hm:=mok hmo
  have n1:=hm.n1
  have n2:=hm.n2
  rw [if_t ⟨by omega,by rw [Int.toNat_natCast]; omega⟩,Int.toNat_natCast]
  refine use_tot hm hzl k hk x1 (fun us hU hd => ?_) _ k 0 (List.replicate m.1.length false) rfl (by omega) (Nat.zero_le _) (by simp) (fun i' hi' => by omega)
  refine place_tot hm k hk x1 us hU (fun P hP => ?_) _ k 0 [] rfl (by omega) (Nat.zero_le _) ⟨by simp,fun a b h1 h2 => by simp at h2,fun a h => by simp at h,fun p h => by omega⟩
  refine ways_tot hm hzl k hk x1 P (by have:=hP.len; omega) hP.asc (fun i hi hp j hj => ?_) _ k 0 [] rfl (by omega) (Nat.zero_le _) (by simp)
  obtain ⟨p,p1,p2,p3⟩:=hd i hi hp j hj
  obtain ⟨a,a1,a2⟩:=hP.has p p1 p3
  exact ⟨a,a1,by rw [a2]; exact p2,by rw [a2]; exact hm.pt p p1⟩
end Go.Proofs.Ytdjadmdiehkfdaa
