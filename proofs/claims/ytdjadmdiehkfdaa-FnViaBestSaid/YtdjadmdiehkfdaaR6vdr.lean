/-
  The draws of graphs end, with graphs of moderate size. No condition.
-/
import Derived.Test.YtdjadmdiehkfdaaR6vmp
set_option linter.unusedVariables false
set_option linter.unusedSimpArgs false
namespace Go.Proofs.Ytdjadmdiehkfdaa
open Go Go.Vm Go.Proofs V
abbrev Cu:=List Int × (Int × Int)
def CuOk (c:Cu):Prop:=0≤c.2.1∧c.2.1 ≤ (c.1.length:Int)∧c.1.length≤1048576
theorem bits255 (y:Int):0≤Go.bits .and .i64 y 255∧Go.bits .and .i64 y 255≤255:=by
 unfold Go.bits
 have h:(BitVec.ofInt IntKind.i64.bits y &&& BitVec.ofInt IntKind.i64.bits 255).toNat≤255:=by
  rw [BitVec.toNat_and]
  exact Nat.le_trans Nat.and_le_right (by decide)
 simp only
 rw [wrap_in (by omega) (by omega)]
 omega
theorem t77 (k:Nat) (c:Cu) (h:CuOk c):∃ r,f77 k c=some r∧CuOk r.2∧0≤r.1∧r.1≤255:=by
 obtain ⟨b,i,z⟩:=c
 obtain ⟨h1,h2,h3⟩:=h
 simp only at h1 h2 h3
 unfold f77
 rw [if_t (by decide),if_t (by decide)]
 by_cases hi:i < (b.length:Int)
 ·simp only [hi,decide_true,if_true,h1,and_self,Option.bind_some,f77.j6]
  refine ⟨_,rfl,⟨?_,?_,h3⟩,(bits255 _).1,(bits255 _).2⟩
  ·simp only; rw [wrap_in (by omega) (by omega)]; omega
  ·simp only; rw [wrap_in (by omega) (by omega)]; omega
 ·simp only [hi,decide_false,Bool.false_eq_true,if_false,f77.j6]
  exact ⟨_,rfl,⟨h1,h2,h3⟩,(bits255 _).1,(bits255 _).2⟩
theorem t54 (k:Nat) (c:Cu) (n:Int) (h:CuOk c):∃ r,f54 k c n=some r∧CuOk r.2 ∧ (0 < n→0≤r.1∧r.1 < n):=by
 unfold f54
 by_cases h0:n≤0
 ·simp only [h0,decide_true,if_true]
  exact ⟨_,rfl,h,fun h' => by omega⟩
 ·simp only [h0,decide_false,Bool.false_eq_true,if_false]
  by_cases h1:n≤256
  ·obtain ⟨r,q1,q2,q3,q4⟩:=t77 k c h
   simp only [h1,decide_true,if_true,q1,Option.bind_some]
   rw [if_t (by omega)]
   exact ⟨_,rfl,q2,fun _ => ⟨Int.tmod_nonneg _ q3,Int.tmod_lt_of_pos _ (by omega)⟩⟩
  ·obtain ⟨r,q1,q2,q3,q4⟩:=t77 k c h
   obtain ⟨r2,p1,p2,p3,p4⟩:=t77 k r.2 q2
   obtain ⟨r3,m1,m2,m3,m4⟩:=t77 k r2.2 p2
   obtain ⟨r4,n1,n2,n3,n4⟩:=t77 k r3.2 m2
   simp only [h1,decide_false,Bool.false_eq_true,if_false,q1,p1,m1,n1,Option.bind_some]
   rw [if_t (by omega)]
   have w1:IntKind.i64.wrap (r.1*16777216)=r.1*16777216:=wrap_in (by omega) (by omega)
   have w2:IntKind.i64.wrap (r2.1*65536)=r2.1*65536:=wrap_in (by omega) (by omega)
   have w3:IntKind.i64.wrap (r3.1*256)=r3.1*256:=wrap_in (by omega) (by omega)
   have w4:IntKind.i64.wrap (r.1*16777216+r2.1*65536)=r.1*16777216+r2.1*65536:=wrap_in (by omega) (by omega)
   have w5:IntKind.i64.wrap (r.1*16777216+r2.1*65536+r3.1*256)=r.1*16777216+r2.1*65536+r3.1*256:=wrap_in (by omega) (by omega)
   have w6:IntKind.i64.wrap (r.1*16777216+r2.1*65536+r3.1*256+r4.1)=r.1*16777216+r2.1*65536+r3.1*256+r4.1:=wrap_in (by omega) (by omega)
   simp only [w1,w2,w3,w4,w5,w6]
   have hp:0≤r.1*16777216+r2.1*65536+r3.1*256+r4.1:=by omega
   exact ⟨_,rfl,n2,fun _ => ⟨Int.tmod_nonneg _ hp,Int.tmod_lt_of_pos _ (by omega)⟩⟩
theorem t61 (k:Nat) (c:Cu) (n:Int) (h:CuOk c):∃ r,f61 k c n=some r∧CuOk r.2:=by
 obtain ⟨r,q1,q2,_⟩:=t54 k c n h
 unfold f61
 rw [q1]
 exact ⟨_,rfl,q2⟩
theorem t31 (k:Nat) (x:List Int) (hx:x.length≤1048576) (hk:1048576 < k):∃ r,f31 k x=some r∧CuOk r:=by
 have lp:∀ (m:Nat) (i:Nat) (h:Int),i≤x.length→x.length < m+i→∃ r,f31.l16 k x m (h,(i:Int))=some r∧CuOk r:=by
  intro m
  induction m with
  | zero => intro i h h1 h2; omega
  | succ m ih =>
    intro i h h1 h2
    unfold f31.l16
    by_cases hi:i < x.length
    ·rw [if_t (by simpa using hi),if_t ⟨by omega,by exact_mod_cast hi⟩,wrap_s (by omega)]
     exact ih (i+1) _ (by omega) (by omega)
    ·rw [if_f (by simpa using hi)]
     exact ⟨_,rfl,by simp,by simp,hx⟩
 unfold f31
 exact lp k 0 _ (by omega) (by omega)
def Tg (n:Nat) (ts:Tags):Prop:=ts.length≤n∧TSz ts
theorem Tg.nil:Tg 0 ([]:Tags):=⟨by simp,fun t h => by cases h⟩
theorem Tg.mono {n m:Nat} {ts:Tags} (h:Tg n ts) (hm:n≤m):Tg m ts:=⟨Nat.le_trans h.1 hm,h.2⟩
theorem Tg.app {n:Nat} {ts:Tags} (h:Tg n ts) {a b:ByteArray} (ha:Nat.ble a.size 1000=true) (hb:b.size≤1000):Tg (n+1) (ts ++ [(a,b)]):=by
 have ha':=Nat.le_of_ble_eq_true ha
 refine ⟨by have:=h.1; simp; omega,fun t ht => ?_⟩
 rcases List.mem_append.1 ht with ht | ht
 ·exact h.2 t ht
 ·obtain rfl:=List.mem_singleton.1 ht
  exact ⟨by simp only; omega,by simp only; omega⟩
theorem gd_sz (l:List ByteArray) (hl:l.all (fun s => Nat.ble s.size 1000)=true) (i:Nat):(l.getD i ⟨#[]⟩).size≤1000:=by
 rw [List.getD_eq_getElem?_getD]
 cases h:l[i]? with
 | none => exact Nat.zero_le 1000
 | some s =>
   have hm:s ∈ l:=List.mem_of_getElem? h
   exact Nat.le_of_ble_eq_true (List.all_eq_true.1 hl s hm)
theorem cap32 {ts:Tags} {n:Nat} (h:Tg n ts) (hn:n≤100) (p:ByteArray × ByteArray):(ts.length+[p].length)*32≤140737488355328:=by
 have:=h.1
 simp only [List.length_singleton]; omega
theorem t95j87 (k:Nat) (c:Cu) (ts:Tags) (n:Nat) (hn:n≤50) (h:CuOk c) (ht:Tg n ts):∃ r,f95.j87 k (c,ts)=some r∧CuOk r.2∧Tg (n+1) r.1:=by
 obtain ⟨r,q1,q2⟩:=t61 k c 5 h
 unfold f95.j87
 simp only [q1,Option.bind_some]
 cases r.1 with
 | false =>
   simp only [Bool.false_eq_true,if_false]
   exact ⟨_,rfl,q2,ht.mono (by omega)⟩
 | true =>
   obtain ⟨r2,p1,p2,p3⟩:=t54 k r.2 3 q2
   have:=p3 (by omega)
   simp only [if_true,p1,Option.bind_some]
   rw [if_t ⟨this.1,by simpa using this.2⟩,if_t (cap32 ht (by omega) _)]
   exact ⟨_,rfl,p2,ht.app rfl (gd_sz _ rfl _)⟩
theorem t95j79 (k:Nat) (c:Cu) (ts:Tags) (n:Nat) (hn:n≤49) (h:CuOk c) (ht:Tg n ts):∃ r,f95.j79 k (c,ts)=some r∧CuOk r.2∧Tg (n+2) r.1:=by
 obtain ⟨r,q1,q2⟩:=t61 k c 3 h
 unfold f95.j79
 simp only [q1,Option.bind_some]
 cases r.1 with
 | true =>
   simp only [Bool.not_true,Bool.false_eq_true,if_false]
   obtain ⟨r2,p1,p2,p3⟩:=t95j87 k r.2 ts n (by omega) q2 ht
   exact ⟨r2,p1,p2,p3.mono (by omega)⟩
 | false =>
   obtain ⟨r2,p1,p2,p3⟩:=t54 k r.2 4 q2
   have:=p3 (by omega)
   simp only [Bool.not_false,if_true,p1,Option.bind_some]
   rw [if_t ⟨this.1,by simpa using this.2⟩,if_t (cap32 ht (by omega) _)]
   exact t95j87 k _ _ (n+1) (by omega) p2 (ht.app rfl (gd_sz _ rfl _))
theorem t95j71 (k:Nat) (r68:Bool × Cu) (ts:Tags) (n:Nat) (hn:n≤48) (h:CuOk r68.2) (ht:Tg n ts):∃ r,f95.j71 k r68 ts=some r∧CuOk r.2∧Tg (n+3) r.1:=by
 obtain ⟨r,q1,q2⟩:=t61 k r68.2 3 h
 unfold f95.j71
 simp only [q1,Option.bind_some]
 cases r.1 with
 | false =>
   simp only [Bool.false_eq_true,if_false]
   obtain ⟨r2,p1,p2,p3⟩:=t95j79 k r.2 ts n (by omega) q2 ht
   exact ⟨r2,p1,p2,p3.mono (by omega)⟩
 | true =>
   obtain ⟨r2,p1,p2,p3⟩:=t54 k r.2 4 q2
   have:=p3 (by omega)
   simp only [if_true,p1,Option.bind_some]
   rw [if_t ⟨this.1,by simpa using this.2⟩,if_t (cap32 ht (by omega) _)]
   exact t95j79 k _ _ (n+1) (by omega) p2 (ht.app rfl (gd_sz _ rfl _))
theorem t95j66 (k:Nat) (c:Cu) (ts:Tags) (n:Nat) (hn:n≤45) (h:CuOk c) (ht:Tg n ts):∃ r,f95.j66 k (c,ts)=some r∧CuOk r.2∧Tg (n+5) r.1:=by
 obtain ⟨r,q1,q2,q3⟩:=t54 k c 5 h
 have hb:=q3 (by omega)
 obtain ⟨r2,p1,p2⟩:=t61 k r.2 8 q2
 unfold f95.j66
 simp only [q1,Option.bind_some]
 rw [if_t ⟨hb.1,by simpa using hb.2⟩,if_t (cap32 ht (by omega) _)]
 have h1:=ht.app (a:=(⟨#[104,105,103,104,119,97,121]⟩:ByteArray)) rfl (gd_sz [(⟨#[109,97,105,110]⟩:ByteArray),(⟨#[115,116,114,101,101,116]⟩:ByteArray),(⟨#[112,97,116,104]⟩:ByteArray),(⟨#[115,116,114,101,101,116]⟩:ByteArray),(⟨#[109,111,116,111,114,119,97,121]⟩:ByteArray)] rfl (Int.toNat r.1))
 simp only [p1,Option.bind_some]
 cases hr:r2.1 with
 | false =>
   simp only [Bool.false_eq_true,if_false]
   obtain ⟨r3,s1,s2,s3⟩:=t95j71 k r2 _ (n+1) (by omega) p2 h1
   exact ⟨r3,s1,s2,s3.mono (by omega)⟩
 | true =>
   simp only [if_true]
   rw [if_t (cap32 h1 (by omega) _)]
   exact t95j71 k r2 _ (n+2) (by omega) p2 (h1.app rfl (by exact Nat.le_of_ble_eq_true rfl))
theorem t95 (k:Nat) (c:Cu) (x:Int) (h:CuOk c):∃ r,f95 k c x=some r∧CuOk r.2∧Tg 10 r.1:=by
 unfold f95
 by_cases hx:x=1
 ·rw [if_t (by simpa using hx)]
  obtain ⟨r,q1,q2⟩:=t61 k c 3 h
  simp only [q1,Option.bind_some]
  cases r.1 with
  | false =>
    simp only [Bool.false_eq_true,if_false]
    exact ⟨_,rfl,q2,Tg.nil.mono (by omega)⟩
  | true =>
    obtain ⟨r2,p1,p2,p3⟩:=t54 k r.2 5 q2
    have hb:=p3 (by omega)
    obtain ⟨r3,s1,s2⟩:=t61 k r2.2 2 p2
    simp only [if_true,p1,Option.bind_some]
    have h1:=Tg.nil.app (a:=(⟨#[110,97,109,101]⟩:ByteArray)) rfl (gd_sz [(⟨#[79,108,100,32,77,105,108,108]⟩:ByteArray),(⟨#[78,111,114,116,104,32,71,97,116,101]⟩:ByteArray),(⟨#[83,116,97,116,105,111,110]⟩:ByteArray),(⟨#[77,105,108,108,32,76,97,110,101,32,52]⟩:ByteArray),(⟨#[82,101,100,32,76,105,111,110]⟩:ByteArray)] rfl (Int.toNat r2.1))
    rw [if_t ⟨hb.1,by simpa using hb.2⟩,if_t (cap32 Tg.nil (by omega) _)]
    simp only [s1,Option.bind_some]
    cases r3.1 with
    | false =>
      simp only [Bool.false_eq_true,if_false]
      exact ⟨_,rfl,s2,h1.mono (by omega)⟩
    | true =>
      obtain ⟨r4,u1,u2,u3⟩:=t54 k r3.2 3 s2
      have hb2:=u3 (by omega)
      simp only [if_true,u1,Option.bind_some]
      rw [if_t ⟨hb2.1,by simpa using hb2.2⟩,if_t (cap32 h1 (by omega) _)]
      exact ⟨_,rfl,u2,(h1.app rfl (gd_sz _ rfl _)).mono (by omega)⟩
 ·rw [if_f (by simpa using hx)]
  obtain ⟨r,q1,q2⟩:=t61 k c 6 h
  simp only [q1,Option.bind_some]
  cases r.1 with
  | false =>
    simp only [Bool.false_eq_true,if_false]
    obtain ⟨r2,p1,p2,p3⟩:=t95j66 k r.2 [] 0 (by omega) q2 Tg.nil
    exact ⟨r2,p1,p2,p3.mono (by omega)⟩
  | true =>
    obtain ⟨r2,p1,p2,p3⟩:=t54 k r.2 3 q2
    have hb:=p3 (by omega)
    simp only [if_true,p1,Option.bind_some]
    rw [if_t ⟨hb.1,by simpa using hb.2⟩,if_t (cap32 Tg.nil (by omega) _)]
    obtain ⟨r4,u1,u2,u3⟩:=t95j66 k r2.2 _ 1 (by omega) p2 (Tg.nil.app (a:=(⟨#[97,99,99,101,115,115]⟩:ByteArray)) rfl (gd_sz [(⟨#[110,111]⟩:ByteArray),(⟨#[112,114,105,118,97,116,101]⟩:ByteArray),(⟨#[121,101,115]⟩:ByteArray)] rfl (Int.toNat r2.1)))
    exact ⟨r4,u1,u2,u3.mono (by omega)⟩
theorem t96 (k:Nat) (c:Cu) (a s:Int) (hs:s≠0) (h:CuOk c):∃ r,f96 k c a s=some r∧CuOk r.2:=by
 obtain ⟨r,q1,q2,_⟩:=t54 k c 4 h
 have j4:∀ v,∃ r',f96.j4 k s a r v=some r'∧CuOk r'.2:=fun v => by
  obtain ⟨v2,v3⟩:=v
  unfold f96.j4
  simp only
  split
  ·exact ⟨_,rfl,q2⟩
  ·exact ⟨_,rfl,q2⟩
 unfold f96
 rw [if_t hs,if_t hs,q1,Option.bind_some]
 split
 ·exact j4 _
 ·split
  ·exact j4 _
  ·split
   ·exact j4 _
   ·exact j4 _
def NdOk (l:List Nod):Prop:=∀ x ∈ l,Tg 10 x.2.2
def WyOk (l:List Wy):Prop:=∀ x ∈ l,Tg 10 x.2.2∧x.2.1.length≤100
def DM (r:Mp × Cu):Prop:=CuOk r.2∧NdOk r.1.1∧WyOk r.1.2.1∧r.1.2.2=[]
theorem WyOk.app {l:List Wy} {w:Wy} (h:WyOk l) (h1:Tg 10 w.2.2) (h2:w.2.1.length≤100):WyOk (List.append l [w]):=fun x hx => by
 rcases List.mem_append.1 (show x ∈ l ++ [w] from hx) with hx | hx
 ·exact h x hx
 ·obtain rfl:=List.mem_singleton.1 hx
  exact ⟨h1,h2⟩
theorem NdOk.app {l:List Nod} {w:Nod} (h:NdOk l) (h1:Tg 10 w.2.2):NdOk (List.append l [w]):=fun x hx => by
 rcases List.mem_append.1 (show x ∈ l ++ [w] from hx) with hx | hx
 ·exact h x hx
 ·obtain rfl:=List.mem_singleton.1 hx
  exact h1
theorem t82w (k:Nat) (r1:Int × Cu) (hs:IntKind.i64.wrap (2+r1.1)≠0) (ws:List Wy) (v:Int) (r2:Tags × Cu) (q:Cu × List Wy→Option (Mp × Cu)) (B:Nat) (hB:ws.length≤B) (hB2:B≤1000) (hw:WyOk ws) (ht:Tg 10 r2.1)
 (hq:∀ c ws',CuOk c→WyOk ws'→ws'.length≤B+1→∃ r,q (c,ws')=some r∧DM r) :
 ∀ (d m:Nat) (c:Cu) (ns:List Int) (a n:Int),CuOk c→ns.length+d≤100→d < m→n = (d:Int) - 1→∃ r,f82.l1618 k r1 ws v r2 q m (c,ns,a,n)=some r∧DM r:=by
 intro d
 induction d with
 | zero =>
   intro m c ns a n hc hl hm hn
   obtain ⟨m,rfl⟩:∃ m',m=m'+1:=⟨m - 1,by omega⟩
   rw [f82.l1618,if_f (by rw [decide_eq_true_eq]; omega)]
   by_cases h1:ns.length > 1
   ·rw [if_t (by rw [decide_eq_true_eq]; omega),if_t (by simp only [List.length_singleton]; omega)]
    exact hq _ _ hc (hw.app ht (by simp only; omega)) (by simp; omega)
   ·rw [if_f (by rw [decide_eq_true_eq]; omega)]
    exact hq _ _ hc hw (by omega)
 | succ d ih =>
   intro m c ns a n hc hl hm hn
   obtain ⟨m,rfl⟩:∃ m',m=m'+1:=⟨m - 1,by omega⟩
   have hj:∀ ns',ns'.length+d≤100→∃ r,f82.j1672 k c a r1 n (f82.l1618 k r1 ws v r2 q m) ns'=some r∧DM r:=fun ns' hl' => by
    obtain ⟨r,u1,u2⟩:=t96 k c a _ hs hc
    unfold f82.j1672
    simp only [u1,Option.bind_some]
    refine ih m r.2 ns' r.1 _ u2 hl' (by omega) ?_
    rw [wrap_in (by omega) (by omega)]; omega
   rw [f82.l1618,if_t (by rw [decide_eq_true_eq]; omega),if_t (by
    intro h0
    have hne:ns.length≠0:=fun h => by rw [h] at h0; simp at h0
    rw [wrap_in (by omega) (by omega)]; omega)]
   split
   ·rw [if_t (by simp only [List.length_singleton]; omega)]
    exact hj _ (by simp; omega)
   ·exact hj _ (by omega)
theorem t82b (k:Nat) (hk:1048576 < k) (r136 r1:Int × Cu) (hs:IntKind.i64.wrap (2+r1.1)≠0) (nd:List Nod) (hn:NdOk nd) (N:Nat) (hN:IntKind.i64.wrap (1+r136.1) = (N:Int)) (hN2:N≤100) :
 ∀ (d m i:Nat) (c:Cu) (ws:List Wy),N - i=d→d < m→i≤N→CuOk c→WyOk ws→ws.length≤i→∃ r,f82.l909 k r136 r1 nd m (c,ws,(i:Int))=some r∧DM r:=by
 intro d
 induction d with
 | zero =>
   intro m i c ws h1 h2 h3 hc hw hl
   obtain ⟨m,rfl⟩:∃ m',m=m'+1:=⟨m - 1,by omega⟩
   rw [f82.l909,hN,if_f (by rw [decide_eq_true_eq]; omega)]
   exact ⟨_,rfl,hc,hn,hw,rfl⟩
 | succ d ih =>
   intro m i c ws h1 h2 h3 hc hw hl
   obtain ⟨m,rfl⟩:∃ m',m=m'+1:=⟨m - 1,by omega⟩
   obtain ⟨r,a1,a2,a3⟩:=t95 k c 2 hc
   obtain ⟨r2,b1,b2,b3⟩:=t54 k r.2 (IntKind.i64.wrap ((IntKind.i64.wrap (2+r1.1)) * (IntKind.i64.wrap (2+r1.1)))) a2
   obtain ⟨r3,c1,c2,c3⟩:=t54 k r2.2 6 b2
   have hb:=c3 (by omega)
   rw [f82.l909,hN,if_t (by rw [decide_eq_true_eq]; omega),a1,Option.bind_some,b1,Option.bind_some,c1,Option.bind_some]
   refine t82w k r1 hs ws (i:Int) r _ i hl (by omega) hw a3 (fun c' ws' hc' hw' hl' => ?_) (r3.1.toNat+2) k r3.2 [] r2.1 _ c2 (by simp only [List.length_nil]; omega) (by omega) ?_
   ·unfold f82.j1555
    simp only
    rw [wrap_s (by omega)]
    exact ih m (i+1) c' ws' (by omega) (by omega) (by omega) hc' hw' hl'
   ·rw [wrap_in (by omega) (by omega)]; omega
theorem t82a (k:Nat) (hk:1048576 < k) (r1:Int × Cu) (S:Nat) (hS:IntKind.i64.wrap (2+r1.1) = (S:Int)) (hS1:1≤S) (hS2:S≤10) (hSS:IntKind.i64.wrap ((S:Int) * (S:Int)) = ((S*S:Nat):Int)) (hSS2:S*S≤100) :
 ∀ (d m i:Nat) (c:Cu) (nd:List Nod),S*S - i=d→d < m→i≤S*S→CuOk c→NdOk nd→nd.length≤i→∃ r,f82.l69 k r1 m (c,nd,(i:Int))=some r∧DM r:=by
 intro d
 induction d with
 | zero =>
   intro m i c nd h1 h2 h3 hc hn hl
   obtain ⟨m,rfl⟩:∃ m',m=m'+1:=⟨m - 1,by omega⟩
   obtain ⟨r,a1,a2,a3⟩:=t54 k c 9 hc
   have hb:=a3 (by omega)
   rw [f82.l69,hS,hSS,if_f (by rw [decide_eq_true_eq]; omega),a1,Option.bind_some]
   exact t82b k hk r r1 (by rw [hS]; omega) nd hn (r.1.toNat+1) (by rw [wrap_in (by omega) (by omega)]; omega) (by omega) (r.1.toNat+1) k 0 r.2 [] (by omega) (by omega) (by omega) a2 (fun x hx => by cases hx) (by simp)
 | succ d ih =>
   intro m i c nd h1 h2 h3 hc hn hl
   obtain ⟨m,rfl⟩:∃ m',m=m'+1:=⟨m - 1,by omega⟩
   obtain ⟨r,a1,a2,a3⟩:=t54 k c 30 hc
   obtain ⟨r2,b1,b2,b3⟩:=t54 k r.2 30 a2
   obtain ⟨r3,c1,c2,c3⟩:=t95 k r2.2 1 b2
   rw [f82.l69]
   simp only [hS,hSS]
   rw [if_t (by rw [decide_eq_true_eq]; omega),if_t (by omega),a1,Option.bind_some,if_t (by omega),b1,Option.bind_some,c1,Option.bind_some,if_t (by simp only [List.length_singleton]; omega),wrap_s (by omega)]
   exact ih m (i+1) r3.2 _ (by omega) (by omega) (by omega) c2 (hn.app c3) (by simp; omega)
theorem t82 (k:Nat) (hk:1048576 < k) (c:Cu) (hc:CuOk c):∃ r,f82 k c=some r∧DM r:=by
 obtain ⟨r,a1,a2,a3⟩:=t54 k c 4 hc
 have hb:=a3 (by omega)
 unfold f82
 rw [a1,Option.bind_some]
 have hS:IntKind.i64.wrap (2+r.1) = ((r.1.toNat+2:Nat):Int):=by rw [wrap_in (by omega) (by omega)]; omega
 have hS2:(r.1.toNat+2) * (r.1.toNat+2)≤5*5:=Nat.mul_le_mul (by omega) (by omega)
 exact t82a k hk r (r.1.toNat+2) hS (by omega) (by omega) (by rw [← Int.natCast_mul,wrap_in (by omega) (by omega)]) (by omega) _ k 0 r.2 [] rfl (by omega) (by omega) a2 (fun x hx => by cases hx) (by simp)
end Go.Proofs.Ytdjadmdiehkfdaa
