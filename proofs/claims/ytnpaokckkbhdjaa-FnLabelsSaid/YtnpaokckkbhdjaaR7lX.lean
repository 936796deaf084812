/-
  Own texts of this project, joined. No condition.
-/
import Derived.Test.YtnpaokckkbhdjaaR7lp
import Derived.Test.YtnpaokckkbhdjaaLawA
import Derived.Test.YtnpaokckkbhdjaaLawB
import Derived.Test.YtnpaokckkbhdjaaLawC
section
set_option linter.unusedVariables false
set_option linter.unusedSimpArgs false
namespace Go.Proofs.Ytnpaokckkbhdjaa
open Go Go.Vm Go.Proofs V
abbrev Cu:=List Int × (Int × Int)
def CuOk (c:Cu):Prop:=0≤c.2.1∧c.2.1 ≤ (c.1.length:Int)∧c.1.length≤1048576
theorem bits255 (y:Int):0≤Go.bits .and .i64 y 255∧Go.bits .and .i64 y 255≤255:=by
 unfold Go.bits
 have h:(BitVec.ofInt IntKind.i64.bits y &&& BitVec.ofInt IntKind.i64.bits 255).toNat≤255:=by
  rw [BitVec.toNat_and]
  exact Nat.le_trans Nat.and_le_right (by decide)
 simp only
 rw [wrap_in (by omega) (by omega)]
 omega
theorem t62 (k:Nat) (c:Cu) (h:CuOk c):∃ r,f194 k c=some r∧CuOk r.2∧0≤r.1∧r.1≤255:=by
 obtain ⟨b,i,z⟩:=c
 obtain ⟨h1,h2,h3⟩:=h
 simp only at h1 h2 h3
 unfold f194
 rw [if_t (by decide),if_t (by decide)]
 by_cases hi:i < (b.length:Int)
 ·simp only [hi,decide_true,if_true,h1,and_self,Option.bind_some,f194.j6]
  refine ⟨_,rfl,⟨?_,?_,h3⟩,(bits255 _).1,(bits255 _).2⟩
  ·simp only; rw [wrap_in (by omega) (by omega)]; omega
  ·simp only; rw [wrap_in (by omega) (by omega)]; omega
 ·simp only [hi,decide_false,Bool.false_eq_true,if_false,f194.j6]
  exact ⟨_,rfl,⟨h1,h2,h3⟩,(bits255 _).1,(bits255 _).2⟩
theorem t28 (k:Nat) (c:Cu) (n:Int) (h:CuOk c):∃ r,f144 k c n=some r∧CuOk r.2 ∧ (0 < n→n≤256→0≤r.1∧r.1 < n):=by
 unfold f144
 by_cases h0:n≤0
 ·simp only [h0,decide_true,if_true]
  exact ⟨_,rfl,h,fun h' => by omega⟩
 ·simp only [h0,decide_false,Bool.false_eq_true,if_false]
  by_cases h1:n≤256
  ·obtain ⟨r,q1,q2,q3,q4⟩:=t62 k c h
   simp only [h1,decide_true,if_true,q1,Option.bind_some]
   rw [if_t (by omega)]
   exact ⟨_,rfl,q2,fun _ _ => ⟨Int.tmod_nonneg _ q3,Int.tmod_lt_of_pos _ (by omega)⟩⟩
  ·obtain ⟨r,q1,q2,q3,q4⟩:=t62 k c h
   obtain ⟨r2,p1,p2,p3,p4⟩:=t62 k r.2 q2
   obtain ⟨r3,m1,m2,m3,m4⟩:=t62 k r2.2 p2
   obtain ⟨r4,n1,n2,n3,n4⟩:=t62 k r3.2 m2
   simp only [h1,decide_false,Bool.false_eq_true,if_false,q1,p1,m1,n1,Option.bind_some]
   rw [if_t (by omega)]
   exact ⟨_,rfl,n2,fun _ h' => by first | exact absurd h' h1 | exact h'.elim⟩
theorem t29 (k:Nat) (c:Cu) (n:Int) (h:CuOk c):∃ r,f145 k c n=some r∧CuOk r.2:=by
 obtain ⟨r,q1,q2,_⟩:=t28 k c n h
 unfold f145
 rw [q1]
 exact ⟨_,rfl,q2⟩
theorem t26 (k:Nat) (x:List Int) (hx:x.length≤1048576) (hk:1048576 < k):∃ r,f78 k x=some r∧CuOk r:=by
 have lp:∀ (m:Nat) (i:Nat) (h:Int),i≤x.length→x.length < m+i→∃ r,f78.l16 k x m (h,(i:Int))=some r∧CuOk r:=by
  intro m
  induction m with
  | zero => intro i h h1 h2; omega
  | succ m ih =>
    intro i h h1 h2
    unfold f78.l16
    by_cases hi:i < x.length
    ·rw [if_t (by simpa using hi),if_t ⟨by omega,by exact_mod_cast hi⟩,wrap_s (by omega)]
     exact ih (i+1) _ (by omega) (by omega)
    ·rw [if_f (by simpa using hi)]
     exact ⟨_,rfl,by simp,by simp,hx⟩
 unfold f78
 exact lp k 0 _ (by omega) (by omega)
end Go.Proofs.Ytnpaokckkbhdjaa
end
section
set_option linter.unusedVariables false
set_option linter.unusedSimpArgs false
namespace Go.Proofs.Ytnpaokckkbhdjaa
open Go Go.Vm Go.Proofs V
open Go.Sort (SWO)
abbrev Lb:=Int × ((Int × Int) × (Int × (Int × Int)))
abbrev dL:Lb:=((0:Int),(((0:Int),(0:Int)),((0:Int),((0:Int),(0:Int)))))
def idB (a:Int):Bool:=bif (decide ((a:Int) ≥ (1:Int))) then (decide ((a:Int) ≤ (1000000000:Int))) else false
def ptB (a:Int × Int):Bool:=bif (bif (bif (decide ((a.1:Int) ≥ (-10000000:Int))) then (decide ((a.1:Int) ≤ (10000000:Int))) else false) then (decide ((a.2:Int) ≥ (-10000000:Int))) else false) then (decide ((a.2:Int) ≤ (10000000:Int))) else false
theorem e146 (k:Nat) (a:Int):f146 k a=some (idB a):=rfl
theorem e147 (k:Nat) (a:Int × Int):f147 k a=some (ptB a):=rfl
def lOk (x:Lb):Bool:=(bif (bif (bif (bif (bif (bif (bif idB x.1 then ptB x.2.1 else false) then (decide ((x.2.2.1:Int) ≥ (1:Int))) else false) then (decide ((x.2.2.1:Int) ≤ (100000:Int))) else false) then (decide ((x.2.2.2.1:Int) ≥ (1:Int))) else false) then (decide ((x.2.2.2.1:Int) ≤ (100000:Int))) else false) then (decide ((x.2.2.2.2:Int) ≥ (0:Int))) else false) then (decide ((x.2.2.2.2:Int) ≤ (1000:Int))) else false)
theorem e81 (k:Nat) (x:Lb):f81 k x=some (lOk x):=by
 unfold f81 lOk
 rw [e146,Option.bind_some]
 cases idB x.1 <;> simp [e147]
def hasL (x:List Lb) (id:Int):Bool:=x.any fun l => l.1 == id
theorem hasL_take {x:List Lb} {id:Int} {i:Nat} (h:i < x.length):hasL (x.take (i+1)) id = (hasL (x.take i) id || (x.getD i dL).1 == id):=by
 unfold hasL
 rw [List.take_add_one,List.any_append,List.getD_eq_getElem?_getD,List.getElem?_eq_getElem h]
 simp
def okL (x:List Lb) (i:Nat):Bool:=lOk (x.getD i dL) && !hasL (x.take i) (x.getD i dL).1
def labelsOk (x:List Lb):Bool:=decide (x.length≤500) && allTo (okL x) x.length
theorem gt_lit (a c:Nat) (C:Int) (h:C = (c:Int)):decide ((a:Int) > C)=!decide (a≤c):=by
 subst h; rw [← decide_not]; congr 1; apply propext; omega
theorem impl32 (k:Nat) (hk:1048576 < k) (x:List Lb) (hx:x.length≤1048576):f32 k x=some (labelsOk x):=by
 have q:=allLoopS (L:=f32.l28 k x) (n:=x.length) (p:=okL x) (fin:=some true) (Inv:=fun i m => ∀ id,mget (Sh.beq (.int .i64)) (some m) id false=hasL (x.take i) id) (fun m i s hi hs => by
  refine ⟨mput (Sh.beq (.int .i64)) (x.getD i dL).1 true s,fun _ id => ?_,?_⟩
  ·rw [mget_put (beq_int _),hs id,hasL_take hi]
   have:Sh.beq (.int .i64) id (x.getD i dL).1 = ((x.getD i dL).1 == id):=by
    simp only [Sh.beq]
    by_cases e:id = (x.getD i dL).1
    ·simp [e]
    ·have e':¬ (x.getD i dL).1=id:=fun h => e h.symm
     rw [beq_eq_false_iff_ne.2 e,beq_eq_false_iff_ne.2 e']
   rw [this]
   cases ((x.getD i dL).1 == id) <;> simp
  ·rw [f32.l28,if_t (by simpa using hi),if_t ⟨by omega,by omega⟩,wrap_s (by omega),e81,Option.bind_some]
   rw [hs]
   unfold okL
   simp only [Int.toNat_natCast]
   generalize lOk (x.getD i dL)=A
   generalize hasL (x.take i) (x.getD i dL).1=B
   cases A <;> cases B <;> simp) (fun m s _ => by rw [f32.l28,if_f (by simp)]) k 0 ([]:List (Int × Bool)) (fun id => by simp [mget_nil,hasL]) (by omega) (by omega)
 unfold f32 labelsOk
 have b1:=gt_lit x.length 500 500 rfl
 have q':f32.l28 k x k (([]:(List (Int × Bool))),(0:Int))=_:=q
 simp only [q',b1,Nat.sub_zero]
 change _=some (decide (x.length≤500) && allFrom (okL x) 0 x.length)
 cases decide (x.length≤500) <;> cases allFrom (okL x) 0 x.length <;> rfl
def hasI (ids:List Int) (id:Int):Bool:=ids.any fun x => x == id
theorem hasI_drop {ids:List Int} {id:Int} {i:Nat} (h:i < ids.length):hasI (ids.drop i) id = (ids.getD i 0 == id || hasI (ids.drop (i+1)) id):=by
 unfold hasI
 rw [List.drop_eq_getElem_cons h,List.any_cons,List.getD_eq_getElem?_getD,List.getElem?_eq_getElem h]
 rfl
theorem hasI_take {ids:List Int} {id:Int} {i:Nat} (h:i < ids.length):hasI (ids.take (i+1)) id = (hasI (ids.take i) id || ids.getD i 0 == id):=by
 unfold hasI
 rw [List.take_add_one,List.any_append,List.getD_eq_getElem?_getD,List.getElem?_eq_getElem h]
 simp
open Go.Sort (SWO)
def ltW (w:Lb→Int) (x y:Lb):Bool:=if w x≠w y then decide (w x > w y) else decide (x.1 < y.1)
theorem swoW (w:Lb→Int):SWO (ltW w) where
 irrefl x:=by simp [ltW]
 trans x y z h1 h2:=by
  unfold ltW at *
  split at h1 <;> split at h2 <;> split <;> simp_all <;> omega
 ntrans x y z h1 h2:=by
  unfold ltW at *
  split at h1 <;> split at h2 <;> split <;> simp_all <;> omega
def wtM (c0:Option (List (Int × Bool))) (l:Lb):Int:=if mget (Sh.beq (.int .i64)) c0 l.1 false=true then IntKind.i64.wrap (l.2.2.2.2+50) else l.2.2.2.2
theorem e72 (k:Nat) (l:Lb) (c0:Option (List (Int × Bool))):f72 k l c0=some (wtM c0 l):=by
 unfold f72 wtM
 split <;> rfl
theorem e74 (k:Nat) (c0:Option (List (Int × Bool))) (ys:List Lb) (i j:Nat) (hi:i < ys.length) (hj:j < ys.length):f74 k (i:Int) (j:Int) c0 ys=some (ltW (wtM c0) (ys.getD i dL) (ys.getD j dL)):=by
 unfold f74 ltW
 have key:∀ a b:Lb,(if (wtM c0 a != wtM c0 b)=true then some (decide (wtM c0 a > wtM c0 b)) else some (decide (a.1 < b.1)))=some (if wtM c0 a≠wtM c0 b then decide (wtM c0 a > wtM c0 b) else decide (a.1 < b.1)):=fun a b => by
  by_cases h:wtM c0 a=wtM c0 b
  ·rw [if_f (by simp [h]),if_f (by simp [h])]
  ·rw [if_t (by simp [h]),if_t h]
 have b1:(0:Int) ≤ (i:Int) ∧ (i:Int) < (ys.length:Int):=⟨by omega,by omega⟩
 have b2:(0:Int) ≤ (j:Int) ∧ (j:Int) < (ys.length:Int):=⟨by omega,by omega⟩
 simp only [if_t b1,if_t b2,e72,Option.bind_some,Int.toNat_natCast]
 exact key _ _
theorem less_mk {α:Type} {d:α} {f:List α→Int→Int→Option Bool} {L:α→α→Bool} (hL:SWO L) (hf:∀ (ys:List α) (i j:Nat),i < ys.length→j < ys.length→f ys (i:Int) (j:Int)=some (L (ys.getD i d) (ys.getD j d))):LessOk d f∧ofLess f=L:=by
 have h:ofLess f=L:=by
  funext a b
  unfold ofLess
  have:=hf [a,b] 0 1 (by simp) (by simp)
  have h2:f [a,b] 0 1=some (L a b):=this
  rw [h2]
  rfl
 exact ⟨⟨by rw [h]; exact hL,fun ys i j hi hj => by rw [h]; exact hf ys i j hi hj⟩,h⟩
theorem h74:H74:=fun k c0 => (less_mk (swoW (wtM c0)) (fun ys i j hi hj => e74 k c0 ys i j hi hj)).1
theorem o74 (k:Nat) (c0:Option (List (Int × Bool))):ofLess (fun (ys:List Lb) (i j:Int) => f74 k i j c0 ys)=ltW (wtM c0):=(less_mk (d:=dL) (swoW (wtM c0)) (fun ys i j hi hj => e74 k c0 ys i j hi hj)).2
def ltI (a b:Int):Bool:=decide (a < b)
theorem swoI:SWO ltI where
 irrefl x:=by simp [ltI]
 trans x y z h1 h2:=by simp [ltI] at *; omega
 ntrans x y z h1 h2:=by simp [ltI] at *; omega
theorem e76 (k:Nat) (ys:List Int) (i j:Nat) (hi:i < ys.length) (hj:j < ys.length):f76 k (i:Int) (j:Int) ys=some (ltI (ys.getD i 0) (ys.getD j 0)):=by
 unfold f76
 have b1:(0:Int) ≤ (i:Int) ∧ (i:Int) < (ys.length:Int):=⟨by omega,by omega⟩
 have b2:(0:Int) ≤ (j:Int) ∧ (j:Int) < (ys.length:Int):=⟨by omega,by omega⟩
 simp only [if_t b1,if_t b2,Int.toNat_natCast]
 rfl
theorem h76:H76:=fun k => (less_mk swoI (fun ys i j hi hj => e76 k ys i j hi hj)).1
theorem o76 (k:Nat):ofLess (fun (ys:List Int) (i j:Int) => f76 k i j ys)=ltI:=(less_mk (d:=(0:Int)) swoI (fun ys i j hi hj => e76 k ys i j hi hj)).2
def ov (x y:Lb):Bool:=(bif (bif (bif (decide ((x.2.1.1:Int) < (IntKind.i64.wrap (y.2.1.1+y.2.2.1)))) then (decide ((y.2.1.1:Int) < (IntKind.i64.wrap (x.2.1.1+x.2.2.1)))) else false) then (decide ((x.2.1.2:Int) < (IntKind.i64.wrap (y.2.1.2+y.2.2.2.1)))) else false) then (decide ((y.2.1.2:Int) < (IntKind.i64.wrap (x.2.1.2+x.2.2.2.1)))) else false)
theorem eo75 (k:Nat) (x y:Lb):f75 k x y=some (ov x y):=rfl
def free (s:List Lb) (l:Lb):Bool:=s.all fun t => !ov l t
def gr1 (s:List Lb) (l:Lb):List Lb:=if free s l then s ++ [l] else s
theorem getD_drop {α:Type} {x:List α} {i:Nat} {d:α} (h:i < x.length):x.drop i=x.getD i d :: x.drop (i+1):=by
 rw [List.drop_eq_getElem_cons h,List.getD_eq_getElem?_getD,List.getElem?_eq_getElem h]; rfl
theorem i705 (k:Nat) (s:List Lb) (m28:List (Int × Bool)) (x0:List Lb) (i:Nat) (q:List Lb→Option (List Int)) (l:Lb) (hl:l=List.getD (sortR pdqR (Sh.dflt sh3) (ofLess (fun (ys:List Lb) (i j:Int) => f74 k i j (some m28) ys)) (([]:List Lb) ++ x0)) i dL) (hs:s.length≤1000):∀ (m j:Nat) (room:Bool),j≤s.length→s.length - j < m →
 f15.l705 k s m28 x0 (i:Int) q m (room,(j:Int))=q (if (room && free (s.drop j) l)=true then s ++ [l] else s)
 | 0,j,room,_,h => by omega
 | m+1,j,room,hj,h => by
   rw [f15.l705]
   have hl':List.getD (sortR pdqR (Sh.dflt sh3) (ofLess (fun (ys:List Lb) (i j:Int) => f74 k i j (some m28) ys)) (([]:List Lb) ++ x0)) (Int.toNat (i:Int)) dL=l:=by rw [Int.toNat_natCast]; exact hl.symm
   by_cases hlt:j < s.length
   ·rw [if_t (by simpa using hlt),if_t ⟨by omega,by omega⟩,wrap_s (by omega),Int.toNat_natCast (n:=j),getD_drop (d:=dL) hlt]
    cases room with
    | false =>
      simp only [Bool.false_eq_true,if_false,Option.bind_some]
      rw [show (bif false then !(default:Bool) else false)=false from rfl,i705 k s m28 x0 i q l hl hs m (j+1) false (by omega) (by omega)]
      simp
    | true =>
      simp only [if_true]
      rw [show List.getD (sortR pdqR (Sh.dflt sh3) (ofLess (fun (ys:List Lb) (i j:Int) => f74 k i j (some m28) ys)) (([]:List Lb) ++ x0)) (Int.toNat (i:Int)) dL=l from hl',eo75,Option.bind_some,cond_true,i705 k s m28 x0 i q l hl hs m (j+1) _ (by omega) (by omega)]
      simp only [free,List.all_cons,Bool.true_and]
      rfl
   ·rw [if_f (by simpa using hlt),List.drop_eq_nil_of_le (by omega)]
    have hlen:(s.length+List.length [l])*48≤140737488355328:=by simp; omega
    cases room with
    | false => simp
    | true =>
      rw [if_t rfl]
      rw [show List.getD (sortR pdqR (Sh.dflt sh3) (ofLess (fun (ys:List Lb) (i j:Int) => f74 k i j (some m28) ys)) (([]:List Lb) ++ x0)) (Int.toNat (i:Int)) dL=l from hl',if_t hlen]
      simp [free]
open Go.Sort (SWO)
def wtB (b:List Int) (l:Lb):Int:=if hasI b l.1=true then IntKind.i64.wrap (l.2.2.2.2+50) else l.2.2.2.2
theorem gr1_len (s:List Lb) (l:Lb):(gr1 s l).length≤s.length+1:=by
 unfold gr1; split <;> simp
theorem grs_len:∀ (O s:List Lb),(O.foldl gr1 s).length≤s.length+O.length
 | [],s => by simp
 | l :: O,s => by
   have h1:=grs_len O (gr1 s l)
   have h2:=gr1_len s l
   simp only [List.foldl_cons,List.length_cons]
   omega
theorem sortR_len {α:Type} {d:α} {L:α→α→Bool} (hL:SWO L) (xs:List α):(sortR pdqR d L xs).length=xs.length:=(sortR_ok hL xs).1.length_eq
theorem i755 (k:Nat) (s:List Lb) (hs:s.length≤1000):∀ (m j:Nat) (acc:List Int),j≤s.length→s.length - j < m→acc.length≤j →
 f15.l755 k s m (acc,(j:Int))=some (sortR pdqR (0:Int) ltI (acc ++ (s.drop j).map (·.1)))
 | 0,j,acc,_,h,_ => by omega
 | m+1,j,acc,hj,h,ha => by
   rw [f15.l755]
   by_cases hlt:j < s.length
   ·rw [if_t (by simpa using hlt),if_t ⟨by omega,by omega⟩,wrap_s (by omega),Int.toNat_natCast,getD_drop (d:=dL) hlt]
    have hl:∀ z:Int,(acc.length+List.length [z])*8≤140737488355328:=fun z => by simp; omega
    rw [if_t (hl _)]
    have:=i755 k s hs m (j+1) (acc ++ [(s.getD j dL).1]) (by omega) (by omega) (by simp; omega)
    refine Eq.trans this ?_
    simp
   ·rw [if_f (by simpa using hlt),List.drop_eq_nil_of_le (by omega),if_t (by omega)]
    simp only [List.map_nil,List.append_nil]
    rw [o76]
    rfl
theorem i383 (k:Nat) (hk:1048576 < k) (m28:List (Int × Bool)) (x0:List Lb) (hx:x0.length≤500) (O:List Lb) (hO:O=sortR pdqR (Sh.dflt sh3) (ofLess (fun (ys:List Lb) (i j:Int) => f74 k i j (some m28) ys)) (([]:List Lb) ++ x0)) (hOl:O.length=x0.length) :
 ∀ (m i:Nat) (s:List Lb),i≤O.length→O.length - i < m→s.length≤i →
 f15.l383 k m28 x0 m (s,(i:Int))=f15.l755 k ((O.drop i).foldl gr1 s) k (([]:List Int),(0:Int))
 | 0,i,s,_,h,_ => by omega
 | m+1,i,s,hi,h,hs => by
   rw [f15.l383]
   have hlen:(List.length (sortR pdqR (Sh.dflt sh3) (ofLess (fun (ys:List Lb) (i j:Int) => f74 k i j (some m28) ys)) (([]:List Lb) ++ x0)):Int) = (O.length:Int):=by rw [hO]
   have key:∀ (c:Int) (A B:Option (List Int)),c = (O.length:Int) → (if decide ((i:Int) < c)=true then (if (0 ≤ (i:Int) ∧ (i:Int) < c) then A else none) else B)=if i < O.length then A else B:=by
    rintro c A B rfl
    by_cases hlt:i < O.length
    ·rw [if_t (by simpa using hlt),if_t ⟨by omega,by omega⟩,if_t hlt]
    ·rw [if_f (by simpa using hlt),if_f hlt]
   refine (key _ _ _ hlen).trans ?_
   by_cases hlt:i < O.length
   ·rw [if_t hlt]
    refine Eq.trans (i705 k s m28 x0 i _ (List.getD O i dL) (by rw [hO]) (by omega) k 0 true (by omega) (by omega)) ?_
    rw [getD_drop (d:=dL) hlt,List.foldl_cons]
    unfold f15.j677
    simp only []
    rw [wrap_s (by omega)]
    have hg:(if (true && free (s.drop 0) (O.getD i dL))=true then s ++ [O.getD i dL] else s)=gr1 s (O.getD i dL):=by
     unfold gr1; simp
    rw [hg]
    have:=gr1_len s (O.getD i dL)
    exact i383 k hk m28 x0 hx O hO hOl m (i+1) (gr1 s (O.getD i dL)) (by omega) (by omega) (by omega)
   ·rw [if_f hlt,List.drop_eq_nil_of_le (by omega)]
    rfl
theorem i17 (k:Nat) (hk:1048576 < k) (x0:List Lb) (hx:x0.length≤500) (x1:List Int) (hx1:x1.length≤500):∀ (m i:Nat) (mp:List (Int × Bool)),i≤x1.length→x1.length - i < m → (∀ id,mget (Sh.beq (.int .i64)) (some mp) id false=hasI (x1.take i) id) →
 f15.l17 k x1 x0 m (mp,(i:Int))=some (sortR pdqR (0:Int) ltI (((sortR pdqR dL (ltW (wtB x1)) x0).foldl gr1 []).map (·.1)))
 | 0,i,mp,_,h,_ => by omega
 | m+1,i,mp,hi,h,hm => by
   rw [f15.l17]
   by_cases hlt:i < x1.length
   ·rw [if_t (by simpa using hlt),if_t ⟨by omega,by omega⟩,wrap_s (by omega),Int.toNat_natCast]
    refine i17 k hk x0 hx x1 hx1 m (i+1) _ (by omega) (by omega) (fun id => ?_)
    rw [mget_put (beq_int _),hm id,hasI_take hlt]
    have:Sh.beq (.int .i64) id (x1.getD i 0) = (x1.getD i 0 == id):=by
     simp only [Sh.beq]
     by_cases e:id=x1.getD i 0
     ·simp [e]
     ·have e':¬ x1.getD i 0=id:=fun h => e h.symm
      rw [beq_eq_false_iff_ne.2 e,beq_eq_false_iff_ne.2 e']
    rw [this]
    cases (x1.getD i 0 == id) <;> simp
   ·have hw:wtM (some mp)=wtB x1:=by
     funext l
     unfold wtM wtB
     rw [hm,List.take_of_length_le (by omega)]
    have hl:(List.length ([]:List Lb)+x0.length)*48≤140737488355328:=by simp; omega
    have hl2:List.length (([]:List Lb) ++ x0) < 2305843009213693952:=by simp; omega
    rw [if_f (by simpa using hlt),if_t hl,if_t hl2]
    obtain ⟨O,hO⟩:∃ O,O=sortR pdqR (Sh.dflt sh3) (ofLess (fun (ys:List Lb) (i j:Int) => f74 k i j (some mp) ys)) (([]:List Lb) ++ x0):=⟨_,rfl⟩
    have hO2:O=sortR pdqR dL (ltW (wtB x1)) x0:=by
     rw [hO,o74,hw]; rfl
    have hOl:O.length=x0.length:=by rw [hO2]; exact sortR_len (swoW _) x0
    have h1:=i383 k hk mp x0 hx O hO hOl k 0 [] (by omega) (by omega) (by simp)
    have h2:f15.l383 k mp x0 k (([]:List Lb),(0:Int))=f15.l755 k ((O.drop 0).foldl gr1 []) k (([]:List Int),(0:Int)):=h1
    refine Eq.trans h2 ?_
    have hgl:=grs_len O []
    simp only [List.length_nil,Nat.zero_add] at hgl
    have h3:=i755 k (O.foldl gr1 []) (by omega) k 0 [] (by omega) (by omega) (by simp)
    rw [List.drop_zero]
    refine Eq.trans h3 ?_
    rw [List.nil_append,List.drop_zero,hO2]
theorem f15_eq (k:Nat) (hk:1048576 < k) (x0:List Lb) (hx:x0.length≤1048576) (x1:List Int):f15 k x0 x1=if (!labelsOk x0 || decide (x1.length > 500))=true then some [] else some (sortR pdqR (0:Int) ltI (((sortR pdqR dL (ltW (wtB x1)) x0).foldl gr1 []).map (·.1))):=by
 unfold f15
 rw [impl32 k hk x0 hx,Option.bind_some]
 by_cases hok:labelsOk x0=true
 ·rw [hok]
  simp only [Bool.not_true,cond_false,Bool.false_or]
  by_cases h1:x1.length > 500
  ·rw [if_t (by simp; omega),if_t (by simpa using h1)]
  ·rw [if_f (by simp; omega),if_f (by simpa using h1)]
   have hx5:x0.length≤500:=by
    unfold labelsOk at hok
    simp only [Bool.and_eq_true,decide_eq_true_eq] at hok
    exact hok.1
   exact i17 k hk x0 hx5 x1 (by omega) k 0 [] (by omega) (by omega) (fun id => by simp [mget_nil,hasI])
 ·have:labelsOk x0=false:=by simpa using hok
  rw [this]
  simp
abbrev ci (is:List Nat):List Int:=is.map fun (n:Nat) => (n:Int)
open Go.Sort (SWO)
open Go.Sort (SWO)
theorem gr_sub:∀ (O s:List Lb),∃ t,t.Sublist O∧O.foldl gr1 s=s ++ t
 | [],s => ⟨[],List.Sublist.refl _,by simp⟩
 | l :: O,s => by
   simp only [List.foldl_cons]
   obtain ⟨t,h1,h2⟩:=gr_sub O (gr1 s l)
   unfold gr1 at h2 ⊢
   split at h2
   ·rename_i hf
    rw [if_pos hf]
    exact ⟨l :: t,h1.cons_cons l,by rw [h2]; simp⟩
   ·rename_i hf
    rw [if_neg hf]
    exact ⟨t,h1.cons l,h2⟩
theorem ids_of {x:List Lb} (h:labelsOk x=true):∀ p q,p < x.length→q < x.length→p≠q → (x.getD p dL).1 ≠ (x.getD q dL).1:=by
 unfold labelsOk at h
 simp only [Bool.and_eq_true] at h
 have h2:=allTo_iff.1 h.2
 have key:∀ p q,p < q→q < x.length → (x.getD p dL).1 ≠ (x.getD q dL).1:=by
  intro p q hpq hq e
  have:=h2 q hq
  unfold okL at this
  simp only [Bool.and_eq_true,Bool.not_eq_true'] at this
  have h3:=this.2
  unfold hasL at h3
  rw [List.any_eq_false] at h3
  have hm:x.getD p dL ∈ x.take q:=by
   rw [List.getD_eq_getElem?_getD,List.getElem?_eq_getElem (by omega)]
   exact List.mem_take_iff_getElem.2 ⟨p,by omega,rfl⟩
  exact h3 _ hm (by simpa using e)
 intro p q hp hq hne
 rcases Nat.lt_or_gt_of_ne hne with h' | h'
 ·exact key p q h' hq
 ·exact fun e => key q p h' hp e.symm
theorem nodup_ids {x:List Lb} (h:labelsOk x=true):(x.map (·.1)).Nodup:=by
 rw [List.nodup_iff_pairwise_ne,List.pairwise_map,List.pairwise_iff_getElem]
 intro p q hp hq hpq
 have:=ids_of h p q hp hq (by omega)
 rw [List.getD_eq_getElem?_getD,List.getD_eq_getElem?_getD,List.getElem?_eq_getElem hp,List.getElem?_eq_getElem hq] at this
 exact this
end Go.Proofs.Ytnpaokckkbhdjaa
end
section
set_option linter.unusedVariables false
set_option linter.unusedSimpArgs false
namespace Go.Proofs.Ytnpaokckkbhdjaa
open Go Go.Vm Go.Proofs V
open Go.Sort (SWO)
theorem t204 (k:Nat) (c:Cu) (ls:List Lb):f79.j204 k (c,ls)=some (ls,c):=rfl
theorem t206 (k:Nat) (r205:Int × Cu) (hc:CuOk r205.2):∀ (m n:Nat) (acc:List Lb),acc.length+n≤1000→n < m→∃ r,f79.l206 k r205 (f79.j204 k) m (acc,(n:Int))=some r∧CuOk r.2∧r.1.length≤1000
 | 0,n,acc,_,h => by omega
 | m+1,n,acc,h1,h => by
   rw [f79.l206]
   by_cases hn:0 < n
   ·obtain ⟨q,rfl⟩:∃ q,n=q+1:=⟨n - 1,by omega⟩
    rw [if_t (decide_eq_true (by omega)),if_t (by simp only [List.length_cons,List.length_nil]; omega)]
    have:IntKind.i64.wrap (((q+1:Nat):Int) - 1) = (q:Int):=by rw [wrap_in (by omega) (by omega)]; omega
    rw [this]
    exact t206 k r205 hc m q _ (by simp only [List.length_append,List.length_cons,List.length_nil]; omega) (by omega)
   ·have:n=0:=by omega
    subst this
    rw [if_f (by simp),t204]
    exact ⟨_,rfl,hc,by simp only; omega⟩
theorem t183 (k:Nat) (hk:1048576 < k) (c:Cu) (hc:CuOk c) (ls:List Lb) (hl:ls.length≤1000):∃ r,f79.j183 k (c,ls)=some r∧CuOk r.2∧r.1.length≤1000:=by
 obtain ⟨r,q1,q2⟩:=t29 k c 200 hc
 unfold f79.j183
 simp only [q1,Option.bind_some]
 cases r.1 with
 | false => exact ⟨_,rfl,q2,hl⟩
 | true =>
   obtain ⟨r2,p1,p2,p3⟩:=t28 k r.2 3 q2
   have:=p3 (by omega) (by omega)
   obtain ⟨n,hn⟩:∃ n:Nat,r2.1 = (n:Int):=⟨r2.1.toNat,by omega⟩
   simp only [if_true,p1,Option.bind_some]
   have hw:IntKind.i64.wrap (IntKind.i64.wrap (r2.1+500) - 1) = ((n+499:Nat):Int):=by
    have e1:IntKind.i64.wrap (r2.1+500) = ((n+500:Nat):Int):=by rw [hn,wrap_in (by omega) (by omega)]; omega
    rw [e1,wrap_in (by omega) (by omega)]; omega
   rw [hw]
   exact t206 k r2 p2 k (n+499) [] (by simp; omega) (by omega)
theorem t79l (k:Nat) (hk:1048576 < k):∀ (m n:Nat) (c:Cu) (acc:List Lb),CuOk c→acc.length+n≤10→n < m→∃ r,f79.l81 k m (c,acc,(n:Int))=some r∧CuOk r.2∧r.1.length≤1000
 | 0,n,c,acc,_,_,h => by omega
 | m+1,n,c,acc,hc,h1,h => by
   rw [f79.l81]
   by_cases hn:0 < n
   ·obtain ⟨q,rfl⟩:∃ q,n=q+1:=⟨n - 1,by omega⟩
    obtain ⟨a1,b1,c1,_⟩:=t28 k c 60 hc
    obtain ⟨a2,b2,c2,_⟩:=t28 k a1.2 30 c1
    obtain ⟨a3,b3,c3,_⟩:=t28 k a2.2 20 c2
    obtain ⟨a4,b4,c4,_⟩:=t28 k a3.2 10 c3
    obtain ⟨a5,b5,c5,_⟩:=t28 k a4.2 12 c4
    have:IntKind.i64.wrap (((q+1:Nat):Int) - 1) = (q:Int):=by rw [wrap_in (by omega) (by omega)]; omega
    rw [if_t (decide_eq_true (by omega))]
    simp only [b1,b2,b3,b4,b5,Option.bind_some]
    rw [if_t (by simp only [List.length_cons,List.length_nil]; omega),this]
    exact t79l k hk m q _ _ c5 (by simp only [List.length_append,List.length_cons,List.length_nil]; omega) (by omega)
   ·have:n=0:=by omega
    subst this
    obtain ⟨r,q1,q2⟩:=t29 k c 12 hc
    rw [if_f (by simp)]
    simp only [q1,Option.bind_some]
    have hfin:∀ (c':Cu) (l:List Lb),CuOk c'→l.length=acc.length→∃ r,f79.j183 k (c',l)=some r∧CuOk r.2∧r.1.length≤1000:=fun c' l h' hl' => t183 k hk c' h' l (by omega)
    by_cases hb:(bif r.1 then decide ((List.length acc:Int) > 0) else false)=true
    ·rw [if_t hb]
     have hpos:0 < acc.length:=by
      cases h0:r.1 with
      | false => rw [h0] at hb; cases hb
      | true => rw [h0] at hb; simp at hb; omega
     obtain ⟨r2,p1,p2,p3⟩:=t28 k r.2 (acc.length:Int) q2
     have hi:=p3 (by omega) (by omega)
     simp only [p1,Option.bind_some]
     rw [if_t hi]
     obtain ⟨r3,m1,m2,m3⟩:=t28 k r2.2 5 p2
     simp only [m1,Option.bind_some]
     by_cases k0:((r3.1:Int) == 0)=true
     ·obtain ⟨r4,n1,n2,n3⟩:=t28 k r3.2 4 m2
      rw [if_t k0,n1,Option.bind_some,if_t (by simpa using n3 (by omega) (by omega))]
      exact hfin _ _ n2 (by simp)
     rw [if_f k0]
     by_cases k1:((r3.1:Int) == 1)=true
     ·obtain ⟨r4,n1,n2,n3⟩:=t28 k r3.2 3 m2
      rw [if_t k1,n1,Option.bind_some,if_t (by simpa using n3 (by omega) (by omega))]
      exact hfin _ _ n2 (by simp)
     rw [if_f k1]
     by_cases k2:((r3.1:Int) == 2)=true
     ·rw [if_t k2]
      exact hfin _ _ m2 (by simp)
     rw [if_f k2]
     by_cases k3:((r3.1:Int) == 3)=true
     ·obtain ⟨r4,n1,n2,n3⟩:=t28 k r3.2 3 m2
      rw [if_t k3,n1,Option.bind_some,if_t (by simpa using n3 (by omega) (by omega))]
      exact hfin _ _ n2 (by simp)
     rw [if_f k3]
     by_cases k4:((r3.1:Int) == 4)=true
     ·obtain ⟨r4,n1,n2,n3⟩:=t28 k r3.2 2 m2
      rw [if_t k4,n1,Option.bind_some]
      exact hfin _ _ n2 (by simp)
     rw [if_f k4]
     exact hfin _ _ m2 rfl
    ·rw [if_f hb]
     exact hfin _ _ q2 rfl
theorem t79 (k:Nat) (hk:1048576 < k) (c:Cu) (hc:CuOk c):∃ r,f79 k c=some r∧CuOk r.2∧r.1.length≤1000:=by
 obtain ⟨r,q1,q2,q3⟩:=t28 k c 10 hc
 have:=q3 (by omega) (by omega)
 obtain ⟨n,hn⟩:∃ n:Nat,r.1 = (n:Int):=⟨r.1.toNat,by omega⟩
 unfold f79
 simp only [q1,Option.bind_some,hn]
 exact t79l k hk k n r.2 [] q2 (by simp; omega) (by omega)
theorem t80l (k:Nat):∀ (m i:Nat) (c:Cu) (acc:List Int),CuOk c→i≤22→acc.length≤i→22 - i < m→∃ r,f80.l41 k m (c,acc,(i:Int))=some r∧r.1.length≤22
 | 0,i,c,acc,_,_,_,h => by omega
 | m+1,i,c,acc,hc,hi,ha,h => by
   rw [f80.l41]
   by_cases hlt:i < 22
   ·obtain ⟨r,q1,q2⟩:=t29 k c 3 hc
    rw [if_t (by simp; omega)]
    simp only [q1,Option.bind_some]
    cases r.1 with
    | true =>
      rw [if_t rfl,if_t (by simp only [List.length_cons,List.length_nil]; omega),f80.j77,wrap_s (by omega)]
      exact t80l k m (i+1) _ _ q2 (by omega) (by simp; omega) (by omega)
    | false =>
      rw [if_f (by simp),f80.j77,wrap_s (by omega)]
      exact t80l k m (i+1) _ _ q2 (by omega) (by omega) (by omega)
   ·rw [if_f (by simp; omega)]
    exact ⟨_,rfl,by simp only; omega⟩
theorem t35 (k:Nat) (hk:1048576 < k) (x:List Int) (hx:x.length≤1048576):∃ ls ids,f35 k x=some (ls,ids)∧ls.length≤1000∧ids.length≤22:=by
 obtain ⟨c,a1,a2⟩:=t26 k x hx hk
 obtain ⟨r,b1,b2,b3⟩:=t79 k hk c a2
 obtain ⟨s,c1,c2⟩:=t80l k k 8 r.2 [] b2 (by omega) (by simp) (by omega)
 have c1':f80 k r.2=some s:=c1
 refine ⟨r.1,s.1,?_,b3,c2⟩
 unfold f35
 simp only [a1,b1,c1',Option.bind_some]
def Rk (l:Lb):Prop:=0≤l.2.2.2.2∧l.2.2.2.2≤1000
theorem ranks {x:List Lb} (h:labelsOk x=true):x.length≤500∧∀ l ∈ x,Rk l:=by
 unfold labelsOk at h
 simp only [Bool.and_eq_true,decide_eq_true_eq] at h
 refine ⟨h.1,fun l hl => ?_⟩
 obtain ⟨i,hi,rfl⟩:=List.getElem_of_mem hl
 have:=(allTo_iff.1 h.2) i hi
 unfold okL at this
 simp only [Bool.and_eq_true] at this
 have h1:=this.1
 rw [List.getD_eq_getElem?_getD,List.getElem?_eq_getElem hi] at h1
 simp only [Option.getD_some] at h1
 unfold lOk at h1
 generalize x[i]=l at h1
 unfold Rk
 generalize hA:(bif (bif (bif (bif (bif idB l.1 then ptB l.2.1 else false) then (decide ((l.2.2.1:Int) ≥ (1:Int))) else false) then (decide ((l.2.2.1:Int) ≤ (100000:Int))) else false) then (decide ((l.2.2.2.1:Int) ≥ (1:Int))) else false) then (decide ((l.2.2.2.1:Int) ≤ (100000:Int))) else false)=A at h1
 cases A with
 | false => simp at h1
 | true => simpa using h1
theorem has34 (k:Nat) (ids:List Int) (id:Int) (hx:ids.length≤1048576):∀ (m i:Nat),i≤ids.length→ids.length - i < m→f34.l12 k ids id m (i:Int)=some (hasI (ids.drop i) id)
 | 0,i,_,h => by omega
 | m+1,i,hi,h => by
   rw [f34.l12]
   by_cases hlt:i < ids.length
   ·rw [if_t (by simpa using hlt),if_t ⟨by omega,by omega⟩,hasI_drop hlt,Int.toNat_natCast]
    cases hb:(ids.getD i 0 == id) with
    | true => rw [if_t rfl]; rfl
    | false =>
      rw [if_f (by simp),wrap_s (by omega),Bool.false_or]
      exact has34 k ids id hx m (i+1) (by omega) (by omega)
   ·rw [if_f (by simpa using hlt),List.drop_eq_nil_of_le (by omega)]
    rfl
theorem e34 (k:Nat) (hk:1048576 < k) (ids:List Int) (id:Int) (hx:ids.length≤1048576):f34 k ids id=some (hasI ids id):=has34 k ids id hx k 0 (by omega) (by omega)
theorem take_succ_getD {α:Type} {x:List α} {i:Nat} {d:α} (h:i < x.length):x.take (i+1)=x.take i ++ [x.getD i d]:=by
 rw [List.take_add_one,List.getD_eq_getElem?_getD,List.getElem?_eq_getElem h]; rfl
theorem c58 (k:Nat) (x0:List Lb) (hx:x0.length≤1048576) (ids:List Int) (mp:List (Int × Bool)) (hm:∀ id,mget (Sh.beq (.int .i64)) (some mp) id false=hasI ids id):∀ (m i:Nat),i≤x0.length→x0.length - i < m →
 f82.l58 k x0 mp m ((x0.take i).filter (fun l => hasI ids l.1),(i:Int))=some (x0.filter fun l => hasI ids l.1)
 | 0,i,_,h => by omega
 | m+1,i,hi,h => by
   rw [f82.l58]
   by_cases hlt:i < x0.length
   ·have ih:=c58 k x0 hx ids mp hm m (i+1) (by omega) (by omega)
    rw [take_succ_getD (d:=dL) hlt,List.filter_append] at ih
    have hlen:((x0.take i).filter (fun l => hasI ids l.1)).length≤1048576:=by
     have:=List.length_filter_le (fun l:Lb => hasI ids l.1) (x0.take i)
     simp only [List.length_take] at this; omega
    rw [if_t (by simpa using hlt),if_t ⟨by omega,by omega⟩,Int.toNat_natCast,hm]
    cases hb:hasI ids (x0.getD i dL).1 with
    | true =>
      have hf:[x0.getD i dL].filter (fun l => hasI ids l.1)=[x0.getD i dL]:=by rw [List.filter_cons,if_pos (by simpa using hb)]; rfl
      rw [hf] at ih
      rw [if_t rfl,if_t (show (((x0.take i).filter (fun l => hasI ids l.1)).length+[x0.getD i dL].length)*48≤140737488355328 from Nat.le_trans (Nat.mul_le_mul_right 48 (Nat.add_le_add_right hlen 1)) (by decide)),f82.j82,wrap_s (by omega)]
      exact ih
    | false =>
      have hf:[x0.getD i dL].filter (fun l => hasI ids l.1)=[]:=by rw [List.filter_cons,if_neg (by rw [hb]; simp)]; rfl
      rw [hf,List.append_nil] at ih
      rw [if_f (by simp),f82.j82,wrap_s (by omega)]
      exact ih
   ·rw [if_f (by simpa using hlt),List.take_of_length_le (by omega)]
theorem c16 (k:Nat) (hk:1048576 < k) (x0:List Lb) (hx:x0.length≤1048576) (ids:List Int) (hx1:ids.length≤1048576):∀ (m i:Nat) (mp:List (Int × Bool)),i≤ids.length→ids.length - i < m → (∀ id,mget (Sh.beq (.int .i64)) (some mp) id false=hasI (ids.take i) id) →
 f82.l16 k ids x0 m (mp,(i:Int))=some (x0.filter fun l => hasI ids l.1)
 | 0,i,mp,_,h,_ => by omega
 | m+1,i,mp,hi,h,hm => by
   rw [f82.l16]
   by_cases hlt:i < ids.length
   ·rw [if_t (by simpa using hlt),if_t ⟨by omega,by omega⟩,wrap_s (by omega),Int.toNat_natCast]
    refine c16 k hk x0 hx ids hx1 m (i+1) _ (by omega) (by omega) (fun id => ?_)
    rw [mget_put (beq_int _),hm id,hasI_take hlt]
    have:Sh.beq (.int .i64) id (ids.getD i 0) = (ids.getD i 0 == id):=by
     simp only [Sh.beq]
     by_cases e:id=ids.getD i 0
     ·simp [e]
     ·have e':¬ ids.getD i 0=id:=fun h => e h.symm
      rw [beq_eq_false_iff_ne.2 e,beq_eq_false_iff_ne.2 e']
    rw [this]
    cases (ids.getD i 0 == id) <;> simp
   ·rw [if_f (by simpa using hlt)]
    rw [List.take_of_length_le (by omega)] at hm
    exact c58 k x0 hx ids mp hm k 0 (by omega) (by omega)
theorem e82 (k:Nat) (hk:1048576 < k) (x0:List Lb) (hx:x0.length≤1048576) (ids:List Int) (hx1:ids.length≤1048576):f82 k x0 ids=some (x0.filter fun l => hasI ids l.1) :=
 c16 k hk x0 hx ids hx1 k 0 [] (by omega) (by omega) (fun id => rfl)
theorem ov_comm (x y:Lb):ov x y=ov y x:=by
 unfold ov
 generalize decide ((x.2.1.1:Int) < (IntKind.i64.wrap (y.2.1.1+y.2.2.1)))=a
 generalize decide ((y.2.1.1:Int) < (IntKind.i64.wrap (x.2.1.1+x.2.2.1)))=b
 generalize decide ((x.2.1.2:Int) < (IntKind.i64.wrap (y.2.1.2+y.2.2.2.1)))=c
 generalize decide ((y.2.1.2:Int) < (IntKind.i64.wrap (x.2.1.2+x.2.2.2.1)))=d
 cases a <;> cases b <;> cases c <;> cases d <;> rfl
theorem free_iff (s:List Lb) (l:Lb):free s l=true↔∀ t ∈ s,ov l t=false:=by
 unfold free
 rw [List.all_eq_true]
 constructor
 ·intro h t ht; have:=h t ht; simpa using this
 ·intro h t ht; simpa using h t ht
theorem gr_pair:∀ (O s:List Lb),s.Pairwise (fun a b => ov a b=false) → (O.foldl gr1 s).Pairwise (fun a b => ov a b=false)
 | [],s,h => h
 | l :: O,s,h => by
   rw [List.foldl_cons]
   refine gr_pair O _ ?_
   unfold gr1
   split
   ·rename_i hf
    have hf:=(free_iff s l).1 hf
    rw [List.pairwise_append]
    exact ⟨h,List.pairwise_singleton _ _,fun a ha b hb => by
     have:b=l:=by simpa using hb
     rw [this,ov_comm]; exact hf a ha⟩
   ·exact h
def gr (O:List Lb):List Lb:=O.foldl gr1 []
theorem gr_app (a b:List Lb):gr (a ++ b)=b.foldl gr1 (gr a):=by unfold gr; rw [List.foldl_append]
theorem gr_mem {O:List Lb} {t:Lb} (h:t ∈ gr O):t ∈ O:=by
 obtain ⟨u,h1,h2⟩:=gr_sub O []
 unfold gr at h
 rw [h2,List.nil_append] at h
 exact h1.subset h
theorem gr_mono (a b:List Lb) {t:Lb} (h:t ∈ gr a):t ∈ gr (a ++ b):=by
 rw [gr_app]
 obtain ⟨u,_,h2⟩:=gr_sub b (gr a)
 rw [h2]
 exact List.mem_append_left _ h
theorem gr_nodup {O:List Lb} (h:O.Nodup):(gr O).Nodup:=by
 obtain ⟨u,h1,h2⟩:=gr_sub O []
 unfold gr
 rw [h2,List.nil_append]
 exact h.sublist h1
theorem gr_why {a b:List Lb} {l:Lb} (h:l ∉ gr (a ++ l :: b)):∃ t ∈ gr a,ov l t=true:=by
 have e:a ++ l :: b = (a ++ [l]) ++ b:=by simp
 cases hf:free (gr a) l with
 | true =>
   exfalso
   apply h
   rw [e]
   refine gr_mono _ _ ?_
   rw [gr_app]
   show l ∈ gr1 (gr a) l
   unfold gr1
   rw [hf]
   simp
 | false =>
   by_cases hx:∀ t ∈ gr a,ov l t=false
   ·rw [(free_iff _ _).2 hx] at hf; cases hf
   ·simp only [Classical.not_forall] at hx
    obtain ⟨t,ht,hx⟩:=hx
    exact ⟨t,ht,by simpa using hx⟩
theorem gr_again {L L':Lb→Lb→Bool} {O O':List Lb} (hp:O.Perm O') (hn:O.Nodup) (h1:O.Pairwise (fun a b => L b a=false)) (h2:O'.Pairwise (fun a b => L' b a=false)) (hL:∀ t l,t ∈ gr O→l ∈ O→l ∉ gr O→L l t=false→L' t l=true):(gr O').Perm (gr O):=by
 have hn':O'.Nodup:=hp.nodup_iff.1 hn
 have key:∀ (b a:List Lb),O'=a ++ b → (∀ x,x ∈ gr a↔x ∈ a∧x ∈ gr O)→∀ x,x ∈ gr O'↔x ∈ O'∧x ∈ gr O:=by
  intro b
  induction b with
  | nil => intro a ha h; rw [List.append_nil] at ha; rw [ha]; exact h
  | cons l b ih =>
    intro a ha h
    refine ih (a ++ [l]) (by rw [ha]; simp) fun x => ?_
    have hlO:l ∈ O:=hp.symm.subset (by rw [ha]; simp)
    have hla:l ∉ a:=fun hm => by
     rw [ha,List.nodup_append] at hn'
     exact hn'.2.2 l hm l List.mem_cons_self rfl
    have eg:gr (a ++ [l])=gr1 (gr a) l:=by rw [gr_app]; rfl
    rw [eg]
    by_cases hl:l ∈ gr O
    ·have hf:free (gr a) l=true:=(free_iff _ _).2 fun t ht => by
      have hne:t≠l:=fun e => hla (e ▸ ((h t).1 ht).1)
      have hpw:=gr_pair O [] List.Pairwise.nil
      have htO:=((h t).1 ht).2
      have:∀ {x y:Lb},x ∈ gr O→y ∈ gr O→x≠y→ov x y=false:=fun {x y} hx hy hxy => by
       rcases List.pairwise_iff_getElem.1 hpw with hq
       obtain ⟨i,hi,rfl⟩:=List.getElem_of_mem hx
       obtain ⟨j,hj,rfl⟩:=List.getElem_of_mem hy
       rcases Nat.lt_trichotomy i j with hij | hij | hij
       ·exact hq i j hi hj hij
       ·subst hij; exact absurd rfl hxy
       ·rw [ov_comm]; exact hq j i hj hi hij
      exact this hl htO (fun e => hne e.symm)
     unfold gr1
     rw [hf,if_pos rfl]
     simp only [List.mem_append,List.mem_singleton,h x]
     constructor
     ·rintro (⟨q1,q2⟩ | rfl)
      ·exact ⟨.inl q1,q2⟩
      ·exact ⟨.inr rfl,hl⟩
     ·rintro ⟨q1 | q1,q2⟩
      ·exact .inl ⟨q1,q2⟩
      ·exact .inr q1
    ·obtain ⟨a0,b0,hO⟩:=List.append_of_mem hlO
     rw [hO] at hl
     obtain ⟨t,ht,hov⟩:=gr_why hl
     rw [← hO] at hl
     have htO:t ∈ gr O:=by rw [hO]; exact gr_mono _ _ ht
     have hbef:L l t=false:=by
      rw [hO,List.pairwise_append] at h1
      exact h1.2.2 t (gr_mem ht) l List.mem_cons_self
     have hnew:=hL t l htO hlO hl hbef
     have hta:t ∈ a:=by
      have htO':t ∈ O':=hp.subset (gr_mem htO)
      rw [ha] at htO' h2
      rcases List.mem_append.1 htO' with q | q
      ·exact q
      ·rcases List.mem_cons.1 q with q | q
       ·subst q; exact absurd htO hl
       ·rw [List.pairwise_append,List.pairwise_cons] at h2
        have:=h2.2.1.1 t q
        rw [this] at hnew; cases hnew
     have hf:free (gr a) l=false:=by
      cases hf:free (gr a) l with
      | false => rfl
      | true =>
        have:=(free_iff _ _).1 hf t ((h t).2 ⟨hta,htO⟩)
        rw [this] at hov; cases hov
     unfold gr1
     rw [hf]
     simp only [Bool.false_eq_true,if_false,List.mem_append,List.mem_singleton,h x]
     constructor
     ·rintro ⟨q1,q2⟩; exact ⟨.inl q1,q2⟩
     ·rintro ⟨q1 | q1,q2⟩
      ·exact ⟨q1,q2⟩
      ·subst q1; exact absurd q2 hl
 have hm:=key O' [] rfl (fun x => by simp [gr])
 rw [List.perm_ext_iff_of_nodup (gr_nodup hn') (gr_nodup hn)]
 intro x
 rw [hm x]
 exact ⟨fun h => h.2,fun h => ⟨hp.subset (gr_mem h),h⟩⟩
end Go.Proofs.Ytnpaokckkbhdjaa
end
section
set_option linter.unusedVariables false
set_option linter.unusedSimpArgs false
namespace Go.Proofs.Ytnpaokckkbhdjaa
open Go Go.Vm Go.Proofs V
open Go.Sort (SWO)
def ord (b:List Int) (ls:List Lb):List Lb:=sortR pdqR dL (ltW (wtB b)) ls
def Pl (b:List Int) (ls:List Lb):List Int:=sortR pdqR (0:Int) ltI ((gr (ord b ls)).map (·.1))
theorem gr_ov {O:List Lb} {x y:Lb} (hx:x ∈ gr O) (hy:y ∈ gr O) (hxy:x≠y):ov x y=false:=by
 have hq:=List.pairwise_iff_getElem.1 (gr_pair O [] List.Pairwise.nil)
 obtain ⟨i,hi,rfl⟩:=List.getElem_of_mem hx
 obtain ⟨j,hj,rfl⟩:=List.getElem_of_mem hy
 rcases Nat.lt_trichotomy i j with hij | hij | hij
 ·exact hq i j hi hj hij
 ·subst hij; exact absurd rfl hxy
 ·rw [ov_comm]; exact hq j i hj hi hij
theorem ord_perm (b:List Int) (ls:List Lb):(ord b ls).Perm ls:=(sortR_ok (d:=dL) (swoW (wtB b)) ls).1
theorem ord_pw (b:List Int) (ls:List Lb):(ord b ls).Pairwise (fun x y => ltW (wtB b) y x=false):=(sortR_ok (d:=dL) (swoW (wtB b)) ls).2
theorem Pl_len (b:List Int) (ls:List Lb):(Pl b ls).length≤ls.length:=by
 have a:=sortR_len (d:=(0:Int)) swoI ((gr (ord b ls)).map (·.1))
 have b':=grs_len (ord b ls) []
 have c:=sortR_len (d:=dL) (swoW (wtB b)) ls
 unfold Pl
 unfold gr at a ⊢
 unfold ord at a b' ⊢
 simp only [List.length_map,List.length_nil] at a b'
 omega
theorem Pl_has {ls:List Lb} (hok:labelsOk ls=true) (b:List Int) {l:Lb} (hl:l ∈ ls):hasI (Pl b ls) l.1=true↔l ∈ gr (ord b ls):=by
 have hinj:∀ x y:Lb,x ∈ ls→y ∈ ls→x.1=y.1→x=y:=fun x y hx hy e => by
  obtain ⟨i,hi,rfl⟩:=List.getElem_of_mem hx
  obtain ⟨j,hj,rfl⟩:=List.getElem_of_mem hy
  by_cases hij:i=j
  ·subst hij; rfl
  ·have:=ids_of hok i j hi hj hij
   rw [List.getD_eq_getElem?_getD,List.getElem?_eq_getElem hi,List.getD_eq_getElem?_getD,List.getElem?_eq_getElem hj] at this
   exact absurd e this
 unfold hasI Pl
 rw [List.any_eq_true]
 have hm:∀ x:Int,x ∈ sortR pdqR (0:Int) ltI ((gr (ord b ls)).map (·.1))↔x ∈ (gr (ord b ls)).map (·.1):=fun x => (sortR_ok (d:=(0:Int)) swoI _).1.mem_iff
 constructor
 ·rintro ⟨x,hx,e⟩
  rw [hm,List.mem_map] at hx
  obtain ⟨t,ht,rfl⟩:=hx
  have:t.1=l.1:=by simpa using e
  rw [← hinj t l ((ord_perm b ls).subset (gr_mem ht)) hl this]
  exact ht
 ·intro h
  exact ⟨l.1,(hm _).2 (List.mem_map.2 ⟨l,h,rfl⟩),by simp⟩
theorem ls_nodup {ls:List Lb} (hok:labelsOk ls=true):ls.Nodup:=by
 have:=nodup_ids hok
 rw [List.Nodup,List.pairwise_map] at this
 exact this.imp fun h e => h (by rw [e])
theorem lOk_of {x:List Lb} (h:labelsOk x=true):∀ l ∈ x,lOk l=true:=by
 unfold labelsOk at h
 simp only [Bool.and_eq_true,decide_eq_true_eq] at h
 intro l hl
 obtain ⟨i,hi,rfl⟩:=List.getElem_of_mem hl
 have:=(allTo_iff.1 h.2) i hi
 unfold okL at this
 simp only [Bool.and_eq_true] at this
 have h1:=this.1
 rw [List.getD_eq_getElem?_getD,List.getElem?_eq_getElem hi] at h1
 exact h1
theorem e37 (k:Nat) (x y:Lb) (hx:lOk x=true) (hy:lOk y=true):f37 k x y=some (ov x y):=by
 unfold f37
 rw [e81,Option.bind_some,hx,if_t rfl,e81,Option.bind_some,hy]
 have:(bif true then true else false)=true:=rfl
 rw [if_t this,eo75,Option.bind_some]
 rfl
theorem e38 (k:Nat) (hk:1048576 < k) (l:Lb) (b:List Int) (hb:b.length≤1048576):f38 k l b=some (wtB b l):=by
 unfold f38 wtB
 rw [e34 k hk b l.1 hb,Option.bind_some]
 cases hasI b l.1 <;> simp
theorem same39 (k:Nat) (x:List Int) (hx:x.length≤1048576):∀ (m i:Nat),i≤x.length→x.length - i < m→f39.l18 k x x m (i:Int)=some true
 | 0,i,_,h => by omega
 | m+1,i,hi,h => by
   rw [f39.l18]
   by_cases hlt:i < x.length
   ·have hb:(0:Int) ≤ (i:Int) ∧ (i:Int) < (x.length:Int):=⟨by omega,by omega⟩
    rw [if_t (by simpa using hlt),if_t hb,if_t hb,if_f (by simp),wrap_s (by omega)]
    exact same39 k x hx m (i+1) (by omega) (by omega)
   ·rw [if_f (by simpa using hlt)]
theorem e39 (k:Nat) (hk:1048576 < k) (x:List Int) (hx:x.length≤1048576):f39 k x x=some true:=by
 unfold f39
 rw [if_f (by simp)]
 exact same39 k x hx k 0 (by omega) (by omega)
theorem sp332 (k:Nat) (c:List Lb) (hl:c.length≤1048576) (i:Nat) (hi:i < c.length) (hc:∀ j,j < i→ov (c.getD i dL) (c.getD j dL)=false) (q:Int→Option Bool):∀ (m j:Nat),j≤i→i - j < m→f36.l332 k (i:Int) c q m (j:Int)=q ((i+1:Nat):Int)
 | 0,j,_,h => by omega
 | m+1,j,hj,h => by
   rw [f36.l332]
   by_cases hlt:j < i
   ·rw [if_t (by simpa using hlt),if_t ⟨by omega,by omega⟩,if_t ⟨by omega,by omega⟩,Int.toNat_natCast,Int.toNat_natCast,eo75,Option.bind_some,if_f (by rw [hc j hlt]; simp),wrap_s (by omega)]
    exact sp332 k c hl i hi hc q m (j+1) (by omega) (by omega)
   ·have:j=i:=by omega
    subst this
    rw [if_f (by simp),wrap_s (by omega)]
theorem sp182 (k:Nat) (hk:1048576 < k) (c:List Lb) (hl:c.length≤1048576) (hc:∀ i j,i < c.length→j < i→ov (c.getD i dL) (c.getD j dL)=false):∀ (m i:Nat),i≤c.length→c.length - i < m→f36.l182 k c m (i:Int)=some true
 | 0,i,_,h => by omega
 | m+1,i,hi,h => by
   rw [f36.l182]
   by_cases hlt:i < c.length
   ·have a:=sp332 k c hl i hlt (fun j hj => hc i j hlt hj) (f36.l182 k c m) k 0 (by omega) (by omega)
    rw [if_t (by simpa using hlt)]
    refine Eq.trans a ?_
    exact sp182 k hk c hl hc m (i+1) (by omega) (by omega)
   ·rw [if_f (by simpa using hlt)]
theorem e36 (k:Nat) (hk:1048576 < k) (ls:List Lb) (hok:labelsOk ls=true) (b:List Int):f36 k ls (Pl b ls)=some true:=by
 obtain ⟨h1,h2⟩:=ranks hok
 have hPl:=Pl_len b ls
 unfold f36
 rw [impl32 k hk ls (by omega),Option.bind_some,hok,if_f (by simp),e82 k hk ls (by omega) _ (by omega),Option.bind_some]
 have hfl:=List.length_filter_le (fun l:Lb => hasI (Pl b ls) l.1) ls
 have hn:(ls.filter fun l => hasI (Pl b ls) l.1).Nodup:=(ls_nodup hok).sublist List.filter_sublist
 refine sp182 k hk _ (by omega) (fun i j hi hj => ?_) k 0 (by omega) (by omega)
 generalize hC:(ls.filter fun l => hasI (Pl b ls) l.1)=c at hi hn
 have hmem:∀ q,q < c.length→c.getD q dL ∈ gr (ord b ls):=fun q hq => by
  have h3:c.getD q dL ∈ c:=getD_mem' hq
  rw [← hC] at h3
  obtain ⟨h4,h5⟩:=List.mem_filter.1 h3
  rw [hC] at h4 h5
  exact (Pl_has hok b h4).1 (by simpa using h5)
 refine gr_ov (hmem i hi) (hmem j (by omega)) fun e => ?_
 rw [List.getD_eq_getElem?_getD,List.getElem?_eq_getElem hi,List.getD_eq_getElem?_getD,List.getElem?_eq_getElem (by omega)] at e
 have:=List.pairwise_iff_getElem.1 hn j i (by omega) hi hj
 exact this e.symm
def why (ls:List Lb) (b P:List Int) (i q:Nat):Bool:=(hasI P (ls.getD q dL).1 && ov (ls.getD i dL) (ls.getD q dL)) && decide (wtB b (ls.getD q dL) ≥ wtB b (ls.getD i dL))
theorem l2058 (k:Nat) (hk:1048576 < k) (ls:List Lb) (b P:List Int) (hok:labelsOk ls=true) (hb:b.length≤1048576) (hP:P.length≤1048576) (i:Nat) (hi:i < ls.length) (q:Unit→Option Bool):∀ (m j:Nat) (acc:Bool),j≤ls.length→ls.length - j < m → (acc=true∨∃ p,j≤p∧p < ls.length∧why ls b P i p=true) →
 f6.l2058 k (ls,b) P (i:Int) q m (acc,(j:Int))=q ()
 | 0,j,acc,_,h,_ => by omega
 | m+1,j,acc,hj,h,hw => by
   obtain ⟨h1,h2⟩:=ranks hok
   have hbi:(0:Int) ≤ (i:Int) ∧ (i:Int) < (ls.length:Int):=⟨by omega,by omega⟩
   rw [f6.l2058]
   by_cases hlt:j < ls.length
   ·have hbj:(0:Int) ≤ (j:Int) ∧ (j:Int) < (ls.length:Int):=⟨by omega,by omega⟩
    rw [if_t (by simpa using hlt)]
    cases acc with
    | true =>
      have ih:=l2058 k hk ls b P hok hb hP i hi q m (j+1) true (by omega) (by omega) (.inl rfl)
      simp only [Bool.true_eq_false,false_and,false_implies,if_true,if_false,Option.bind_some,cond_true]
      rw [wrap_s (by omega)]
      exact ih
    | false =>
      have ok1:lOk (ls.getD i dL)=true:=lOk_of hok _ (getD_mem' hi)
      have ok2:lOk (ls.getD j dL)=true:=lOk_of hok _ (getD_mem' hlt)
      have ih:=fun acc' h' => l2058 k hk ls b P hok hb hP i hi q m (j+1) acc' (by omega) (by omega) h'
      have hrest:why ls b P i j=false→∃ p,j+1≤p∧p < ls.length∧why ls b P i p=true:=fun hf => by
       rcases hw with hw | ⟨p,p1,p2,p3⟩
       ·cases hw
       ·have:p≠j:=fun e => by rw [e,hf] at p3; cases p3
        exact ⟨p,by omega,p2,p3⟩
      simp only [true_implies,if_t hbj,if_true,true_and,Int.toNat_natCast,e34 k hk P _ hP,Option.bind_some]
      cases hh:hasI P (ls.getD j dL).1 with
      | false =>
        have hwf:why ls b P i j=false:=by unfold why; rw [hh]; rfl
        simp only [Bool.false_eq_true,and_false,false_implies,if_true,if_false,Option.bind_some,cond_false]
        rw [wrap_s (by omega)]
        exact ih false (.inr (hrest hwf))
      | true =>
        simp only [and_self,true_implies,if_t hbi,if_t hbj,if_true,cond_true,e37 k _ _ ok1 ok2,Option.bind_some]
        cases ho:ov (ls.getD i dL) (ls.getD j dL) with
        | false =>
          have hwf:why ls b P i j=false:=by unfold why; rw [hh,ho]; rfl
          simp only [Bool.false_eq_true,and_false,false_implies,if_true,if_false,Option.bind_some,cond_false]
          rw [wrap_s (by omega)]
          exact ih false (.inr (hrest hwf))
        | true =>
          simp only [and_self,true_implies,if_t hbi,if_t hbj,if_true,cond_true,e38 k hk _ b hb,Option.bind_some]
          rw [wrap_s (by omega)]
          cases hd:decide (wtB b (ls.getD j dL) ≥ wtB b (ls.getD i dL)) with
          | true => exact ih true (.inl rfl)
          | false =>
            have hwf:why ls b P i j=false:=by unfold why; rw [hd]; simp
            exact ih false (.inr (hrest hwf))
   ·have:acc=true:=by
     rcases hw with hw | ⟨p,p1,p2,p3⟩
     ·exact hw
     ·omega
    subst this
    rw [if_f (by simpa using hlt),if_f (by simp)]
theorem why_not {ls:List Lb} (hok:labelsOk ls=true) (b:List Int) {i:Nat} (hi:i < ls.length) (h:hasI (Pl b ls) (ls.getD i dL).1=false):∃ p,0≤p∧p < ls.length∧why ls b (Pl b ls) i p=true:=by
 have hl:ls.getD i dL ∈ ls:=getD_mem' hi
 have hn:ls.getD i dL ∉ gr (ord b ls):=fun hm => by rw [(Pl_has hok b hl).2 hm] at h; cases h
 have hlO:ls.getD i dL ∈ ord b ls:=(ord_perm b ls).symm.subset hl
 obtain ⟨a0,b0,hO⟩:=List.append_of_mem hlO
 rw [hO] at hn
 obtain ⟨t,ht,hov⟩:=gr_why hn
 have htO:t ∈ gr (ord b ls):=by rw [hO]; exact gr_mono _ _ ht
 have hbef:ltW (wtB b) (ls.getD i dL) t=false:=by
  have h1:=ord_pw b ls
  rw [hO,List.pairwise_append] at h1
  exact h1.2.2 t (gr_mem ht) _ List.mem_cons_self
 have htl:t ∈ ls:=(ord_perm b ls).subset (gr_mem htO)
 obtain ⟨p,hp,rfl⟩:=List.getElem_of_mem htl
 have hg:ls.getD p dL=ls[p]:=by rw [List.getD_eq_getElem?_getD,List.getElem?_eq_getElem hp]; rfl
 refine ⟨p,Nat.zero_le _,hp,?_⟩
 unfold why
 rw [hg,(Pl_has hok b htl).2 htO,hov]
 simp only [Bool.and_self,Bool.true_and,decide_eq_true_eq]
 unfold ltW at hbef
 split at hbef
 ·rw [decide_eq_false_iff_not] at hbef; omega
 ·omega
theorem sort_uniq {a b:List Int} (h:a.Perm b):sortR pdqR (0:Int) ltI a=sortR pdqR (0:Int) ltI b:=by
 obtain ⟨p1,p2⟩:=sortR_ok (d:=(0:Int)) swoI a
 obtain ⟨q1,q2⟩:=sortR_ok (d:=(0:Int)) swoI b
 refine List.Perm.eq_of_pairwise (le:=fun x y => ltI y x=false) (fun x y _ _ h1 h2 => ?_) p2 q2 (p1.trans (h.trans q1.symm))
 simp [ltI] at h1 h2
 omega
theorem Pl_again {ls:List Lb} (hok:labelsOk ls=true):Pl (Pl [] ls) ls=Pl [] ls:=by
 obtain ⟨h1,h2⟩:=ranks hok
 have hp:(ord [] ls).Perm (ord (Pl [] ls) ls):=(ord_perm _ _).trans (ord_perm _ _).symm
 have hn:(ord [] ls).Nodup:=(ord_perm _ _).nodup_iff.2 (ls_nodup hok)
 have:=gr_again hp hn (ord_pw _ _) (ord_pw _ _) (fun t l ht hl hnl hb => by
  have htl:t ∈ ls:=(ord_perm _ _).subset (gr_mem ht)
  have hll:l ∈ ls:=(ord_perm _ _).subset hl
  have w0:∀ y:Lb,wtB [] y=y.2.2.2.2:=fun y => by unfold wtB hasI; simp
  have rt:=h2 t htl
  have rl:=h2 l hll
  unfold Rk at rt rl
  have wt:wtB (Pl [] ls) t=t.2.2.2.2+50:=by
   unfold wtB
   rw [(Pl_has hok [] htl).2 ht,if_pos rfl,wrap_in (by omega) (by omega)]
  have wl:wtB (Pl [] ls) l=l.2.2.2.2:=by
   unfold wtB
   have:¬ hasI (Pl [] ls) l.1=true:=fun h => hnl ((Pl_has hok [] hll).1 h)
   rw [if_neg this]
  have hge:t.2.2.2.2 ≥ l.2.2.2.2:=by
   unfold ltW at hb
   rw [w0,w0] at hb
   split at hb
   ·simp at hb; omega
   ·omega
  unfold ltW
  rw [wt,wl,if_pos (by omega)]
  simp
  omega)
 exact sort_uniq (this.map _)
def plc (k:Nat) (d:List Lb) (b:List Int):List Int:=(f15 k d b).getD []
def stR (k:Nat):List (List Lb)→List Int→List (List Int)
 | [],_ => []
 | d :: ds,b => plc k d b :: stR k ds (plc k d b)
theorem plc_ok (k:Nat) (hk:1048576 < k) (d:List Lb) (hd:d.length≤1048576) (b:List Int):f15 k d b=some (plc k d b) ∧ (plc k d b).length≤1048576:=by
 have h:=f15_eq k hk d hd b
 obtain ⟨v,hv,hl⟩:∃ v,f15 k d b=some v∧v.length≤1048576:=by
  rw [h]
  split
  ·exact ⟨[],rfl,by simp⟩
  ·have:=Pl_len b d
   exact ⟨Pl b d,rfl,by omega⟩
 have:plc k d b=v:=by unfold plc; rw [hv]; rfl
 rw [this]
 exact ⟨hv,hl⟩
theorem drop_day {x:List (List Lb)} {i:Nat} (h:i < x.length):x.drop i=x.getD i [] :: x.drop (i+1):=by
 rw [List.drop_eq_getElem_cons h,List.getD_eq_getElem?_getD,List.getElem?_eq_getElem h]; rfl
theorem i53 (k:Nat) (hk:1048576 < k) (x0:List (List Lb)) (hx:x0.length≤30) (hd:∀ d ∈ x0,d.length≤1048576):∀ (m i:Nat) (acc:List (List Int)) (n:Nat),i≤x0.length→x0.length - i < m→acc.length=i → (List.getD acc n []).length≤1048576 →
 f24.l53 k x0 (f24.j47 k) m (acc,n,(i:Int))=some (acc ++ stR k (x0.drop i) (List.getD acc n []))
 | 0,i,acc,n,_,h,_,_ => by omega
 | m+1,i,acc,n,hi,h,ha,hb => by
   rw [f24.l53]
   by_cases hlt:i < x0.length
   ·have hbd:(0:Int) ≤ (i:Int) ∧ (i:Int) < (x0.length:Int):=⟨by omega,by omega⟩
    have hm:x0.getD i [] ∈ x0:=getD_mem' hlt
    obtain ⟨p2,p3⟩:=plc_ok k hk _ (hd _ hm) (List.getD acc n [])
    rw [if_t (by simpa using hlt),if_t hbd,Int.toNat_natCast,p2,Option.bind_some,if_t (by omega),wrap_s (by omega)]
    have e:List.getD (acc ++ [plc k (x0.getD i []) (List.getD acc n [])]) acc.length []=plc k (x0.getD i []) (List.getD acc n []):=by
     rw [List.getD_eq_getElem?_getD,List.getElem?_append_right (Nat.le_refl _)]; simp
    have ih:=i53 k hk x0 hx hd m (i+1) (acc ++ [plc k (x0.getD i []) (List.getD acc n [])]) acc.length (by omega) (by omega) (by simp; omega) (by rw [e]; exact p3)
    rw [e] at ih
    refine Eq.trans ih ?_
    rw [drop_day hlt]
    simp [stR]
   ·rw [if_f (by simpa using hlt),List.drop_eq_nil_of_le (by omega)]
    simp [stR,f24.j47]
theorem plc_Pl (k:Nat) (hk:1048576 < k) {ls:List Lb} (hok:labelsOk ls=true) (b:List Int) (hb:b.length≤500):plc k ls b=Pl b ls:=by
 have h:=f15_eq k hk ls (by have:=(ranks hok).1; omega) b
 rw [if_f (by rw [hok]; simp; omega)] at h
 unfold plc
 rw [h]
 rfl
theorem days (k:Nat) (hk:1048576 < k) {ls:List Lb} (hok:labelsOk ls=true):f24 k [ls,ls,ls]=some [Pl [] ls,Pl [] ls,Pl [] ls]:=by
 obtain ⟨h1,_⟩:=ranks hok
 have hd:∀ d ∈ [ls,ls,ls],d.length≤1048576:=fun d h => by
  have:d=ls:=by simpa using h
  rw [this]; omega
 have hPl:=Pl_len [] ls
 have e1:plc k ls []=Pl [] ls:=plc_Pl k hk hok [] (by simp)
 have e2:plc k ls (Pl [] ls)=Pl [] ls:=by rw [plc_Pl k hk hok _ (by omega)]; exact Pl_again hok
 obtain ⟨p2,p3⟩:=plc_ok k hk ls (by omega) []
 unfold f24
 have h0:(0:Int)≤0 ∧ (0:Int) < (([ls,ls,ls]:List (List Lb)).length:Int):=⟨by omega,by simp⟩
 have hg:List.getD [ls,ls,ls] (Int.toNat 0) []=ls:=rfl
 rw [if_f (by simp),if_t (decide_eq_true h0.2),if_t h0,hg,p2,Option.bind_some,if_t (by simp)]
 have ih:=i53 k hk [ls,ls,ls] (by simp) hd k 1 [plc k ls []] 0 (by simp) (by simp; omega) rfl p3
 have w:IntKind.i64.wrap (0+1) = ((1:Nat):Int):=rfl
 rw [w]
 refine Eq.trans ih ?_
 have hd1:List.getD [plc k ls []] 0 []=plc k ls []:=rfl
 rw [hd1]
 simp [stR,e1,e2]
theorem l1077 (k:Nat) (hk:1048576 < k) (ls:List Lb) (b:List Int) (hok:labelsOk ls=true) (hb:b.length≤500):∀ (m i:Nat),i≤ls.length→ls.length - i < m →
 f6.l1077 k (ls,b) (Pl b ls) m (i:Int)=some true
 | 0,i,_,h => by omega
 | m+1,i,hi,h => by
   obtain ⟨h1,h2⟩:=ranks hok
   have hPl:=Pl_len b ls
   have hP0:=Pl_len [] ls
   rw [f6.l1077]
   by_cases hlt:i < ls.length
   ·have ih:=l1077 k hk ls b hok hb m (i+1) (by omega) (by omega)
    have nxt:f6.j1969 k (i:Int) (f6.l1077 k (ls,b) (Pl b ls) m) ()=some true:=by
     rw [f6.j1969,wrap_s (by omega)]; exact ih
    rw [if_t (by simpa using hlt),if_t ⟨by omega,by simp only; omega⟩,Int.toNat_natCast,e34 k hk _ _ (by omega),Option.bind_some]
    cases hh:hasI (Pl b ls) (ls.getD i dL).1 with
    | true => rw [if_t rfl]; exact nxt
    | false =>
      rw [if_f (by simp)]
      have:=l2058 k hk ls b (Pl b ls) hok (by omega) (by omega) i hlt (f6.j1969 k (i:Int) (f6.l1077 k (ls,b) (Pl b ls) m)) k 0 false (by omega) (by omega) (.inr (why_not hok b hlt hh))
      exact Eq.trans this nxt
   ·rw [if_f (by simpa using hlt)]
    have hdays:f24 k [(ls,b).1,(ls,b).1,(ls,b).1]=some [Pl [] ls,Pl [] ls,Pl [] ls]:=days k hk hok
    rw [hdays,Option.bind_some]
    have hp1:f15 k (ls,b).1 ([]:List Int)=some (Pl [] ls):=by
     have:=(plc_ok k hk ls (by omega) []).1
     rw [plc_Pl k hk hok [] (by simp)] at this
     exact this
    have hs:f39 k (Pl [] ls) (Pl [] ls)=some true:=e39 k hk _ (by omega)
    have g0:List.getD [Pl [] ls,Pl [] ls,Pl [] ls] (Int.toNat 0) ([]:List Int)=Pl [] ls:=rfl
    have g1:List.getD [Pl [] ls,Pl [] ls,Pl [] ls] (Int.toNat 1) ([]:List Int)=Pl [] ls:=rfl
    have g2:List.getD [Pl [] ls,Pl [] ls,Pl [] ls] (Int.toNat 2) ([]:List Int)=Pl [] ls:=rfl
    have hl:((List.length [Pl [] ls,Pl [] ls,Pl [] ls]:Int) == 3)=true:=rfl
    have c1:(0:Int)≤1 ∧ (1:Int) < (List.length [Pl [] ls,Pl [] ls,Pl [] ls]:Int):=⟨by omega,by simp⟩
    have c2:(0:Int)≤2 ∧ (2:Int) < (List.length [Pl [] ls,Pl [] ls,Pl [] ls]:Int):=⟨by omega,by simp⟩
    have c0:(0:Int)≤0 ∧ (0:Int) < (List.length [Pl [] ls,Pl [] ls,Pl [] ls]:Int):=⟨by omega,by simp⟩
    simp only [hl,g0,g1,g2,hs,hp1,if_t c0,if_t c1,if_t c2,true_implies,if_true,cond_true,Option.bind_some]
theorem law6 (x0:List Int) (w0:Sh.wf (.sl false 5 (.int .u8)) x0):∃ k,f6 k x0=some true:=by
 refine ⟨1048577,?_⟩
 have hk:1048576 < 1048577:=by decide
 unfold f6 f30
 rw [Option.bind_some]
 by_cases hbig:(x0.length:Int) > 1048576
 ·rw [if_t (by simpa using hbig)]
 rw [if_f (by simpa using hbig)]
 obtain ⟨ls,ids,d1,d2,d3⟩:=t35 1048577 hk x0 (by omega)
 rw [d1,Option.bind_some,impl32 1048577 hk [] (by simp),Option.bind_some]
 have ok0:labelsOk []=true:=rfl
 rw [ok0,if_f (by simp)]
 have hp:=f15_eq 1048577 hk ls (by omega) ids
 have hp':f15 1048577 (ls,ids).1 (ls,ids).2=_:=hp
 rw [hp']
 have hi:=impl32 1048577 hk ls (by omega)
 have hi':f32 1048577 (ls,ids).1=_:=hi
 cases hok:labelsOk ls with
 | false =>
   rw [if_t (by rfl),Option.bind_some,hi',hok,Option.bind_some]
   rfl
 | true =>
   have hc:¬ ((!true || decide (ids.length > 500))=true):=by simp; omega
   rw [if_f hc,Option.bind_some,hi',hok,Option.bind_some,if_f (by simp)]
   have h36:f36 1048577 (ls,ids).1 (Pl ids ls)=some true:=e36 1048577 hk ls hok ids
   have h36':f36 1048577 (ls,ids).1 (sortR pdqR (0:Int) ltI (((sortR pdqR dL (ltW (wtB ids)) ls).foldl gr1 []).map (·.1)))=some true:=h36
   rw [h36',Option.bind_some,if_f (by simp)]
   exact l1077 1048577 hk ls ids hok (by omega) 1048577 0 (by omega) (by have:=(ranks hok).1; omega)
end Go.Proofs.Ytnpaokckkbhdjaa
end
