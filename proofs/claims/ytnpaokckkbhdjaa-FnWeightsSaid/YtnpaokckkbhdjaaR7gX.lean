/-
  Own texts of this project, joined. No condition.
-/
import Derived.Test.YtnpaokckkbhdjaaR7gp
import Derived.Test.YtnpaokckkbhdjaaLawA
import Derived.Test.YtnpaokckkbhdjaaLawB
import Derived.Test.YtnpaokckkbhdjaaLawC
section
set_option linter.unusedVariables false
set_option linter.unusedSimpArgs false
namespace Go.Proofs.Ytnpaokckkbhdjaa
open Go Go.Vm Go.Proofs V
abbrev Cu:=List Int × (Int × Int)
def CuOk (c:Cu):Prop:=0≤c.2.1∧c.2.1 ≤ (c.1.length:Int)∧c.1.length≤1048576
theorem bits255 (y:Int):0≤Go.bits .and .i64 y 255∧Go.bits .and .i64 y 255≤255:=by
 unfold Go.bits
 have h:(BitVec.ofInt IntKind.i64.bits y &&& BitVec.ofInt IntKind.i64.bits 255).toNat≤255:=by
  rw [BitVec.toNat_and]
  exact Nat.le_trans Nat.and_le_right (by decide)
 simp only
 rw [wrap_in (by omega) (by omega)]
 omega
theorem t62 (k:Nat) (c:Cu) (h:CuOk c):∃ r,f194 k c=some r∧CuOk r.2∧0≤r.1∧r.1≤255:=by
 obtain ⟨b,i,z⟩:=c
 obtain ⟨h1,h2,h3⟩:=h
 simp only at h1 h2 h3
 unfold f194
 rw [if_t (by decide),if_t (by decide)]
 by_cases hi:i < (b.length:Int)
 ·simp only [hi,decide_true,if_true,h1,and_self,Option.bind_some,f194.j6]
  refine ⟨_,rfl,⟨?_,?_,h3⟩,(bits255 _).1,(bits255 _).2⟩
  ·simp only; rw [wrap_in (by omega) (by omega)]; omega
  ·simp only; rw [wrap_in (by omega) (by omega)]; omega
 ·simp only [hi,decide_false,Bool.false_eq_true,if_false,f194.j6]
  exact ⟨_,rfl,⟨h1,h2,h3⟩,(bits255 _).1,(bits255 _).2⟩
theorem t28 (k:Nat) (c:Cu) (n:Int) (h:CuOk c):∃ r,f144 k c n=some r∧CuOk r.2 ∧ (0 < n→n≤256→0≤r.1∧r.1 < n):=by
 unfold f144
 by_cases h0:n≤0
 ·simp only [h0,decide_true,if_true]
  exact ⟨_,rfl,h,fun h' => by omega⟩
 ·simp only [h0,decide_false,Bool.false_eq_true,if_false]
  by_cases h1:n≤256
  ·obtain ⟨r,q1,q2,q3,q4⟩:=t62 k c h
   simp only [h1,decide_true,if_true,q1,Option.bind_some]
   rw [if_t (by omega)]
   exact ⟨_,rfl,q2,fun _ _ => ⟨Int.tmod_nonneg _ q3,Int.tmod_lt_of_pos _ (by omega)⟩⟩
  ·obtain ⟨r,q1,q2,q3,q4⟩:=t62 k c h
   obtain ⟨r2,p1,p2,p3,p4⟩:=t62 k r.2 q2
   obtain ⟨r3,m1,m2,m3,m4⟩:=t62 k r2.2 p2
   obtain ⟨r4,n1,n2,n3,n4⟩:=t62 k r3.2 m2
   simp only [h1,decide_false,Bool.false_eq_true,if_false,q1,p1,m1,n1,Option.bind_some]
   rw [if_t (by omega)]
   exact ⟨_,rfl,n2,fun _ h' => by first | exact absurd h' h1 | exact h'.elim⟩
theorem t29 (k:Nat) (c:Cu) (n:Int) (h:CuOk c):∃ r,f145 k c n=some r∧CuOk r.2:=by
 obtain ⟨r,q1,q2,_⟩:=t28 k c n h
 unfold f145
 rw [q1]
 exact ⟨_,rfl,q2⟩
theorem t26 (k:Nat) (x:List Int) (hx:x.length≤1048576) (hk:1048576 < k):∃ r,f78 k x=some r∧CuOk r:=by
 have lp:∀ (m:Nat) (i:Nat) (h:Int),i≤x.length→x.length < m+i→∃ r,f78.l16 k x m (h,(i:Int))=some r∧CuOk r:=by
  intro m
  induction m with
  | zero => intro i h h1 h2; omega
  | succ m ih =>
    intro i h h1 h2
    unfold f78.l16
    by_cases hi:i < x.length
    ·rw [if_t (by simpa using hi),if_t ⟨by omega,by exact_mod_cast hi⟩,wrap_s (by omega)]
     exact ih (i+1) _ (by omega) (by omega)
    ·rw [if_f (by simpa using hi)]
     exact ⟨_,rfl,by simp,by simp,hx⟩
 unfold f78
 exact lp k 0 _ (by omega) (by omega)
end Go.Proofs.Ytnpaokckkbhdjaa
end
section
set_option linter.unusedVariables false
set_option linter.unusedSimpArgs false
namespace Go.Proofs.Ytnpaokckkbhdjaa
open Go Go.Vm Go.Proofs V
open Go.Sort (SWO)
abbrev Lb:=Int × ((Int × Int) × (Int × (Int × Int)))
abbrev dL:Lb:=((0:Int),(((0:Int),(0:Int)),((0:Int),((0:Int),(0:Int)))))
def idB (a:Int):Bool:=bif (decide ((a:Int) ≥ (1:Int))) then (decide ((a:Int) ≤ (1000000000:Int))) else false
def ptB (a:Int × Int):Bool:=bif (bif (bif (decide ((a.1:Int) ≥ (-10000000:Int))) then (decide ((a.1:Int) ≤ (10000000:Int))) else false) then (decide ((a.2:Int) ≥ (-10000000:Int))) else false) then (decide ((a.2:Int) ≤ (10000000:Int))) else false
theorem e146 (k:Nat) (a:Int):f146 k a=some (idB a):=rfl
theorem e147 (k:Nat) (a:Int × Int):f147 k a=some (ptB a):=rfl
def lOk (x:Lb):Bool:=(bif (bif (bif (bif (bif (bif (bif idB x.1 then ptB x.2.1 else false) then (decide ((x.2.2.1:Int) ≥ (1:Int))) else false) then (decide ((x.2.2.1:Int) ≤ (100000:Int))) else false) then (decide ((x.2.2.2.1:Int) ≥ (1:Int))) else false) then (decide ((x.2.2.2.1:Int) ≤ (100000:Int))) else false) then (decide ((x.2.2.2.2:Int) ≥ (0:Int))) else false) then (decide ((x.2.2.2.2:Int) ≤ (1000:Int))) else false)
theorem e81 (k:Nat) (x:Lb):f81 k x=some (lOk x):=by
 unfold f81 lOk
 rw [e146,Option.bind_some]
 cases idB x.1 <;> simp [e147]
def hasL (x:List Lb) (id:Int):Bool:=x.any fun l => l.1 == id
theorem hasL_take {x:List Lb} {id:Int} {i:Nat} (h:i < x.length):hasL (x.take (i+1)) id = (hasL (x.take i) id || (x.getD i dL).1 == id):=by
 unfold hasL
 rw [List.take_add_one,List.any_append,List.getD_eq_getElem?_getD,List.getElem?_eq_getElem h]
 simp
def okL (x:List Lb) (i:Nat):Bool:=lOk (x.getD i dL) && !hasL (x.take i) (x.getD i dL).1
def labelsOk (x:List Lb):Bool:=decide (x.length≤500) && allTo (okL x) x.length
theorem gt_lit (a c:Nat) (C:Int) (h:C = (c:Int)):decide ((a:Int) > C)=!decide (a≤c):=by
 subst h; rw [← decide_not]; congr 1; apply propext; omega
theorem impl32 (k:Nat) (hk:1048576 < k) (x:List Lb) (hx:x.length≤1048576):f32 k x=some (labelsOk x):=by
 have q:=allLoopS (L:=f32.l28 k x) (n:=x.length) (p:=okL x) (fin:=some true) (Inv:=fun i m => ∀ id,mget (Sh.beq (.int .i64)) (some m) id false=hasL (x.take i) id) (fun m i s hi hs => by
  refine ⟨mput (Sh.beq (.int .i64)) (x.getD i dL).1 true s,fun _ id => ?_,?_⟩
  ·rw [mget_put (beq_int _),hs id,hasL_take hi]
   have:Sh.beq (.int .i64) id (x.getD i dL).1 = ((x.getD i dL).1 == id):=by
    simp only [Sh.beq]
    by_cases e:id = (x.getD i dL).1
    ·simp [e]
    ·have e':¬ (x.getD i dL).1=id:=fun h => e h.symm
     rw [beq_eq_false_iff_ne.2 e,beq_eq_false_iff_ne.2 e']
   rw [this]
   cases ((x.getD i dL).1 == id) <;> simp
  ·rw [f32.l28,if_t (by simpa using hi),if_t ⟨by omega,by omega⟩,wrap_s (by omega),e81,Option.bind_some]
   rw [hs]
   unfold okL
   simp only [Int.toNat_natCast]
   generalize lOk (x.getD i dL)=A
   generalize hasL (x.take i) (x.getD i dL).1=B
   cases A <;> cases B <;> simp) (fun m s _ => by rw [f32.l28,if_f (by simp)]) k 0 ([]:List (Int × Bool)) (fun id => by simp [mget_nil,hasL]) (by omega) (by omega)
 unfold f32 labelsOk
 have b1:=gt_lit x.length 500 500 rfl
 have q':f32.l28 k x k (([]:(List (Int × Bool))),(0:Int))=_:=q
 simp only [q',b1,Nat.sub_zero]
 change _=some (decide (x.length≤500) && allFrom (okL x) 0 x.length)
 cases decide (x.length≤500) <;> cases allFrom (okL x) 0 x.length <;> rfl
def hasI (ids:List Int) (id:Int):Bool:=ids.any fun x => x == id
theorem hasI_drop {ids:List Int} {id:Int} {i:Nat} (h:i < ids.length):hasI (ids.drop i) id = (ids.getD i 0 == id || hasI (ids.drop (i+1)) id):=by
 unfold hasI
 rw [List.drop_eq_getElem_cons h,List.any_cons,List.getD_eq_getElem?_getD,List.getElem?_eq_getElem h]
 rfl
theorem hasI_take {ids:List Int} {id:Int} {i:Nat} (h:i < ids.length):hasI (ids.take (i+1)) id = (hasI (ids.take i) id || ids.getD i 0 == id):=by
 unfold hasI
 rw [List.take_add_one,List.any_append,List.getD_eq_getElem?_getD,List.getElem?_eq_getElem h]
 simp
open Go.Sort (SWO)
def ltW (w:Lb→Int) (x y:Lb):Bool:=if w x≠w y then decide (w x > w y) else decide (x.1 < y.1)
theorem swoW (w:Lb→Int):SWO (ltW w) where
 irrefl x:=by simp [ltW]
 trans x y z h1 h2:=by
  unfold ltW at *
  split at h1 <;> split at h2 <;> split <;> simp_all <;> omega
 ntrans x y z h1 h2:=by
  unfold ltW at *
  split at h1 <;> split at h2 <;> split <;> simp_all <;> omega
def wtM (c0:Option (List (Int × Bool))) (l:Lb):Int:=if mget (Sh.beq (.int .i64)) c0 l.1 false=true then IntKind.i64.wrap (l.2.2.2.2+50) else l.2.2.2.2
theorem e72 (k:Nat) (l:Lb) (c0:Option (List (Int × Bool))):f72 k l c0=some (wtM c0 l):=by
 unfold f72 wtM
 split <;> rfl
theorem e74 (k:Nat) (c0:Option (List (Int × Bool))) (ys:List Lb) (i j:Nat) (hi:i < ys.length) (hj:j < ys.length):f74 k (i:Int) (j:Int) c0 ys=some (ltW (wtM c0) (ys.getD i dL) (ys.getD j dL)):=by
 unfold f74 ltW
 have key:∀ a b:Lb,(if (wtM c0 a != wtM c0 b)=true then some (decide (wtM c0 a > wtM c0 b)) else some (decide (a.1 < b.1)))=some (if wtM c0 a≠wtM c0 b then decide (wtM c0 a > wtM c0 b) else decide (a.1 < b.1)):=fun a b => by
  by_cases h:wtM c0 a=wtM c0 b
  ·rw [if_f (by simp [h]),if_f (by simp [h])]
  ·rw [if_t (by simp [h]),if_t h]
 have b1:(0:Int) ≤ (i:Int) ∧ (i:Int) < (ys.length:Int):=⟨by omega,by omega⟩
 have b2:(0:Int) ≤ (j:Int) ∧ (j:Int) < (ys.length:Int):=⟨by omega,by omega⟩
 simp only [if_t b1,if_t b2,e72,Option.bind_some,Int.toNat_natCast]
 exact key _ _
theorem less_mk {α:Type} {d:α} {f:List α→Int→Int→Option Bool} {L:α→α→Bool} (hL:SWO L) (hf:∀ (ys:List α) (i j:Nat),i < ys.length→j < ys.length→f ys (i:Int) (j:Int)=some (L (ys.getD i d) (ys.getD j d))):LessOk d f∧ofLess f=L:=by
 have h:ofLess f=L:=by
  funext a b
  unfold ofLess
  have:=hf [a,b] 0 1 (by simp) (by simp)
  have h2:f [a,b] 0 1=some (L a b):=this
  rw [h2]
  rfl
 exact ⟨⟨by rw [h]; exact hL,fun ys i j hi hj => by rw [h]; exact hf ys i j hi hj⟩,h⟩
theorem h74:H74:=fun k c0 => (less_mk (swoW (wtM c0)) (fun ys i j hi hj => e74 k c0 ys i j hi hj)).1
theorem o74 (k:Nat) (c0:Option (List (Int × Bool))):ofLess (fun (ys:List Lb) (i j:Int) => f74 k i j c0 ys)=ltW (wtM c0):=(less_mk (d:=dL) (swoW (wtM c0)) (fun ys i j hi hj => e74 k c0 ys i j hi hj)).2
def ltI (a b:Int):Bool:=decide (a < b)
theorem swoI:SWO ltI where
 irrefl x:=by simp [ltI]
 trans x y z h1 h2:=by simp [ltI] at *; omega
 ntrans x y z h1 h2:=by simp [ltI] at *; omega
theorem e76 (k:Nat) (ys:List Int) (i j:Nat) (hi:i < ys.length) (hj:j < ys.length):f76 k (i:Int) (j:Int) ys=some (ltI (ys.getD i 0) (ys.getD j 0)):=by
 unfold f76
 have b1:(0:Int) ≤ (i:Int) ∧ (i:Int) < (ys.length:Int):=⟨by omega,by omega⟩
 have b2:(0:Int) ≤ (j:Int) ∧ (j:Int) < (ys.length:Int):=⟨by omega,by omega⟩
 simp only [if_t b1,if_t b2,Int.toNat_natCast]
 rfl
theorem h76:H76:=fun k => (less_mk swoI (fun ys i j hi hj => e76 k ys i j hi hj)).1
theorem o76 (k:Nat):ofLess (fun (ys:List Int) (i j:Int) => f76 k i j ys)=ltI:=(less_mk (d:=(0:Int)) swoI (fun ys i j hi hj => e76 k ys i j hi hj)).2
def ov (x y:Lb):Bool:=(bif (bif (bif (decide ((x.2.1.1:Int) < (IntKind.i64.wrap (y.2.1.1+y.2.2.1)))) then (decide ((y.2.1.1:Int) < (IntKind.i64.wrap (x.2.1.1+x.2.2.1)))) else false) then (decide ((x.2.1.2:Int) < (IntKind.i64.wrap (y.2.1.2+y.2.2.2.1)))) else false) then (decide ((y.2.1.2:Int) < (IntKind.i64.wrap (x.2.1.2+x.2.2.2.1)))) else false)
theorem eo75 (k:Nat) (x y:Lb):f75 k x y=some (ov x y):=rfl
def free (s:List Lb) (l:Lb):Bool:=s.all fun t => !ov l t
def gr1 (s:List Lb) (l:Lb):List Lb:=if free s l then s ++ [l] else s
theorem getD_drop {α:Type} {x:List α} {i:Nat} {d:α} (h:i < x.length):x.drop i=x.getD i d :: x.drop (i+1):=by
 rw [List.drop_eq_getElem_cons h,List.getD_eq_getElem?_getD,List.getElem?_eq_getElem h]; rfl
theorem i705 (k:Nat) (s:List Lb) (m28:List (Int × Bool)) (x0:List Lb) (i:Nat) (q:List Lb→Option (List Int)) (l:Lb) (hl:l=List.getD (sortR pdqR (Sh.dflt sh3) (ofLess (fun (ys:List Lb) (i j:Int) => f74 k i j (some m28) ys)) (([]:List Lb) ++ x0)) i dL) (hs:s.length≤1000):∀ (m j:Nat) (room:Bool),j≤s.length→s.length - j < m →
 f15.l705 k s m28 x0 (i:Int) q m (room,(j:Int))=q (if (room && free (s.drop j) l)=true then s ++ [l] else s)
 | 0,j,room,_,h => by omega
 | m+1,j,room,hj,h => by
   rw [f15.l705]
   have hl':List.getD (sortR pdqR (Sh.dflt sh3) (ofLess (fun (ys:List Lb) (i j:Int) => f74 k i j (some m28) ys)) (([]:List Lb) ++ x0)) (Int.toNat (i:Int)) dL=l:=by rw [Int.toNat_natCast]; exact hl.symm
   by_cases hlt:j < s.length
   ·rw [if_t (by simpa using hlt),if_t ⟨by omega,by omega⟩,wrap_s (by omega),Int.toNat_natCast (n:=j),getD_drop (d:=dL) hlt]
    cases room with
    | false =>
      simp only [Bool.false_eq_true,if_false,Option.bind_some]
      rw [show (bif false then !(default:Bool) else false)=false from rfl,i705 k s m28 x0 i q l hl hs m (j+1) false (by omega) (by omega)]
      simp
    | true =>
      simp only [if_true]
      rw [show List.getD (sortR pdqR (Sh.dflt sh3) (ofLess (fun (ys:List Lb) (i j:Int) => f74 k i j (some m28) ys)) (([]:List Lb) ++ x0)) (Int.toNat (i:Int)) dL=l from hl',eo75,Option.bind_some,cond_true,i705 k s m28 x0 i q l hl hs m (j+1) _ (by omega) (by omega)]
      simp only [free,List.all_cons,Bool.true_and]
      rfl
   ·rw [if_f (by simpa using hlt),List.drop_eq_nil_of_le (by omega)]
    have hlen:(s.length+List.length [l])*48≤140737488355328:=by simp; omega
    cases room with
    | false => simp
    | true =>
      rw [if_t rfl]
      rw [show List.getD (sortR pdqR (Sh.dflt sh3) (ofLess (fun (ys:List Lb) (i j:Int) => f74 k i j (some m28) ys)) (([]:List Lb) ++ x0)) (Int.toNat (i:Int)) dL=l from hl',if_t hlen]
      simp [free]
open Go.Sort (SWO)
def wtB (b:List Int) (l:Lb):Int:=if hasI b l.1=true then IntKind.i64.wrap (l.2.2.2.2+50) else l.2.2.2.2
theorem gr1_len (s:List Lb) (l:Lb):(gr1 s l).length≤s.length+1:=by
 unfold gr1; split <;> simp
theorem grs_len:∀ (O s:List Lb),(O.foldl gr1 s).length≤s.length+O.length
 | [],s => by simp
 | l :: O,s => by
   have h1:=grs_len O (gr1 s l)
   have h2:=gr1_len s l
   simp only [List.foldl_cons,List.length_cons]
   omega
theorem sortR_len {α:Type} {d:α} {L:α→α→Bool} (hL:SWO L) (xs:List α):(sortR pdqR d L xs).length=xs.length:=(sortR_ok hL xs).1.length_eq
theorem i755 (k:Nat) (s:List Lb) (hs:s.length≤1000):∀ (m j:Nat) (acc:List Int),j≤s.length→s.length - j < m→acc.length≤j →
 f15.l755 k s m (acc,(j:Int))=some (sortR pdqR (0:Int) ltI (acc ++ (s.drop j).map (·.1)))
 | 0,j,acc,_,h,_ => by omega
 | m+1,j,acc,hj,h,ha => by
   rw [f15.l755]
   by_cases hlt:j < s.length
   ·rw [if_t (by simpa using hlt),if_t ⟨by omega,by omega⟩,wrap_s (by omega),Int.toNat_natCast,getD_drop (d:=dL) hlt]
    have hl:∀ z:Int,(acc.length+List.length [z])*8≤140737488355328:=fun z => by simp; omega
    rw [if_t (hl _)]
    have:=i755 k s hs m (j+1) (acc ++ [(s.getD j dL).1]) (by omega) (by omega) (by simp; omega)
    refine Eq.trans this ?_
    simp
   ·rw [if_f (by simpa using hlt),List.drop_eq_nil_of_le (by omega),if_t (by omega)]
    simp only [List.map_nil,List.append_nil]
    rw [o76]
    rfl
theorem i383 (k:Nat) (hk:1048576 < k) (m28:List (Int × Bool)) (x0:List Lb) (hx:x0.length≤500) (O:List Lb) (hO:O=sortR pdqR (Sh.dflt sh3) (ofLess (fun (ys:List Lb) (i j:Int) => f74 k i j (some m28) ys)) (([]:List Lb) ++ x0)) (hOl:O.length=x0.length) :
 ∀ (m i:Nat) (s:List Lb),i≤O.length→O.length - i < m→s.length≤i →
 f15.l383 k m28 x0 m (s,(i:Int))=f15.l755 k ((O.drop i).foldl gr1 s) k (([]:List Int),(0:Int))
 | 0,i,s,_,h,_ => by omega
 | m+1,i,s,hi,h,hs => by
   rw [f15.l383]
   have hlen:(List.length (sortR pdqR (Sh.dflt sh3) (ofLess (fun (ys:List Lb) (i j:Int) => f74 k i j (some m28) ys)) (([]:List Lb) ++ x0)):Int) = (O.length:Int):=by rw [hO]
   have key:∀ (c:Int) (A B:Option (List Int)),c = (O.length:Int) → (if decide ((i:Int) < c)=true then (if (0 ≤ (i:Int) ∧ (i:Int) < c) then A else none) else B)=if i < O.length then A else B:=by
    rintro c A B rfl
    by_cases hlt:i < O.length
    ·rw [if_t (by simpa using hlt),if_t ⟨by omega,by omega⟩,if_t hlt]
    ·rw [if_f (by simpa using hlt),if_f hlt]
   refine (key _ _ _ hlen).trans ?_
   by_cases hlt:i < O.length
   ·rw [if_t hlt]
    refine Eq.trans (i705 k s m28 x0 i _ (List.getD O i dL) (by rw [hO]) (by omega) k 0 true (by omega) (by omega)) ?_
    rw [getD_drop (d:=dL) hlt,List.foldl_cons]
    unfold f15.j677
    simp only []
    rw [wrap_s (by omega)]
    have hg:(if (true && free (s.drop 0) (O.getD i dL))=true then s ++ [O.getD i dL] else s)=gr1 s (O.getD i dL):=by
     unfold gr1; simp
    rw [hg]
    have:=gr1_len s (O.getD i dL)
    exact i383 k hk m28 x0 hx O hO hOl m (i+1) (gr1 s (O.getD i dL)) (by omega) (by omega) (by omega)
   ·rw [if_f hlt,List.drop_eq_nil_of_le (by omega)]
    rfl
theorem i17 (k:Nat) (hk:1048576 < k) (x0:List Lb) (hx:x0.length≤500) (x1:List Int) (hx1:x1.length≤500):∀ (m i:Nat) (mp:List (Int × Bool)),i≤x1.length→x1.length - i < m → (∀ id,mget (Sh.beq (.int .i64)) (some mp) id false=hasI (x1.take i) id) →
 f15.l17 k x1 x0 m (mp,(i:Int))=some (sortR pdqR (0:Int) ltI (((sortR pdqR dL (ltW (wtB x1)) x0).foldl gr1 []).map (·.1)))
 | 0,i,mp,_,h,_ => by omega
 | m+1,i,mp,hi,h,hm => by
   rw [f15.l17]
   by_cases hlt:i < x1.length
   ·rw [if_t (by simpa using hlt),if_t ⟨by omega,by omega⟩,wrap_s (by omega),Int.toNat_natCast]
    refine i17 k hk x0 hx x1 hx1 m (i+1) _ (by omega) (by omega) (fun id => ?_)
    rw [mget_put (beq_int _),hm id,hasI_take hlt]
    have:Sh.beq (.int .i64) id (x1.getD i 0) = (x1.getD i 0 == id):=by
     simp only [Sh.beq]
     by_cases e:id=x1.getD i 0
     ·simp [e]
     ·have e':¬ x1.getD i 0=id:=fun h => e h.symm
      rw [beq_eq_false_iff_ne.2 e,beq_eq_false_iff_ne.2 e']
    rw [this]
    cases (x1.getD i 0 == id) <;> simp
   ·have hw:wtM (some mp)=wtB x1:=by
     funext l
     unfold wtM wtB
     rw [hm,List.take_of_length_le (by omega)]
    have hl:(List.length ([]:List Lb)+x0.length)*48≤140737488355328:=by simp; omega
    have hl2:List.length (([]:List Lb) ++ x0) < 2305843009213693952:=by simp; omega
    rw [if_f (by simpa using hlt),if_t hl,if_t hl2]
    obtain ⟨O,hO⟩:∃ O,O=sortR pdqR (Sh.dflt sh3) (ofLess (fun (ys:List Lb) (i j:Int) => f74 k i j (some mp) ys)) (([]:List Lb) ++ x0):=⟨_,rfl⟩
    have hO2:O=sortR pdqR dL (ltW (wtB x1)) x0:=by
     rw [hO,o74,hw]; rfl
    have hOl:O.length=x0.length:=by rw [hO2]; exact sortR_len (swoW _) x0
    have h1:=i383 k hk mp x0 hx O hO hOl k 0 [] (by omega) (by omega) (by simp)
    have h2:f15.l383 k mp x0 k (([]:List Lb),(0:Int))=f15.l755 k ((O.drop 0).foldl gr1 []) k (([]:List Int),(0:Int)):=h1
    refine Eq.trans h2 ?_
    have hgl:=grs_len O []
    simp only [List.length_nil,Nat.zero_add] at hgl
    have h3:=i755 k (O.foldl gr1 []) (by omega) k 0 [] (by omega) (by omega) (by simp)
    rw [List.drop_zero]
    refine Eq.trans h3 ?_
    rw [List.nil_append,List.drop_zero,hO2]
theorem f15_eq (k:Nat) (hk:1048576 < k) (x0:List Lb) (hx:x0.length≤1048576) (x1:List Int):f15 k x0 x1=if (!labelsOk x0 || decide (x1.length > 500))=true then some [] else some (sortR pdqR (0:Int) ltI (((sortR pdqR dL (ltW (wtB x1)) x0).foldl gr1 []).map (·.1))):=by
 unfold f15
 rw [impl32 k hk x0 hx,Option.bind_some]
 by_cases hok:labelsOk x0=true
 ·rw [hok]
  simp only [Bool.not_true,cond_false,Bool.false_or]
  by_cases h1:x1.length > 500
  ·rw [if_t (by simp; omega),if_t (by simpa using h1)]
  ·rw [if_f (by simp; omega),if_f (by simpa using h1)]
   have hx5:x0.length≤500:=by
    unfold labelsOk at hok
    simp only [Bool.and_eq_true,decide_eq_true_eq] at hok
    exact hok.1
   exact i17 k hk x0 hx5 x1 (by omega) k 0 [] (by omega) (by omega) (fun id => by simp [mget_nil,hasI])
 ·have:labelsOk x0=false:=by simpa using hok
  rw [this]
  simp
abbrev ci (is:List Nat):List Int:=is.map fun (n:Nat) => (n:Int)
open Go.Sort (SWO)
open Go.Sort (SWO)
theorem gr_sub:∀ (O s:List Lb),∃ t,t.Sublist O∧O.foldl gr1 s=s ++ t
 | [],s => ⟨[],List.Sublist.refl _,by simp⟩
 | l :: O,s => by
   simp only [List.foldl_cons]
   obtain ⟨t,h1,h2⟩:=gr_sub O (gr1 s l)
   unfold gr1 at h2 ⊢
   split at h2
   ·rename_i hf
    rw [if_pos hf]
    exact ⟨l :: t,h1.cons_cons l,by rw [h2]; simp⟩
   ·rename_i hf
    rw [if_neg hf]
    exact ⟨t,h1.cons l,h2⟩
end Go.Proofs.Ytnpaokckkbhdjaa
end
section
set_option linter.unusedVariables false
set_option linter.unusedSimpArgs false
namespace Go.Proofs.Ytnpaokckkbhdjaa
open Go Go.Vm Go.Proofs V
open Go.Sort (SWO)
theorem t204 (k:Nat) (c:Cu) (ls:List Lb):f79.j204 k (c,ls)=some (ls,c):=rfl
theorem t206 (k:Nat) (r205:Int × Cu) (hc:CuOk r205.2):∀ (m n:Nat) (acc:List Lb),acc.length+n≤1000→n < m→∃ r,f79.l206 k r205 (f79.j204 k) m (acc,(n:Int))=some r∧CuOk r.2∧r.1.length≤1000
 | 0,n,acc,_,h => by omega
 | m+1,n,acc,h1,h => by
   rw [f79.l206]
   by_cases hn:0 < n
   ·obtain ⟨q,rfl⟩:∃ q,n=q+1:=⟨n - 1,by omega⟩
    rw [if_t (decide_eq_true (by omega)),if_t (by simp only [List.length_cons,List.length_nil]; omega)]
    have:IntKind.i64.wrap (((q+1:Nat):Int) - 1) = (q:Int):=by rw [wrap_in (by omega) (by omega)]; omega
    rw [this]
    exact t206 k r205 hc m q _ (by simp only [List.length_append,List.length_cons,List.length_nil]; omega) (by omega)
   ·have:n=0:=by omega
    subst this
    rw [if_f (by simp),t204]
    exact ⟨_,rfl,hc,by simp only; omega⟩
theorem t183 (k:Nat) (hk:1048576 < k) (c:Cu) (hc:CuOk c) (ls:List Lb) (hl:ls.length≤1000):∃ r,f79.j183 k (c,ls)=some r∧CuOk r.2∧r.1.length≤1000:=by
 obtain ⟨r,q1,q2⟩:=t29 k c 200 hc
 unfold f79.j183
 simp only [q1,Option.bind_some]
 cases r.1 with
 | false => exact ⟨_,rfl,q2,hl⟩
 | true =>
   obtain ⟨r2,p1,p2,p3⟩:=t28 k r.2 3 q2
   have:=p3 (by omega) (by omega)
   obtain ⟨n,hn⟩:∃ n:Nat,r2.1 = (n:Int):=⟨r2.1.toNat,by omega⟩
   simp only [if_true,p1,Option.bind_some]
   have hw:IntKind.i64.wrap (IntKind.i64.wrap (r2.1+500) - 1) = ((n+499:Nat):Int):=by
    have e1:IntKind.i64.wrap (r2.1+500) = ((n+500:Nat):Int):=by rw [hn,wrap_in (by omega) (by omega)]; omega
    rw [e1,wrap_in (by omega) (by omega)]; omega
   rw [hw]
   exact t206 k r2 p2 k (n+499) [] (by simp; omega) (by omega)
theorem t79l (k:Nat) (hk:1048576 < k):∀ (m n:Nat) (c:Cu) (acc:List Lb),CuOk c→acc.length+n≤10→n < m→∃ r,f79.l81 k m (c,acc,(n:Int))=some r∧CuOk r.2∧r.1.length≤1000
 | 0,n,c,acc,_,_,h => by omega
 | m+1,n,c,acc,hc,h1,h => by
   rw [f79.l81]
   by_cases hn:0 < n
   ·obtain ⟨q,rfl⟩:∃ q,n=q+1:=⟨n - 1,by omega⟩
    obtain ⟨a1,b1,c1,_⟩:=t28 k c 60 hc
    obtain ⟨a2,b2,c2,_⟩:=t28 k a1.2 30 c1
    obtain ⟨a3,b3,c3,_⟩:=t28 k a2.2 20 c2
    obtain ⟨a4,b4,c4,_⟩:=t28 k a3.2 10 c3
    obtain ⟨a5,b5,c5,_⟩:=t28 k a4.2 12 c4
    have:IntKind.i64.wrap (((q+1:Nat):Int) - 1) = (q:Int):=by rw [wrap_in (by omega) (by omega)]; omega
    rw [if_t (decide_eq_true (by omega))]
    simp only [b1,b2,b3,b4,b5,Option.bind_some]
    rw [if_t (by simp only [List.length_cons,List.length_nil]; omega),this]
    exact t79l k hk m q _ _ c5 (by simp only [List.length_append,List.length_cons,List.length_nil]; omega) (by omega)
   ·have:n=0:=by omega
    subst this
    obtain ⟨r,q1,q2⟩:=t29 k c 12 hc
    rw [if_f (by simp)]
    simp only [q1,Option.bind_some]
    have hfin:∀ (c':Cu) (l:List Lb),CuOk c'→l.length=acc.length→∃ r,f79.j183 k (c',l)=some r∧CuOk r.2∧r.1.length≤1000:=fun c' l h' hl' => t183 k hk c' h' l (by omega)
    by_cases hb:(bif r.1 then decide ((List.length acc:Int) > 0) else false)=true
    ·rw [if_t hb]
     have hpos:0 < acc.length:=by
      cases h0:r.1 with
      | false => rw [h0] at hb; cases hb
      | true => rw [h0] at hb; simp at hb; omega
     obtain ⟨r2,p1,p2,p3⟩:=t28 k r.2 (acc.length:Int) q2
     have hi:=p3 (by omega) (by omega)
     simp only [p1,Option.bind_some]
     rw [if_t hi]
     obtain ⟨r3,m1,m2,m3⟩:=t28 k r2.2 5 p2
     simp only [m1,Option.bind_some]
     by_cases k0:((r3.1:Int) == 0)=true
     ·obtain ⟨r4,n1,n2,n3⟩:=t28 k r3.2 4 m2
      rw [if_t k0,n1,Option.bind_some,if_t (by simpa using n3 (by omega) (by omega))]
      exact hfin _ _ n2 (by simp)
     rw [if_f k0]
     by_cases k1:((r3.1:Int) == 1)=true
     ·obtain ⟨r4,n1,n2,n3⟩:=t28 k r3.2 3 m2
      rw [if_t k1,n1,Option.bind_some,if_t (by simpa using n3 (by omega) (by omega))]
      exact hfin _ _ n2 (by simp)
     rw [if_f k1]
     by_cases k2:((r3.1:Int) == 2)=true
     ·rw [if_t k2]
      exact hfin _ _ m2 (by simp)
     rw [if_f k2]
     by_cases k3:((r3.1:Int) == 3)=true
     ·obtain ⟨r4,n1,n2,n3⟩:=t28 k r3.2 3 m2
      rw [if_t k3,n1,Option.bind_some,if_t (by simpa using n3 (by omega) (by omega))]
      exact hfin _ _ n2 (by simp)
     rw [if_f k3]
     by_cases k4:((r3.1:Int) == 4)=true
     ·obtain ⟨r4,n1,n2,n3⟩:=t28 k r3.2 2 m2
      rw [if_t k4,n1,Option.bind_some]
      exact hfin _ _ n2 (by simp)
     rw [if_f k4]
     exact hfin _ _ m2 rfl
    ·rw [if_f hb]
     exact hfin _ _ q2 rfl
theorem t79 (k:Nat) (hk:1048576 < k) (c:Cu) (hc:CuOk c):∃ r,f79 k c=some r∧CuOk r.2∧r.1.length≤1000:=by
 obtain ⟨r,q1,q2,q3⟩:=t28 k c 10 hc
 have:=q3 (by omega) (by omega)
 obtain ⟨n,hn⟩:∃ n:Nat,r.1 = (n:Int):=⟨r.1.toNat,by omega⟩
 unfold f79
 simp only [q1,Option.bind_some,hn]
 exact t79l k hk k n r.2 [] q2 (by simp; omega) (by omega)
theorem t80l (k:Nat):∀ (m i:Nat) (c:Cu) (acc:List Int),CuOk c→i≤22→acc.length≤i→22 - i < m→∃ r,f80.l41 k m (c,acc,(i:Int))=some r∧r.1.length≤22
 | 0,i,c,acc,_,_,_,h => by omega
 | m+1,i,c,acc,hc,hi,ha,h => by
   rw [f80.l41]
   by_cases hlt:i < 22
   ·obtain ⟨r,q1,q2⟩:=t29 k c 3 hc
    rw [if_t (by simp; omega)]
    simp only [q1,Option.bind_some]
    cases r.1 with
    | true =>
      rw [if_t rfl,if_t (by simp only [List.length_cons,List.length_nil]; omega),f80.j77,wrap_s (by omega)]
      exact t80l k m (i+1) _ _ q2 (by omega) (by simp; omega) (by omega)
    | false =>
      rw [if_f (by simp),f80.j77,wrap_s (by omega)]
      exact t80l k m (i+1) _ _ q2 (by omega) (by omega) (by omega)
   ·rw [if_f (by simp; omega)]
    exact ⟨_,rfl,by simp only; omega⟩
theorem t31 (k:Nat) (hk:1048576 < k) (x:List Int) (hx:x.length≤1048576):∃ ls ids,f31 k x=some (ls,ids)∧ls.length≤1000∧ids.length≤22:=by
 obtain ⟨c,a1,a2⟩:=t26 k x hx hk
 obtain ⟨r,b1,b2,b3⟩:=t79 k hk c a2
 obtain ⟨s,c1,c2⟩:=t80l k k 8 r.2 [] b2 (by omega) (by simp) (by omega)
 have c1':f80 k r.2=some s:=c1
 refine ⟨r.1,s.1,?_,b3,c2⟩
 unfold f31
 simp only [a1,b1,c1',Option.bind_some]
def rsum:List Lb→Int
 | [] => 0
 | l :: ls => l.2.2.2.2+rsum ls
theorem rsum_app:∀ (a b:List Lb),rsum (a ++ b)=rsum a+rsum b
 | [],b => by simp [rsum]
 | l :: a,b => by simp only [List.cons_append,rsum,rsum_app a b]; omega
def Rk (l:Lb):Prop:=0≤l.2.2.2.2∧l.2.2.2.2≤1000
theorem rsum_bd:∀ (a:List Lb),(∀ l ∈ a,Rk l)→0≤rsum a∧rsum a≤1000 * (a.length:Int)
 | [],_ => by simp [rsum]
 | l :: a,h => by
   have h1:=rsum_bd a (fun x hx => h x (List.mem_cons_of_mem _ hx))
   have h2:=h l List.mem_cons_self
   unfold Rk at h2
   simp only [rsum,List.length_cons]
   omega
theorem rsum_ge:∀ (a:List Lb),(∀ l ∈ a,Rk l)→∀ l ∈ a,l.2.2.2.2≤rsum a
 | [],_,l,h => by cases h
 | x :: a,h,l,hl => by
   have h1:=rsum_bd a (fun x hx => h x (List.mem_cons_of_mem _ hx))
   have h2:=h x List.mem_cons_self
   unfold Rk at h2
   simp only [rsum]
   rcases List.mem_cons.1 hl with rfl | hl
   ·omega
   ·have:=rsum_ge a (fun x hx => h x (List.mem_cons_of_mem _ hx)) l hl
    omega
theorem ranks {x:List Lb} (h:labelsOk x=true):x.length≤500∧∀ l ∈ x,Rk l:=by
 unfold labelsOk at h
 simp only [Bool.and_eq_true,decide_eq_true_eq] at h
 refine ⟨h.1,fun l hl => ?_⟩
 obtain ⟨i,hi,rfl⟩:=List.getElem_of_mem hl
 have:=(allTo_iff.1 h.2) i hi
 unfold okL at this
 simp only [Bool.and_eq_true] at this
 have h1:=this.1
 rw [List.getD_eq_getElem?_getD,List.getElem?_eq_getElem hi] at h1
 simp only [Option.getD_some] at h1
 unfold lOk at h1
 generalize x[i]=l at h1
 unfold Rk
 generalize hA:(bif (bif (bif (bif (bif idB l.1 then ptB l.2.1 else false) then (decide ((l.2.2.1:Int) ≥ (1:Int))) else false) then (decide ((l.2.2.1:Int) ≤ (100000:Int))) else false) then (decide ((l.2.2.2.1:Int) ≥ (1:Int))) else false) then (decide ((l.2.2.2.1:Int) ≤ (100000:Int))) else false)=A at h1
 cases A with
 | false => simp at h1
 | true => simpa using h1
theorem has34 (k:Nat) (ids:List Int) (id:Int) (hx:ids.length≤1048576):∀ (m i:Nat),i≤ids.length→ids.length - i < m→f34.l12 k ids id m (i:Int)=some (hasI (ids.drop i) id)
 | 0,i,_,h => by omega
 | m+1,i,hi,h => by
   rw [f34.l12]
   by_cases hlt:i < ids.length
   ·rw [if_t (by simpa using hlt),if_t ⟨by omega,by omega⟩,hasI_drop hlt,Int.toNat_natCast]
    cases hb:(ids.getD i 0 == id) with
    | true => rw [if_t rfl]; rfl
    | false =>
      rw [if_f (by simp),wrap_s (by omega),Bool.false_or]
      exact has34 k ids id hx m (i+1) (by omega) (by omega)
   ·rw [if_f (by simpa using hlt),List.drop_eq_nil_of_le (by omega)]
    rfl
theorem e34 (k:Nat) (hk:1048576 < k) (ids:List Int) (id:Int) (hx:ids.length≤1048576):f34 k ids id=some (hasI ids id):=has34 k ids id hx k 0 (by omega) (by omega)
theorem take_succ_getD {α:Type} {x:List α} {i:Nat} {d:α} (h:i < x.length):x.take (i+1)=x.take i ++ [x.getD i d]:=by
 rw [List.take_add_one,List.getD_eq_getElem?_getD,List.getElem?_eq_getElem h]; rfl
theorem c58 (k:Nat) (x0:List Lb) (hx:x0.length≤1048576) (ids:List Int) (mp:List (Int × Bool)) (hm:∀ id,mget (Sh.beq (.int .i64)) (some mp) id false=hasI ids id):∀ (m i:Nat),i≤x0.length→x0.length - i < m →
 f82.l58 k x0 mp m ((x0.take i).filter (fun l => hasI ids l.1),(i:Int))=some (x0.filter fun l => hasI ids l.1)
 | 0,i,_,h => by omega
 | m+1,i,hi,h => by
   rw [f82.l58]
   by_cases hlt:i < x0.length
   ·have ih:=c58 k x0 hx ids mp hm m (i+1) (by omega) (by omega)
    rw [take_succ_getD (d:=dL) hlt,List.filter_append] at ih
    have hlen:((x0.take i).filter (fun l => hasI ids l.1)).length≤1048576:=by
     have:=List.length_filter_le (fun l:Lb => hasI ids l.1) (x0.take i)
     simp only [List.length_take] at this; omega
    rw [if_t (by simpa using hlt),if_t ⟨by omega,by omega⟩,Int.toNat_natCast,hm]
    cases hb:hasI ids (x0.getD i dL).1 with
    | true =>
      have hf:[x0.getD i dL].filter (fun l => hasI ids l.1)=[x0.getD i dL]:=by rw [List.filter_cons,if_pos (by simpa using hb)]; rfl
      rw [hf] at ih
      rw [if_t rfl,if_t (show (((x0.take i).filter (fun l => hasI ids l.1)).length+[x0.getD i dL].length)*48≤140737488355328 from Nat.le_trans (Nat.mul_le_mul_right 48 (Nat.add_le_add_right hlen 1)) (by decide)),f82.j82,wrap_s (by omega)]
      exact ih
    | false =>
      have hf:[x0.getD i dL].filter (fun l => hasI ids l.1)=[]:=by rw [List.filter_cons,if_neg (by rw [hb]; simp)]; rfl
      rw [hf,List.append_nil] at ih
      rw [if_f (by simp),f82.j82,wrap_s (by omega)]
      exact ih
   ·rw [if_f (by simpa using hlt),List.take_of_length_le (by omega)]
theorem c16 (k:Nat) (hk:1048576 < k) (x0:List Lb) (hx:x0.length≤1048576) (ids:List Int) (hx1:ids.length≤1048576):∀ (m i:Nat) (mp:List (Int × Bool)),i≤ids.length→ids.length - i < m → (∀ id,mget (Sh.beq (.int .i64)) (some mp) id false=hasI (ids.take i) id) →
 f82.l16 k ids x0 m (mp,(i:Int))=some (x0.filter fun l => hasI ids l.1)
 | 0,i,mp,_,h,_ => by omega
 | m+1,i,mp,hi,h,hm => by
   rw [f82.l16]
   by_cases hlt:i < ids.length
   ·rw [if_t (by simpa using hlt),if_t ⟨by omega,by omega⟩,wrap_s (by omega),Int.toNat_natCast]
    refine c16 k hk x0 hx ids hx1 m (i+1) _ (by omega) (by omega) (fun id => ?_)
    rw [mget_put (beq_int _),hm id,hasI_take hlt]
    have:Sh.beq (.int .i64) id (ids.getD i 0) = (ids.getD i 0 == id):=by
     simp only [Sh.beq]
     by_cases e:id=ids.getD i 0
     ·simp [e]
     ·have e':¬ ids.getD i 0=id:=fun h => e h.symm
      rw [beq_eq_false_iff_ne.2 e,beq_eq_false_iff_ne.2 e']
    rw [this]
    cases (ids.getD i 0 == id) <;> simp
   ·rw [if_f (by simpa using hlt)]
    rw [List.take_of_length_le (by omega)] at hm
    exact c58 k x0 hx ids mp hm k 0 (by omega) (by omega)
theorem e82 (k:Nat) (hk:1048576 < k) (x0:List Lb) (hx:x0.length≤1048576) (ids:List Int) (hx1:ids.length≤1048576):f82 k x0 ids=some (x0.filter fun l => hasI ids l.1) :=
 c16 k hk x0 hx ids hx1 k 0 [] (by omega) (by omega) (fun id => rfl)
theorem c18 (k:Nat) (a:List Lb) (ha:∀ l ∈ a,Rk l) (hl:a.length≤1048576):∀ (m i:Nat),i≤a.length→a.length - i < m→f33.l18 k a m (rsum (a.take i),(i:Int))=some (rsum a)
 | 0,i,_,h => by omega
 | m+1,i,hi,h => by
   rw [f33.l18]
   by_cases hlt:i < a.length
   ·have ih:=c18 k a ha hl m (i+1) (by omega) (by omega)
    rw [take_succ_getD (d:=dL) hlt,rsum_app] at ih
    have h1:=rsum_bd (a.take i) (fun l hl => ha l (List.mem_of_mem_take hl))
    have h2:Rk (a.getD i dL):=ha _ (getD_mem' hlt)
    unfold Rk at h2
    simp only [List.length_take] at h1
    have e:rsum [a.getD i dL] = (a.getD i dL).2.2.2.2:=by simp [rsum]
    rw [e] at ih
    have hw:IntKind.i64.wrap (rsum (a.take i) + (a.getD i dL).2.2.2.2)=rsum (a.take i) + (a.getD i dL).2.2.2.2:=wrap_in (by omega) (by omega)
    rw [if_t (by simpa using hlt),if_t ⟨by omega,by omega⟩,Int.toNat_natCast,hw,wrap_s (by omega)]
    exact ih
   ·rw [if_f (by simpa using hlt),List.take_of_length_le (by omega)]
theorem e33 (k:Nat) (hk:1048576 < k) (x0:List Lb) (hx:x0.length≤1048576) (ids:List Int) (hx1:ids.length≤1048576):f33 k x0 ids=some (if labelsOk x0=true then rsum (x0.filter fun l => hasI ids l.1) else 0):=by
 unfold f33
 rw [impl32 k hk x0 hx,Option.bind_some]
 cases hok:labelsOk x0 with
 | false => simp
 | true =>
   obtain ⟨h1,h2⟩:=ranks hok
   rw [if_f (by simp),e82 k hk x0 hx ids hx1,Option.bind_some,if_pos rfl]
   have hfl:=List.length_filter_le (fun l:Lb => hasI ids l.1) x0
   exact c18 k (x0.filter fun l => hasI ids l.1) (fun l hl => h2 l (List.mem_filter.1 hl).1) (by omega) k 0 (by omega) (by omega)
def rmax:List Lb→Int→Int
 | [],m => m
 | l :: ls,m => rmax ls (if l.2.2.2.2 > m then l.2.2.2.2 else m)
theorem rmax_app:∀ (a:List Lb) (l:Lb) (m:Int),rmax (a ++ [l]) m=if l.2.2.2.2 > rmax a m then l.2.2.2.2 else rmax a m
 | [],l,m => rfl
 | x :: a,l,m => rmax_app a l _
theorem rmax_le:∀ (a:List Lb) (m B:Int),m≤B → (∀ l ∈ a,l.2.2.2.2≤B)→rmax a m≤B
 | [],m,B,h,_ => h
 | x :: a,m,B,h,ha => by
   have:=ha x List.mem_cons_self
   refine rmax_le a _ B ?_ (fun l hl => ha l (List.mem_cons_of_mem _ hl))
   split <;> omega
theorem shown_ge {x:List Lb} (hok:labelsOk x=true):rmax x 0≤rsum (x.filter fun l => hasI (sortR pdqR (0:Int) ltI (((sortR pdqR dL (ltW (wtB [])) x).foldl gr1 []).map (·.1))) l.1):=by
 obtain ⟨h1,h2⟩:=ranks hok
 obtain ⟨p1,p2⟩:=sortR_ok (d:=dL) (swoW (wtB [])) x
 generalize hO:sortR pdqR dL (ltW (wtB [])) x=O at p1 p2 ⊢
 have hf:∀ l ∈ x.filter (fun l => hasI (sortR pdqR (0:Int) ltI ((O.foldl gr1 []).map (·.1))) l.1),Rk l:=fun l hl => h2 l (List.mem_filter.1 hl).1
 cases O with
 | nil =>
   have:x=[]:=List.perm_nil.1 p1.symm
   subst this
   exact (rsum_bd _ hf).1
 | cons o O =>
   have hox:o ∈ x:=p1.subset List.mem_cons_self
   have hro:=h2 o hox
   have hg:(o :: O).foldl gr1 []=O.foldl gr1 [o]:=rfl
   obtain ⟨t,_,ht⟩:=gr_sub O [o]
   have hin:hasI (sortR pdqR (0:Int) ltI (((o :: O).foldl gr1 []).map (·.1))) o.1=true:=by
    unfold hasI
    rw [List.any_eq_true]
    refine ⟨o.1,?_,by simp⟩
    rw [(sortR_ok (d:=(0:Int)) swoI _).1.mem_iff,hg,ht]
    simp
   refine Int.le_trans (rmax_le x 0 o.2.2.2.2 hro.1 fun l hl => ?_) (rsum_ge _ hf o (List.mem_filter.2 ⟨hox,by simpa using hin⟩))
   have hl':l ∈ o :: O:=p1.symm.subset hl
   rcases List.mem_cons.1 hl' with rfl | hl'
   ·exact Int.le_refl _
   ·have:=(List.pairwise_cons.1 p2).1 l hl'
    have w:∀ y:Lb,wtB [] y=y.2.2.2.2:=fun y => by unfold wtB hasI; simp
    unfold ltW at this
    rw [w,w] at this
    split at this
    ·simp at this; omega
    ·omega
theorem l86 (k:Nat) (hk:1048576 < k) (x:List Lb) (ids:List Int) (hok:labelsOk x=true) (hi:ids.length≤22):∀ (m i:Nat),i≤x.length→x.length - i < m →
 f5.l86 k (x,ids) m (rsum ((x.take i).filter fun l => hasI ids l.1),rmax (x.take i) 0,(i:Int))=some true
 | 0,i,_,h => by omega
 | m+1,i,hi',h => by
   obtain ⟨h1,h2⟩:=ranks hok
   rw [f5.l86]
   by_cases hlt:i < x.length
   ·have ih:=l86 k hk x ids hok hi m (i+1) (by omega) (by omega)
    rw [take_succ_getD (d:=dL) hlt,List.filter_append,rsum_app,rmax_app] at ih
    have hb:(0:Int) ≤ (i:Int) ∧ (i:Int) < (x.length:Int):=⟨by omega,by omega⟩
    have hr:=h2 _ (getD_mem' (d:=dL) hlt)
    unfold Rk at hr
    have hs:=rsum_bd ((x.take i).filter fun l => hasI ids l.1) (fun l hl => h2 l (List.mem_of_mem_take (List.mem_filter.1 hl).1))
    have hsl:=List.length_filter_le (fun l:Lb => hasI ids l.1) (x.take i)
    simp only [List.length_take] at hsl
    rw [if_t (by simpa using hlt),if_t hb,Int.toNat_natCast,e34 k hk ids _ (by omega),Option.bind_some]
    have tail:∀ (v:Int),f5.j156 k (i:Int) (x,ids) (rmax (x.take i) 0) (f5.j152 k (i:Int) (f5.l86 k (x,ids) m)) v=f5.l86 k (x,ids) m (v,(if (x.getD i dL).2.2.2.2 > rmax (x.take i) 0 then (x.getD i dL).2.2.2.2 else rmax (x.take i) 0),((i+1:Nat):Int)):=fun v => by
     rw [f5.j156,if_t hb,Int.toNat_natCast]
     by_cases hc:(x.getD i dL).2.2.2.2 > rmax (x.take i) 0
     ·rw [if_t (by simpa using hc),if_t hb,f5.j152,wrap_s (by omega),if_pos hc]
     ·rw [if_f (by simpa using hc),f5.j152,wrap_s (by omega),if_neg hc]
    cases hbb:hasI ids (x.getD i dL).1 with
    | true =>
      have hf:[x.getD i dL].filter (fun l => hasI ids l.1)=[x.getD i dL]:=by rw [List.filter_cons,if_pos (by simpa using hbb)]; rfl
      have e:rsum [x.getD i dL] = (x.getD i dL).2.2.2.2:=by simp [rsum]
      rw [hf,e] at ih
      have hw:IntKind.i64.wrap (rsum ((x.take i).filter fun l => hasI ids l.1) + (x.getD i dL).2.2.2.2)=rsum ((x.take i).filter fun l => hasI ids l.1) + (x.getD i dL).2.2.2.2:=wrap_in (by omega) (by omega)
      rw [if_t rfl,if_t hb,tail,hw]
      exact ih
    | false =>
      have hf:[x.getD i dL].filter (fun l => hasI ids l.1)=[]:=by rw [List.filter_cons,if_neg (by rw [hbb]; simp)]; rfl
      have e:rsum []=0:=rfl
      rw [hf,e,Int.add_zero] at ih
      rw [if_f (by simp),tail]
      exact ih
   ·rw [if_f (by simpa using hlt),List.take_of_length_le (by omega)]
    have hp:=f15_eq k hk x (by omega) []
    rw [if_f (by rw [hok]; simp)] at hp
    have hlen:(sortR pdqR (0:Int) ltI (((sortR pdqR dL (ltW (wtB [])) x).foldl gr1 []).map (·.1))).length≤1048576:=by
     have a:=sortR_len (d:=(0:Int)) swoI (((sortR pdqR dL (ltW (wtB [])) x).foldl gr1 []).map (·.1))
     have b:=grs_len (sortR pdqR dL (ltW (wtB [])) x) []
     have c:=sortR_len (d:=dL) (swoW (wtB [])) x
     simp only [List.length_map,List.length_nil] at a b
     omega
    have hp':f15 k (x,ids).1 ([]:List Int)=_:=hp
    rw [hp',Option.bind_some]
    have w1:f33 k (x,ids).1 (x,ids).2=_:=e33 k hk x (by omega) ids (by omega)
    have w2:=e33 k hk x (by omega) _ hlen
    rw [hok,if_pos rfl] at w1 w2
    rw [w1,Option.bind_some,beq_self_eq_true,if_t rfl]
    have w2':f33 k (x,ids).1 _=_:=w2
    rw [w2',Option.bind_some]
    have:=shown_ge hok
    simp only [cond_true,Option.some.injEq,decide_eq_true_eq]
    exact this
theorem law5 (x0:List Int) (w0:Sh.wf (.sl false 5 (.int .u8)) x0):∃ k,f5 k x0=some true:=by
 refine ⟨1048577,?_⟩
 have hk:1048576 < 1048577:=by decide
 unfold f5 f30
 rw [Option.bind_some]
 by_cases hbig:(x0.length:Int) > 1048576
 ·rw [if_t (by simpa using hbig)]
 rw [if_f (by simpa using hbig)]
 obtain ⟨ls,ids,d1,d2,d3⟩:=t31 1048577 hk x0 (by omega)
 rw [d1,Option.bind_some,impl32 1048577 hk [] (by simp),Option.bind_some]
 have ok0:labelsOk []=true:=rfl
 rw [ok0]
 have s1:f33 1048577 [((1:Int),(((0:Int),(0:Int)),((1:Int),((1:Int),(7:Int)))))] [(1:Int)]=some 7:=by
  rw [e33 1048577 hk _ (by simp) _ (by simp)]
  rfl
 have e0:(!true)=false:=rfl
 rw [if_t e0,s1,Option.bind_some,if_f (by decide)]
 rw [impl32 1048577 hk _ (by simp only; omega),Option.bind_some]
 cases hok:labelsOk ls with
 | false =>
   have e2:(!false)=true:=rfl
   rw [if_t e2,e33 1048577 hk _ (by simp only; omega) _ (by simp only; omega),Option.bind_some]
   have:labelsOk (ls,ids).1=false:=hok
   rw [this]
   rfl
 | true =>
   rw [if_f (by simp)]
   exact l86 1048577 hk ls ids hok d3 1048577 0 (by omega) (by have:=(ranks hok).1; omega)
end Go.Proofs.Ytnpaokckkbhdjaa
end
