/-
  Own texts of this project, joined. No condition.
-/
import Derived.Test.YtnpaokckkbhdjaaR7up
import Derived.Test.YtnpaokckkbhdjaaLawB
import Derived.Test.YtnpaokckkbhdjaaLawC
section
set_option linter.unusedVariables false
set_option linter.unusedSimpArgs false
namespace Go.Proofs.Ytnpaokckkbhdjaa
open Go Go.Vm Go.Proofs V
open Go.Sort (SWO)
abbrev Lb:=Int × ((Int × Int) × (Int × (Int × Int)))
abbrev dL:Lb:=((0:Int),(((0:Int),(0:Int)),((0:Int),((0:Int),(0:Int)))))
def idB (a:Int):Bool:=bif (decide ((a:Int) ≥ (1:Int))) then (decide ((a:Int) ≤ (1000000000:Int))) else false
def ptB (a:Int × Int):Bool:=bif (bif (bif (decide ((a.1:Int) ≥ (-10000000:Int))) then (decide ((a.1:Int) ≤ (10000000:Int))) else false) then (decide ((a.2:Int) ≥ (-10000000:Int))) else false) then (decide ((a.2:Int) ≤ (10000000:Int))) else false
theorem e149 (k:Nat) (a:Int):f149 k a=some (idB a):=rfl
theorem e150 (k:Nat) (a:Int × Int):f150 k a=some (ptB a):=rfl
theorem e146 (k:Nat) (a:Int):f146 k a=some (idB a):=rfl
theorem e147 (k:Nat) (a:Int × Int):f147 k a=some (ptB a):=rfl
def lOk (x:Lb):Bool:=(bif (bif (bif (bif (bif (bif (bif idB x.1 then ptB x.2.1 else false) then (decide ((x.2.2.1:Int) ≥ (1:Int))) else false) then (decide ((x.2.2.1:Int) ≤ (100000:Int))) else false) then (decide ((x.2.2.2.1:Int) ≥ (1:Int))) else false) then (decide ((x.2.2.2.1:Int) ≤ (100000:Int))) else false) then (decide ((x.2.2.2.2:Int) ≥ (0:Int))) else false) then (decide ((x.2.2.2.2:Int) ≤ (1000:Int))) else false)
theorem e132 (k:Nat) (x:Lb):f132 k x=some (lOk x):=by
 unfold f132 lOk
 rw [e149,Option.bind_some]
 cases idB x.1 <;> simp [e150]
theorem e81 (k:Nat) (x:Lb):f81 k x=some (lOk x):=by
 unfold f81 lOk
 rw [e146,Option.bind_some]
 cases idB x.1 <;> simp [e147]
def hasL (x:List Lb) (id:Int):Bool:=x.any fun l => l.1 == id
theorem hasL_drop {x:List Lb} {id:Int} {i:Nat} (h:i < x.length):hasL (x.drop i) id = ((x.getD i dL).1 == id || hasL (x.drop (i+1)) id):=by
 unfold hasL
 rw [List.drop_eq_getElem_cons h,List.any_cons,List.getD_eq_getElem?_getD,List.getElem?_eq_getElem h]
 rfl
theorem hasL_take {x:List Lb} {id:Int} {i:Nat} (h:i < x.length):hasL (x.take (i+1)) id = (hasL (x.take i) id || (x.getD i dL).1 == id):=by
 unfold hasL
 rw [List.take_add_one,List.any_append,List.getD_eq_getElem?_getD,List.getElem?_eq_getElem h]
 simp
theorem find133 (k:Nat) (x:List Lb) (id:Int) (hx:x.length≤1048576):∀ (m i:Nat),i≤x.length→x.length - i < m→∃ r,f133.l12 k x id m (i:Int)=some r∧decide (r ≥ 0)=hasL (x.drop i) id
 | 0,i,_,h => by omega
 | m+1,i,hi,h => by
   rw [f133.l12]
   by_cases hlt:i < x.length
   ·rw [if_t (by simpa using hlt),if_t ⟨by omega,by omega⟩,hasL_drop hlt,Int.toNat_natCast]
    cases hb:((x.getD i dL).1 == id) with
    | true => rw [if_t rfl]; exact ⟨_,rfl,by simp⟩
    | false =>
      rw [if_f (by simp),wrap_s (by omega),Bool.false_or]
      exact find133 k x id hx m (i+1) (by omega) (by omega)
   ·rw [if_f (by simpa using hlt),List.drop_eq_nil_of_le (by omega)]
    exact ⟨_,rfl,by simp [hasL]⟩
def okL (x:List Lb) (i:Nat):Bool:=lOk (x.getD i dL) && !hasL (x.take i) (x.getD i dL).1
def labelsOk (x:List Lb):Bool:=decide (x.length≤500) && allTo (okL x) x.length
theorem gt_lit (a c:Nat) (C:Int) (h:C = (c:Int)):decide ((a:Int) > C)=!decide (a≤c):=by
 subst h; rw [← decide_not]; congr 1; apply propext; omega
theorem spec69 (k:Nat) (hk:1048576 < k) (x:List Lb) (hx:x.length≤1048576):f69 k x=some (labelsOk x):=by
 have q:=allLoop (L:=f69.l48 k x) (n:=x.length) (p:=okL x) (fin:=some true) (fun m i hi => by
  rw [f69.l48,if_t (by simpa using hi),if_t ⟨by omega,by omega⟩,wrap_s (by omega),e132,Option.bind_some]
  rw [if_t (fun _ => ⟨trivial,by omega,by omega,by simp; omega⟩),if_t (fun _ => ⟨by omega,by omega⟩)]
  obtain ⟨r,h1,h2⟩:=find133 k (List.drop 0 (List.take (Int.toNat (i:Int)) x)) (List.getD x (Int.toNat (i:Int)) dL).1 (by simp; omega) k 0 (by omega) (by simp; omega)
  have h1':f133 k (List.drop 0 (List.take (Int.toNat (i:Int)) x)) (List.getD x (Int.toNat (i:Int)) dL).1=some r:=h1
  rw [h1']
  have hr:x.getD i dL=List.getD x (Int.toNat (i:Int)) dL:=by rw [Int.toNat_natCast]
  unfold okL
  rw [hr]
  clear h1 h1' hr
  generalize List.getD x (Int.toNat (i:Int)) dL=e at h2 ⊢
  simp only [List.drop_zero,Int.toNat_natCast] at h2
  cases hA:lOk e
  ·simp
  ·simp only [Bool.not_true,if_true,Option.bind_some,h2,cond_false,Bool.true_and]
   cases hasL (x.take i) e.1 <;> simp) (fun m => by rw [f69.l48,if_f (by simp)]) (show x.length < k by omega)
 unfold f69 labelsOk
 have b1:=gt_lit x.length 500 500 rfl
 simp only [q,b1]
 cases decide (x.length≤500) <;> cases allTo (okL x) x.length <;> rfl
theorem impl32 (k:Nat) (hk:1048576 < k) (x:List Lb) (hx:x.length≤1048576):f32 k x=some (labelsOk x):=by
 have q:=allLoopS (L:=f32.l28 k x) (n:=x.length) (p:=okL x) (fin:=some true) (Inv:=fun i m => ∀ id,mget (Sh.beq (.int .i64)) (some m) id false=hasL (x.take i) id) (fun m i s hi hs => by
  refine ⟨mput (Sh.beq (.int .i64)) (x.getD i dL).1 true s,fun _ id => ?_,?_⟩
  ·rw [mget_put (beq_int _),hs id,hasL_take hi]
   have:Sh.beq (.int .i64) id (x.getD i dL).1 = ((x.getD i dL).1 == id):=by
    simp only [Sh.beq]
    by_cases e:id = (x.getD i dL).1
    ·simp [e]
    ·have e':¬ (x.getD i dL).1=id:=fun h => e h.symm
     rw [beq_eq_false_iff_ne.2 e,beq_eq_false_iff_ne.2 e']
   rw [this]
   cases ((x.getD i dL).1 == id) <;> simp
  ·rw [f32.l28,if_t (by simpa using hi),if_t ⟨by omega,by omega⟩,wrap_s (by omega),e81,Option.bind_some]
   rw [hs]
   unfold okL
   simp only [Int.toNat_natCast]
   generalize lOk (x.getD i dL)=A
   generalize hasL (x.take i) (x.getD i dL).1=B
   cases A <;> cases B <;> simp) (fun m s _ => by rw [f32.l28,if_f (by simp)]) k 0 ([]:List (Int × Bool)) (fun id => by simp [mget_nil,hasL]) (by omega) (by omega)
 unfold f32 labelsOk
 have b1:=gt_lit x.length 500 500 rfl
 have q':f32.l28 k x k (([]:(List (Int × Bool))),(0:Int))=_:=q
 simp only [q',b1,Nat.sub_zero]
 change _=some (decide (x.length≤500) && allFrom (okL x) 0 x.length)
 cases decide (x.length≤500) <;> cases allFrom (okL x) 0 x.length <;> rfl
def hasI (ids:List Int) (id:Int):Bool:=ids.any fun x => x == id
theorem hasI_drop {ids:List Int} {id:Int} {i:Nat} (h:i < ids.length):hasI (ids.drop i) id = (ids.getD i 0 == id || hasI (ids.drop (i+1)) id):=by
 unfold hasI
 rw [List.drop_eq_getElem_cons h,List.any_cons,List.getD_eq_getElem?_getD,List.getElem?_eq_getElem h]
 rfl
theorem hasI_take {ids:List Int} {id:Int} {i:Nat} (h:i < ids.length):hasI (ids.take (i+1)) id = (hasI (ids.take i) id || ids.getD i 0 == id):=by
 unfold hasI
 rw [List.take_add_one,List.any_append,List.getD_eq_getElem?_getD,List.getElem?_eq_getElem h]
 simp
theorem find174 (k:Nat) (ids:List Int) (id:Int) (hx:ids.length≤1048576):∀ (m i:Nat),i≤ids.length→ids.length - i < m→f174.l12 k ids id m (i:Int)=some (hasI (ids.drop i) id)
 | 0,i,_,h => by omega
 | m+1,i,hi,h => by
   rw [f174.l12]
   by_cases hlt:i < ids.length
   ·rw [if_t (by simpa using hlt),if_t ⟨by omega,by omega⟩,hasI_drop hlt,Int.toNat_natCast]
    cases hb:(ids.getD i 0 == id) with
    | true => rw [if_t rfl]; rfl
    | false =>
      rw [if_f (by simp),wrap_s (by omega),Bool.false_or]
      exact find174 k ids id hx m (i+1) (by omega) (by omega)
   ·rw [if_f (by simpa using hlt),List.drop_eq_nil_of_le (by omega)]
    rfl
theorem e174 (k:Nat) (hk:1048576 < k) (ids:List Int) (hx:ids.length≤1048576) (id:Int):f174 k ids id=some (hasI ids id) :=
 find174 k ids id hx k 0 (by omega) (by omega)
open Go.Sort (SWO)
def ltW (w:Lb→Int) (x y:Lb):Bool:=if w x≠w y then decide (w x > w y) else decide (x.1 < y.1)
theorem swoW (w:Lb→Int):SWO (ltW w) where
 irrefl x:=by simp [ltW]
 trans x y z h1 h2:=by
  unfold ltW at *
  split at h1 <;> split at h2 <;> split <;> simp_all <;> omega
 ntrans x y z h1 h2:=by
  unfold ltW at *
  split at h1 <;> split at h2 <;> split <;> simp_all <;> omega
theorem totW (w:Lb→Int) {x y:Lb} (h:x.1≠y.1) (h1:ltW w x y=false):ltW w y x=true:=by
 unfold ltW at *
 split at h1 <;> split <;> simp_all <;> omega
theorem asyW (w:Lb→Int) {x y:Lb} (h1:ltW w x y=true):ltW w y x=false:=by
 unfold ltW at *
 split at h1 <;> split <;> simp_all <;> omega
def wtM (c0:Option (List (Int × Bool))) (l:Lb):Int:=if mget (Sh.beq (.int .i64)) c0 l.1 false=true then IntKind.i64.wrap (l.2.2.2.2+50) else l.2.2.2.2
theorem e72 (k:Nat) (l:Lb) (c0:Option (List (Int × Bool))):f72 k l c0=some (wtM c0 l):=by
 unfold f72 wtM
 split <;> rfl
theorem e74 (k:Nat) (c0:Option (List (Int × Bool))) (ys:List Lb) (i j:Nat) (hi:i < ys.length) (hj:j < ys.length):f74 k (i:Int) (j:Int) c0 ys=some (ltW (wtM c0) (ys.getD i dL) (ys.getD j dL)):=by
 unfold f74 ltW
 have key:∀ a b:Lb,(if (wtM c0 a != wtM c0 b)=true then some (decide (wtM c0 a > wtM c0 b)) else some (decide (a.1 < b.1)))=some (if wtM c0 a≠wtM c0 b then decide (wtM c0 a > wtM c0 b) else decide (a.1 < b.1)):=fun a b => by
  by_cases h:wtM c0 a=wtM c0 b
  ·rw [if_f (by simp [h]),if_f (by simp [h])]
  ·rw [if_t (by simp [h]),if_t h]
 have b1:(0:Int) ≤ (i:Int) ∧ (i:Int) < (ys.length:Int):=⟨by omega,by omega⟩
 have b2:(0:Int) ≤ (j:Int) ∧ (j:Int) < (ys.length:Int):=⟨by omega,by omega⟩
 simp only [if_t b1,if_t b2,e72,Option.bind_some,Int.toNat_natCast]
 exact key _ _
theorem less_mk {α:Type} {d:α} {f:List α→Int→Int→Option Bool} {L:α→α→Bool} (hL:SWO L) (hf:∀ (ys:List α) (i j:Nat),i < ys.length→j < ys.length→f ys (i:Int) (j:Int)=some (L (ys.getD i d) (ys.getD j d))):LessOk d f∧ofLess f=L:=by
 have h:ofLess f=L:=by
  funext a b
  unfold ofLess
  have:=hf [a,b] 0 1 (by simp) (by simp)
  have h2:f [a,b] 0 1=some (L a b):=this
  rw [h2]
  rfl
 exact ⟨⟨by rw [h]; exact hL,fun ys i j hi hj => by rw [h]; exact hf ys i j hi hj⟩,h⟩
theorem h74:H74:=fun k c0 => (less_mk (swoW (wtM c0)) (fun ys i j hi hj => e74 k c0 ys i j hi hj)).1
theorem o74 (k:Nat) (c0:Option (List (Int × Bool))):ofLess (fun (ys:List Lb) (i j:Int) => f74 k i j c0 ys)=ltW (wtM c0):=(less_mk (d:=dL) (swoW (wtM c0)) (fun ys i j hi hj => e74 k c0 ys i j hi hj)).2
def ltI (a b:Int):Bool:=decide (a < b)
theorem swoI:SWO ltI where
 irrefl x:=by simp [ltI]
 trans x y z h1 h2:=by simp [ltI] at *; omega
 ntrans x y z h1 h2:=by simp [ltI] at *; omega
theorem e76 (k:Nat) (ys:List Int) (i j:Nat) (hi:i < ys.length) (hj:j < ys.length):f76 k (i:Int) (j:Int) ys=some (ltI (ys.getD i 0) (ys.getD j 0)):=by
 unfold f76
 have b1:(0:Int) ≤ (i:Int) ∧ (i:Int) < (ys.length:Int):=⟨by omega,by omega⟩
 have b2:(0:Int) ≤ (j:Int) ∧ (j:Int) < (ys.length:Int):=⟨by omega,by omega⟩
 simp only [if_t b1,if_t b2,Int.toNat_natCast]
 rfl
theorem h76:H76:=fun k => (less_mk swoI (fun ys i j hi hj => e76 k ys i j hi hj)).1
theorem o76 (k:Nat):ofLess (fun (ys:List Int) (i j:Int) => f76 k i j ys)=ltI:=(less_mk (d:=(0:Int)) swoI (fun ys i j hi hj => e76 k ys i j hi hj)).2
theorem perm_uniq {α:Type} {R:α→α→Prop} (hR:∀ a b,R a b→¬ R b a):∀ {l l':List α},l.Perm l'→l.Pairwise R→l'.Pairwise R→l=l'
 | [],l',h,_,_ => by simpa using h.symm
 | a :: l,[],h,_,_ => by simp at h
 | a :: l,b :: l',h,h1,h2 => by
   have hab:a=b:=by
    have ha:a ∈ b :: l':=h.mem_iff.1 List.mem_cons_self
    have hb:b ∈ a :: l:=h.mem_iff.2 List.mem_cons_self
    rcases List.mem_cons.1 ha with e | ha
    ·exact e
    rcases List.mem_cons.1 hb with e | hb
    ·exact e.symm
    ·exact absurd ((List.pairwise_cons.1 h1).1 b hb) (hR _ _ ((List.pairwise_cons.1 h2).1 a ha))
   subst hab
   rw [perm_uniq hR ((List.perm_cons a).1 h) (List.pairwise_cons.1 h1).2 (List.pairwise_cons.1 h2).2]
def ov (x y:Lb):Bool:=(bif (bif (bif (decide ((x.2.1.1:Int) < (IntKind.i64.wrap (y.2.1.1+y.2.2.1)))) then (decide ((y.2.1.1:Int) < (IntKind.i64.wrap (x.2.1.1+x.2.2.1)))) else false) then (decide ((x.2.1.2:Int) < (IntKind.i64.wrap (y.2.1.2+y.2.2.2.1)))) else false) then (decide ((y.2.1.2:Int) < (IntKind.i64.wrap (x.2.1.2+x.2.2.2.1)))) else false)
theorem eo75 (k:Nat) (x y:Lb):f75 k x y=some (ov x y):=rfl
theorem eo135 (k:Nat) (x y:Lb):f135 k x y=some (ov x y):=rfl
def free (s:List Lb) (l:Lb):Bool:=s.all fun t => !ov l t
def gr1 (s:List Lb) (l:Lb):List Lb:=if free s l then s ++ [l] else s
theorem getD_drop {α:Type} {x:List α} {i:Nat} {d:α} (h:i < x.length):x.drop i=x.getD i d :: x.drop (i+1):=by
 rw [List.drop_eq_getElem_cons h,List.getD_eq_getElem?_getD,List.getElem?_eq_getElem h]; rfl
theorem i705 (k:Nat) (s:List Lb) (m28:List (Int × Bool)) (x0:List Lb) (i:Nat) (q:List Lb→Option (List Int)) (l:Lb) (hl:l=List.getD (sortR pdqR (Sh.dflt sh3) (ofLess (fun (ys:List Lb) (i j:Int) => f74 k i j (some m28) ys)) (([]:List Lb) ++ x0)) i dL) (hs:s.length≤1000):∀ (m j:Nat) (room:Bool),j≤s.length→s.length - j < m →
 f15.l705 k s m28 x0 (i:Int) q m (room,(j:Int))=q (if (room && free (s.drop j) l)=true then s ++ [l] else s)
 | 0,j,room,_,h => by omega
 | m+1,j,room,hj,h => by
   rw [f15.l705]
   have hl':List.getD (sortR pdqR (Sh.dflt sh3) (ofLess (fun (ys:List Lb) (i j:Int) => f74 k i j (some m28) ys)) (([]:List Lb) ++ x0)) (Int.toNat (i:Int)) dL=l:=by rw [Int.toNat_natCast]; exact hl.symm
   by_cases hlt:j < s.length
   ·rw [if_t (by simpa using hlt),if_t ⟨by omega,by omega⟩,wrap_s (by omega),Int.toNat_natCast (n:=j),getD_drop (d:=dL) hlt]
    cases room with
    | false =>
      simp only [Bool.false_eq_true,if_false,Option.bind_some]
      rw [show (bif false then !(default:Bool) else false)=false from rfl,i705 k s m28 x0 i q l hl hs m (j+1) false (by omega) (by omega)]
      simp
    | true =>
      simp only [if_true]
      rw [show List.getD (sortR pdqR (Sh.dflt sh3) (ofLess (fun (ys:List Lb) (i j:Int) => f74 k i j (some m28) ys)) (([]:List Lb) ++ x0)) (Int.toNat (i:Int)) dL=l from hl',eo75,Option.bind_some,cond_true,i705 k s m28 x0 i q l hl hs m (j+1) _ (by omega) (by omega)]
      simp only [free,List.all_cons,Bool.true_and]
      rfl
   ·rw [if_f (by simpa using hlt),List.drop_eq_nil_of_le (by omega)]
    have hlen:(s.length+List.length [l])*48≤140737488355328:=by simp; omega
    cases room with
    | false => simp
    | true =>
      rw [if_t rfl]
      rw [show List.getD (sortR pdqR (Sh.dflt sh3) (ofLess (fun (ys:List Lb) (i j:Int) => f74 k i j (some m28) ys)) (([]:List Lb) ++ x0)) (Int.toNat (i:Int)) dL=l from hl',if_t hlen]
      simp [free]
open Go.Sort (SWO)
def wtB (b:List Int) (l:Lb):Int:=if hasI b l.1=true then IntKind.i64.wrap (l.2.2.2.2+50) else l.2.2.2.2
theorem gr1_len (s:List Lb) (l:Lb):(gr1 s l).length≤s.length+1:=by
 unfold gr1; split <;> simp
theorem grs_len:∀ (O s:List Lb),(O.foldl gr1 s).length≤s.length+O.length
 | [],s => by simp
 | l :: O,s => by
   have h1:=grs_len O (gr1 s l)
   have h2:=gr1_len s l
   simp only [List.foldl_cons,List.length_cons]
   omega
theorem sortR_len {α:Type} {d:α} {L:α→α→Bool} (hL:SWO L) (xs:List α):(sortR pdqR d L xs).length=xs.length:=(sortR_ok hL xs).1.length_eq
theorem i755 (k:Nat) (s:List Lb) (hs:s.length≤1000):∀ (m j:Nat) (acc:List Int),j≤s.length→s.length - j < m→acc.length≤j →
 f15.l755 k s m (acc,(j:Int))=some (sortR pdqR (0:Int) ltI (acc ++ (s.drop j).map (·.1)))
 | 0,j,acc,_,h,_ => by omega
 | m+1,j,acc,hj,h,ha => by
   rw [f15.l755]
   by_cases hlt:j < s.length
   ·rw [if_t (by simpa using hlt),if_t ⟨by omega,by omega⟩,wrap_s (by omega),Int.toNat_natCast,getD_drop (d:=dL) hlt]
    have hl:∀ z:Int,(acc.length+List.length [z])*8≤140737488355328:=fun z => by simp; omega
    rw [if_t (hl _)]
    have:=i755 k s hs m (j+1) (acc ++ [(s.getD j dL).1]) (by omega) (by omega) (by simp; omega)
    refine Eq.trans this ?_
    simp
   ·rw [if_f (by simpa using hlt),List.drop_eq_nil_of_le (by omega),if_t (by omega)]
    simp only [List.map_nil,List.append_nil]
    rw [o76]
    rfl
theorem i383 (k:Nat) (hk:1048576 < k) (m28:List (Int × Bool)) (x0:List Lb) (hx:x0.length≤500) (O:List Lb) (hO:O=sortR pdqR (Sh.dflt sh3) (ofLess (fun (ys:List Lb) (i j:Int) => f74 k i j (some m28) ys)) (([]:List Lb) ++ x0)) (hOl:O.length=x0.length) :
 ∀ (m i:Nat) (s:List Lb),i≤O.length→O.length - i < m→s.length≤i →
 f15.l383 k m28 x0 m (s,(i:Int))=f15.l755 k ((O.drop i).foldl gr1 s) k (([]:List Int),(0:Int))
 | 0,i,s,_,h,_ => by omega
 | m+1,i,s,hi,h,hs => by
   rw [f15.l383]
   have hlen:(List.length (sortR pdqR (Sh.dflt sh3) (ofLess (fun (ys:List Lb) (i j:Int) => f74 k i j (some m28) ys)) (([]:List Lb) ++ x0)):Int) = (O.length:Int):=by rw [hO]
   have key:∀ (c:Int) (A B:Option (List Int)),c = (O.length:Int) → (if decide ((i:Int) < c)=true then (if (0 ≤ (i:Int) ∧ (i:Int) < c) then A else none) else B)=if i < O.length then A else B:=by
    rintro c A B rfl
    by_cases hlt:i < O.length
    ·rw [if_t (by simpa using hlt),if_t ⟨by omega,by omega⟩,if_t hlt]
    ·rw [if_f (by simpa using hlt),if_f hlt]
   refine (key _ _ _ hlen).trans ?_
   by_cases hlt:i < O.length
   ·rw [if_t hlt]
    refine Eq.trans (i705 k s m28 x0 i _ (List.getD O i dL) (by rw [hO]) (by omega) k 0 true (by omega) (by omega)) ?_
    rw [getD_drop (d:=dL) hlt,List.foldl_cons]
    unfold f15.j677
    simp only []
    rw [wrap_s (by omega)]
    have hg:(if (true && free (s.drop 0) (O.getD i dL))=true then s ++ [O.getD i dL] else s)=gr1 s (O.getD i dL):=by
     unfold gr1; simp
    rw [hg]
    have:=gr1_len s (O.getD i dL)
    exact i383 k hk m28 x0 hx O hO hOl m (i+1) (gr1 s (O.getD i dL)) (by omega) (by omega) (by omega)
   ·rw [if_f hlt,List.drop_eq_nil_of_le (by omega)]
    rfl
theorem i17 (k:Nat) (hk:1048576 < k) (x0:List Lb) (hx:x0.length≤500) (x1:List Int) (hx1:x1.length≤500):∀ (m i:Nat) (mp:List (Int × Bool)),i≤x1.length→x1.length - i < m → (∀ id,mget (Sh.beq (.int .i64)) (some mp) id false=hasI (x1.take i) id) →
 f15.l17 k x1 x0 m (mp,(i:Int))=some (sortR pdqR (0:Int) ltI (((sortR pdqR dL (ltW (wtB x1)) x0).foldl gr1 []).map (·.1)))
 | 0,i,mp,_,h,_ => by omega
 | m+1,i,mp,hi,h,hm => by
   rw [f15.l17]
   by_cases hlt:i < x1.length
   ·rw [if_t (by simpa using hlt),if_t ⟨by omega,by omega⟩,wrap_s (by omega),Int.toNat_natCast]
    refine i17 k hk x0 hx x1 hx1 m (i+1) _ (by omega) (by omega) (fun id => ?_)
    rw [mget_put (beq_int _),hm id,hasI_take hlt]
    have:Sh.beq (.int .i64) id (x1.getD i 0) = (x1.getD i 0 == id):=by
     simp only [Sh.beq]
     by_cases e:id=x1.getD i 0
     ·simp [e]
     ·have e':¬ x1.getD i 0=id:=fun h => e h.symm
      rw [beq_eq_false_iff_ne.2 e,beq_eq_false_iff_ne.2 e']
    rw [this]
    cases (x1.getD i 0 == id) <;> simp
   ·have hw:wtM (some mp)=wtB x1:=by
     funext l
     unfold wtM wtB
     rw [hm,List.take_of_length_le (by omega)]
    have hl:(List.length ([]:List Lb)+x0.length)*48≤140737488355328:=by simp; omega
    have hl2:List.length (([]:List Lb) ++ x0) < 2305843009213693952:=by simp; omega
    rw [if_f (by simpa using hlt),if_t hl,if_t hl2]
    obtain ⟨O,hO⟩:∃ O,O=sortR pdqR (Sh.dflt sh3) (ofLess (fun (ys:List Lb) (i j:Int) => f74 k i j (some mp) ys)) (([]:List Lb) ++ x0):=⟨_,rfl⟩
    have hO2:O=sortR pdqR dL (ltW (wtB x1)) x0:=by
     rw [hO,o74,hw]; rfl
    have hOl:O.length=x0.length:=by rw [hO2]; exact sortR_len (swoW _) x0
    have h1:=i383 k hk mp x0 hx O hO hOl k 0 [] (by omega) (by omega) (by simp)
    have h2:f15.l383 k mp x0 k (([]:List Lb),(0:Int))=f15.l755 k ((O.drop 0).foldl gr1 []) k (([]:List Int),(0:Int)):=h1
    refine Eq.trans h2 ?_
    have hgl:=grs_len O []
    simp only [List.length_nil,Nat.zero_add] at hgl
    have h3:=i755 k (O.foldl gr1 []) (by omega) k 0 [] (by omega) (by omega) (by simp)
    rw [List.drop_zero]
    refine Eq.trans h3 ?_
    rw [List.nil_append,List.drop_zero,hO2]
theorem f15_eq (k:Nat) (hk:1048576 < k) (x0:List Lb) (hx:x0.length≤1048576) (x1:List Int):f15 k x0 x1=if (!labelsOk x0 || decide (x1.length > 500))=true then some [] else some (sortR pdqR (0:Int) ltI (((sortR pdqR dL (ltW (wtB x1)) x0).foldl gr1 []).map (·.1))):=by
 unfold f15
 rw [impl32 k hk x0 hx,Option.bind_some]
 by_cases hok:labelsOk x0=true
 ·rw [hok]
  simp only [Bool.not_true,cond_false,Bool.false_or]
  by_cases h1:x1.length > 500
  ·rw [if_t (by simp; omega),if_t (by simpa using h1)]
  ·rw [if_f (by simp; omega),if_f (by simpa using h1)]
   have hx5:x0.length≤500:=by
    unfold labelsOk at hok
    simp only [Bool.and_eq_true,decide_eq_true_eq] at hok
    exact hok.1
   exact i17 k hk x0 hx5 x1 (by omega) k 0 [] (by omega) (by omega) (fun id => by simp [mget_nil,hasI])
 ·have:labelsOk x0=false:=by simpa using hok
  rw [this]
  simp
def addI:List Int→Int→List Int
 | [],x => [x]
 | y :: l,x => if y < x then y :: addI l x else if y=x then y :: l else x :: y :: l
theorem addI_perm:∀ {l:List Int} {x:Int},x ∉ l → (addI l x).Perm (x :: l)
 | [],x,_ => List.Perm.refl _
 | y :: l,x,h => by
   have h1:¬ y=x:=fun e => h (by rw [e]; exact List.mem_cons_self)
   have h2:x ∉ l:=fun e => h (List.mem_cons_of_mem _ e)
   rw [addI]
   split
   ·exact ((addI_perm h2).cons y).trans (List.Perm.swap x y l)
   ·simp [h1]
theorem addI_sort:∀ {l:List Int} {x:Int},x ∉ l→l.Pairwise (· < ·) → (addI l x).Pairwise (· < ·)
 | [],x,_,_ => by simp [addI]
 | y :: l,x,h,hs => by
   have h1:¬ y=x:=fun e => h (by rw [e]; exact List.mem_cons_self)
   have h2:x ∉ l:=fun e => h (List.mem_cons_of_mem _ e)
   obtain ⟨p1,p2⟩:=List.pairwise_cons.1 hs
   rw [addI]
   split
   ·rename_i hyx
    refine List.pairwise_cons.2 ⟨fun z hz => ?_,addI_sort h2 p2⟩
    rcases List.mem_cons.1 ((addI_perm h2).mem_iff.1 hz) with rfl | hz
    ·exact hyx
    ·exact p1 z hz
   ·rename_i hyx
    refine List.pairwise_cons.2 ⟨fun z hz => ?_,hs⟩
    rcases List.mem_cons.1 hz with rfl | hz
    ·omega
    ·have:=p1 z hz; omega
theorem addI_len:∀ (l:List Int) (x:Int),(addI l x).length≤l.length+1
 | [],x => by simp [addI]
 | y :: l,x => by
   have:=addI_len l x
   rw [addI]
   split
   ·simp; omega
   ·split <;> simp
theorem s136 (k:Nat) (l:List Int) (x:Int) (hl:l.length≤1000):∀ (m j:Nat),j≤l.length→l.length - j < m→f136.l9 k l x m (j:Int)=some (l.take j ++ addI (l.drop j) x)
 | 0,j,_,h => by omega
 | m+1,j,hj,h => by
   rw [f136.l9]
   by_cases hlt:j < l.length
   ·have c1:(0:Int) ≤ (j:Int) ∧ (j:Int) < (l.length:Int):=⟨by omega,by omega⟩
    have d1:decide ((j:Int) < (l.length:Int))=true:=by simpa using hlt
    rw [d1,if_t (fun _ => c1),if_t (fun _ => c1)]
    simp only [cond_true,Int.toNat_natCast]
    rw [getD_drop (d:=(0:Int)) hlt]
    have tk:l.take (j+1)=l.take j ++ [l.getD j 0]:=by
     rw [List.take_add_one,List.getD_eq_getElem?_getD,List.getElem?_eq_getElem hlt]; rfl
    by_cases h1:List.getD l j (0:Int) < x
    ·rw [if_t (by simpa using h1),wrap_s (by omega),s136 k l x hl m (j+1) (by omega) (by omega),addI,if_pos h1,tk]
     simp
    ·rw [if_f (by simpa using h1),addI,if_neg h1]
     by_cases h2:List.getD l j (0:Int)=x
     ·rw [if_t (beq_iff_eq.2 h2),if_pos h2]
      congr 1
      rw [← getD_drop hlt,List.take_append_drop]
     ·rw [if_f (fun e => h2 (eq_of_beq e)),if_neg h2]
      have e1:List.drop 0 (List.take j l)=List.take j l:=rfl
      have e2:List.drop j (List.take l.length l)=List.drop j l:=by rw [List.take_length]
      rw [if_t ⟨trivial,by omega,by omega,by omega⟩,if_t (by simp; omega),if_t (by simp; omega),if_t ⟨by omega,trivial,by omega,by omega⟩,e1,e2,if_t (by simp; omega),getD_drop (d:=(0:Int)) hlt]
      simp
   ·have d1:decide ((j:Int) < (l.length:Int))=false:=by simpa using hlt
    have hjl:j=l.length:=by omega
    rw [d1,if_t (by simp),if_f (by simp),if_t (by simp),if_f (by simp)]
    simp only [Int.toNat_natCast]
    have e1:List.drop 0 (List.take j l)=List.take j l:=rfl
    have e2:List.drop j (List.take l.length l)=[]:=by rw [List.take_length,List.drop_eq_nil_of_le (by omega)]
    rw [if_t ⟨trivial,by omega,by omega,by omega⟩,if_t (by simp; omega),if_t (by simp; omega),if_t ⟨by omega,trivial,by omega,by omega⟩,e1,e2,if_t (by simp; omega),List.drop_eq_nil_of_le (by omega)]
    simp [addI]
theorem e136 (k:Nat) (hk:1048576 < k) (l:List Int) (x:Int) (hl:l.length≤1000):f136 k l x=some (addI l x):=by
 have:=s136 k l x hl k 0 (by omega) (by omega)
 simpa [f136] using this
theorem e134 (k:Nat) (hk:1048576 < k) (l:Lb) (b:List Int) (hb:b.length≤1048576):f134 k l b=some (wtB b l):=by
 unfold f134 wtB
 rw [e174 k hk b hb,Option.bind_some]
 split <;> rfl
abbrev ci (is:List Nat):List Int:=is.map fun (n:Nat) => (n:Int)
theorem ci_get (is:List Nat) (n:Nat):List.getD (ci is) n (0:Int) = ((is.getD n 0:Nat):Int):=by
 unfold ci
 simp only [List.getD_eq_getElem?_getD,List.getElem?_map]
 cases is[n]? <;> rfl
def insPos (P:Nat→Bool):Nat→Nat
 | 0 => 0
 | n+1 => if P n then n+1 else insPos P n
theorem insPos_ok (P:Nat→Bool):∀ n,insPos P n≤n ∧ (∀ q,insPos P n≤q→q < n→P q=false) ∧ (0 < insPos P n→P (insPos P n - 1)=true)
 | 0 => ⟨Nat.le_refl _,fun q _ h => by omega,fun h => by simp [insPos] at h⟩
 | n+1 => by
   obtain ⟨h1,h2,h3⟩:=insPos_ok P n
   rw [insPos]
   split
   ·rename_i h
    exact ⟨Nat.le_refl _,fun q h1 h2 => by omega,fun _ => h⟩
   ·rename_i h
    refine ⟨by omega,fun q hq1 hq2 => ?_,h3⟩
    by_cases e:q=n
    ·subst e; simpa using h
    ·exact h2 q hq1 (by omega)
theorem s770 (k:Nat) (hk:1048576 < k) (x0:List Lb) (b:List Int) (hb:b.length≤1048576) (is:List Nat) (his:∀ p ∈ is,p < x0.length) (hl:is.length≤1000) (i:Nat) (hi:i < x0.length) (q:Int→Option (List Int)):∀ (n m:Nat),n≤is.length→n < m →
 f70.l770 k (ci is) x0 b (i:Int) q m (n:Int)=q ((insPos (fun p => ltW (wtB b) (x0.getD (is.getD p 0) dL) (x0.getD i dL)) n:Nat):Int)
 | n,0,_,h => by omega
 | 0,m+1,_,_ => by
   rw [f70.l770,if_f (by simp)]
   rfl
 | n+1,m+1,hn,h => by
   rw [f70.l770]
   have d1:decide (((n+1:Nat):Int) > (0:Int))=true:=decide_eq_true (by omega)
   have w1:IntKind.i64.wrap (((n+1:Nat):Int) - 1) = (n:Int):=wrap_p n (by omega)
   rw [if_t d1,w1,Int.toNat_natCast,ci_get,Int.toNat_natCast,Int.toNat_natCast]
   have hp:is.getD n 0 < x0.length:=by
    rw [List.getD_eq_getElem?_getD,List.getElem?_eq_getElem (by omega)]
    exact his _ (List.getElem_mem _)
   have c1:(0:Int) ≤ (n:Int) ∧ (n:Int) < ((ci is).length:Int):=⟨by omega,by simp [ci]; omega⟩
   have c2:(0:Int) ≤ ((is.getD n 0:Nat):Int) ∧ ((is.getD n 0:Nat):Int) < (x0.length:Int):=⟨by omega,by omega⟩
   have c3:(0:Int) ≤ (i:Int) ∧ (i:Int) < (x0.length:Int):=⟨by omega,by omega⟩
   rw [if_t c1,if_t c2,e134 k hk _ b hb,Option.bind_some,if_t c3,e134 k hk _ b hb,Option.bind_some,if_t (fun _ => c3),insPos]
   have key:∀ x y:Lb,(bif (decide (wtB b x > wtB b y)) then true else (bif (wtB b x == wtB b y) then (decide ((x.1:Int) < y.1)) else false))=ltW (wtB b) x y:=by
    intro x y
    unfold ltW
    by_cases h1:wtB b x > wtB b y
    ·have:wtB b x≠wtB b y:=by omega
     simp [h1,this]
    ·by_cases h2:wtB b x=wtB b y
     ·simp [h2]
     ·simp [h1,h2]
   rw [show (bif (decide (wtB b (x0.getD (is.getD n 0) dL) > wtB b (x0.getD i dL))) then true else (bif (wtB b (x0.getD (is.getD n 0) dL) == wtB b (x0.getD i dL)) then (decide ((x0.getD (is.getD n 0) dL).1 < (x0.getD i dL).1)) else false))=ltW (wtB b) (x0.getD (is.getD n 0) dL) (x0.getD i dL) from key _ _]
   by_cases hh:ltW (wtB b) (x0.getD (is.getD n 0) dL) (x0.getD i dL)=true
   ·rw [if_t hh,if_t hh]
   ·rw [if_f hh,if_f hh]
    exact s770 k hk x0 b hb is his hl i hi q n m (by omega) (by omega)
open Go.Sort (SWO)
theorem s764 (k:Nat) (is:List Nat) (hl:is.length≤1000) (i:Nat) (q:((List Int) × Int)→Option (List Int)) (a:Nat) (ha:a≤is.length) (hi:i≤1000):f70.j764 k (ci is) (i:Int) q (a:Int)=q (ci (is.take a ++ i :: is.drop a),((i+1:Nat):Int)):=by
 unfold f70.j764
 simp only [Int.toNat_natCast]
 have hcl:(ci is).length=is.length:=by simp [ci]
 have e1:List.drop 0 (List.take a (ci is))=ci (is.take a):=by simp [ci,List.map_take]
 have e2:List.drop a (List.take (ci is).length (ci is))=ci (is.drop a):=by rw [List.take_length]; simp [ci,List.map_drop]
 rw [e1,e2,wrap_s (by omega)]
 rw [if_t ⟨trivial,by omega,by omega,by omega⟩,if_t (by simp [ci]; omega),if_t (by simp [ci]; omega),if_t ⟨by omega,trivial,by omega,by omega⟩,if_t (by simp [ci]; omega)]
 congr 2
 simp [ci]
theorem ins_pair {L:Lb→Lb→Bool} (hL:SWO L) (tot:∀ x y:Lb,x.1≠y.1→L x y=false→L y x=true) {lab:Nat→Lb} {is:List Nat} {i a:Nat} (ha:a≤is.length) (hp:(is.map lab).Pairwise fun x y => L x y=true) (hd:∀ p ∈ is,(lab p).1 ≠ (lab i).1)
 (h2:∀ q,a≤q→q < is.length→L (lab (is.getD q 0)) (lab i)=false) (h3:0 < a→L (lab (is.getD (a - 1) 0)) (lab i)=true):((is.take a ++ i :: is.drop a).map lab).Pairwise fun x y => L x y=true:=by
 have gd:∀ q (h:q < is.length),is.getD q 0=is[q]:=fun q h => by rw [List.getD_eq_getElem?_getD,List.getElem?_eq_getElem h]; rfl
 have hp':∀ p q (h1:p < is.length) (h2:q < is.length),p < q→L (lab is[p]) (lab is[q])=true:=fun p q h1 h2 hpq => by
  have:=List.pairwise_iff_getElem.1 hp p q (by simpa using h1) (by simpa using h2) hpq
  simpa using this
 have h0:(is.take a ++ is.drop a).map lab=is.map lab:=by rw [List.take_append_drop]
 rw [List.map_append,List.map_cons]
 rw [List.map_append] at h0
 rw [← h0] at hp
 obtain ⟨q1,q2,q3⟩:=List.pairwise_append.1 hp
 have left:∀ x ∈ (is.take a).map lab,L x (lab i)=true:=by
  intro x hx
  obtain ⟨p,hp,rfl⟩:=List.mem_map.1 hx
  obtain ⟨n,hn,rfl⟩:=List.mem_iff_getElem.1 hp
  rw [List.length_take] at hn
  rw [List.getElem_take]
  have h4:=h3 (by omega)
  rw [gd _ (by omega)] at h4
  by_cases e:n=a - 1
  ·subst e; exact h4
  ·exact hL.trans _ _ _ (hp' n (a - 1) (by omega) (by omega) (by omega)) h4
 have right:∀ y ∈ (is.drop a).map lab,L (lab i) y=true:=by
  intro y hy
  obtain ⟨p,hp,rfl⟩:=List.mem_map.1 hy
  obtain ⟨n,hn,rfl⟩:=List.mem_iff_getElem.1 hp
  rw [List.length_drop] at hn
  rw [List.getElem_drop]
  have h4:=h2 (a+n) (by omega) (by omega)
  rw [gd _ (by omega)] at h4
  exact tot _ _ (hd _ (List.getElem_mem _)) h4
 refine List.pairwise_append.2 ⟨q1,List.pairwise_cons.2 ⟨right,q2⟩,fun x hx y hy => ?_⟩
 rcases List.mem_cons.1 hy with rfl | hy
 ·exact left x hx
 ·exact q3 x hx y hy
theorem s400 (k:Nat) (hk:1048576 < k) (x0:List Lb) (hx:x0.length≤500) (b:List Int) (hb:b.length≤1048576) (hd:∀ p q,p < x0.length→q < x0.length→p≠q → (x0.getD p dL).1 ≠ (x0.getD q dL).1):∀ (m i:Nat) (is:List Nat),i≤x0.length→x0.length - i < m→is.Perm (List.range i) → (is.map fun n => x0.getD n dL).Pairwise (fun x y => ltW (wtB b) x y=true) →
 ∃ js:List Nat,js.Perm (List.range x0.length) ∧ (js.map fun n => x0.getD n dL).Pairwise (fun x y => ltW (wtB b) x y=true)∧f70.l400 k x0 b m (ci is,(i:Int))=f70.l1175 k (ci js) x0 k (([]:List Lb),([]:List Int),(0:Int))
 | 0,i,is,_,h,_,_ => by omega
 | m+1,i,is,hi,h,hp,hs => by
   rw [f70.l400]
   have hil:is.length=i:=by rw [hp.length_eq]; simp
   by_cases hlt:i < x0.length
   ·have hmem:∀ p ∈ is,p < i:=fun p hp' => List.mem_range.1 (hp.mem_iff.1 hp')
    have d1:decide ((i:Int) < (x0.length:Int))=true:=by simpa using hlt
    have hcl:((ci is).length:Int) = ((is.length:Nat):Int):=by simp [ci]
    rw [if_t d1,hcl,s770 k hk x0 b hb is (fun p hp' => by have:=hmem p hp'; omega) (by omega) i hlt _ is.length k (Nat.le_refl _) (by omega)]
    obtain ⟨a1,a2,a3⟩:=insPos_ok (fun p => ltW (wtB b) (x0.getD (is.getD p 0) dL) (x0.getD i dL)) is.length
    generalize insPos (fun p => ltW (wtB b) (x0.getD (is.getD p 0) dL) (x0.getD i dL)) is.length=a at a1 a2 a3
    rw [s764 k is (by omega) i _ a a1 (by omega)]
    refine s400 k hk x0 hx b hb hd m (i+1) _ (by omega) (by omega) ?_ ?_
    ·have h1:(is.take a ++ i :: is.drop a).Perm (i :: is):=by
      have:=List.perm_middle (a:=i) (l₁:=is.take a) (l₂:=is.drop a)
      rwa [List.take_append_drop] at this
     refine (h1.trans (hp.cons i)).trans ?_
     rw [List.range_succ]
     exact (List.perm_append_singleton i (List.range i)).symm
    ·exact ins_pair (swoW _) (fun x y => totW (wtB b)) (lab:=fun n => x0.getD n dL) a1 hs (fun p hp' => hd p i (by have:=hmem p hp'; omega) hlt (by have:=hmem p hp'; omega)) a2 a3
   ·have d1:¬ decide ((i:Int) < (x0.length:Int))=true:=by simpa using hlt
    have:i=x0.length:=by omega
    subst this
    exact ⟨is,hp,hs,by rw [if_f d1]⟩
def stp (s:List Lb × List Int) (l:Lb):List Lb × List Int:=if free s.1 l then (s.1 ++ [l],addI s.2 l.1) else s
theorem s1519 (k:Nat) (hk:1048576 < k) (s:List Lb) (x0:List Lb) (is:List Nat) (i:Nat) (out:List Int) (q:(List Lb × List Int)→Option (List Int)) (l:Lb) (hl:l=x0.getD (is.getD i 0) dL) (hs:s.length≤1000) (ho:out.length≤1000):∀ (m j:Nat) (fr:Bool),j≤s.length→s.length - j < m →
 f70.l1519 k s x0 (ci is) (i:Int) out q m (fr,(j:Int))=q (if (fr && free (s.drop j) l)=true then (s ++ [l],addI out l.1) else (s,out))
 | 0,j,fr,_,h => by omega
 | m+1,j,fr,hj,h => by
   rw [f70.l1519]
   have hl':List.getD x0 (Int.toNat (List.getD (ci is) (Int.toNat (i:Int)) (0:Int))) dL=l:=by rw [Int.toNat_natCast,ci_get,Int.toNat_natCast]; exact hl.symm
   have fin:(if fr=true then (if ((List.length s+List.length [l])*48≤140737488355328) then ((f136 k out l.1).bind fun r1546 => (q ((s ++ [l]),r1546))) else none) else (q (s,out)))=q (if fr=true then (s ++ [l],addI out l.1) else (s,out)):=by
    cases fr with
    | false => rfl
    | true =>
      rw [if_t rfl,if_t rfl,if_t (by simp; omega),e136 k hk out l.1 ho]
      rfl
   by_cases hlt:j < s.length
   ·have d1:decide ((j:Int) < (s.length:Int))=true:=by simpa using hlt
    rw [d1]
    simp only [cond_true]
    cases fr with
    | true =>
      rw [if_t rfl,if_t ⟨by omega,by omega⟩,wrap_s (by omega),Int.toNat_natCast (n:=j),getD_drop (d:=dL) hlt]
      rw [show List.getD x0 (Int.toNat (List.getD (ci is) (Int.toNat (i:Int)) (0:Int))) dL=l from hl',eo135,Option.bind_some,s1519 k hk s x0 is i out q l hl hs ho m (j+1) _ (by omega) (by omega)]
      simp only [free,List.all_cons,Bool.true_and]
      rfl
    | false =>
      rw [if_f (by simp)]
      simp
   ·have d1:decide ((j:Int) < (s.length:Int))=false:=by simpa using hlt
    rw [d1,if_f (by simp),List.drop_eq_nil_of_le (by omega)]
    rw [show List.getD x0 (Int.toNat (List.getD (ci is) (Int.toNat (i:Int)) (0:Int))) dL=l from hl',fin]
    simp [free]
theorem stp_len (s:List Lb × List Int) (l:Lb):(stp s l).1.length≤s.1.length+1 ∧ (stp s l).2.length≤s.2.length+1:=by
 unfold stp
 have:=addI_len s.2 l.1
 split
 ·simp; omega
 ·simp
theorem s1175 (k:Nat) (hk:1048576 < k) (x0:List Lb) (hx:x0.length≤500) (is:List Nat) (his:∀ p ∈ is,p < x0.length) (hl:is.length≤500):∀ (m i:Nat) (s:List Lb × List Int),i≤is.length→is.length - i < m→s.1.length≤i→s.2.length≤i →
 f70.l1175 k (ci is) x0 m (s.1,s.2,(i:Int))=some (((is.drop i).map fun n => x0.getD n dL).foldl stp s).2
 | 0,i,s,_,h,_,_ => by omega
 | m+1,i,s,hi,h,h1,h2 => by
   rw [f70.l1175]
   have hcl:((ci is).length:Int) = ((is.length:Nat):Int):=by simp [ci]
   rw [hcl]
   by_cases hlt:i < is.length
   ·have hp:is.getD i 0 < x0.length:=by
     rw [List.getD_eq_getElem?_getD,List.getElem?_eq_getElem hlt]
     exact his _ (List.getElem_mem _)
    rw [if_t (by simpa using hlt),if_t ⟨by omega,by omega⟩]
    have e1:List.getD (ci is) (Int.toNat (i:Int)) (0:Int) = ((is.getD i 0:Nat):Int):=by rw [Int.toNat_natCast,ci_get]
    rw [e1,if_t ⟨by omega,by omega⟩]
    refine Eq.trans (s1519 k hk s.1 x0 is i s.2 _ (x0.getD (is.getD i 0) dL) rfl (by omega) (by omega) k 0 true (by omega) (by omega)) ?_
    rw [getD_drop (d:=0) hlt,List.map_cons,List.foldl_cons]
    have hst:(if (true && free (s.1.drop 0) (x0.getD (is.getD i 0) dL))=true then (s.1 ++ [x0.getD (is.getD i 0) dL],addI s.2 (x0.getD (is.getD i 0) dL).1) else (s.1,s.2))=stp s (x0.getD (is.getD i 0) dL):=by
     unfold stp; simp
    rw [hst]
    unfold f70.j1491
    simp only []
    rw [wrap_s (by omega)]
    have hsl:=stp_len s (x0.getD (is.getD i 0) dL)
    exact s1175 k hk x0 hx is his hl m (i+1) (stp s (x0.getD (is.getD i 0) dL)) (by omega) (by omega) (by omega) (by omega)
   ·rw [if_f (by simpa using hlt),List.drop_eq_nil_of_le (by omega)]
    rfl
open Go.Sort (SWO)
theorem stp_fold:∀ (O:List Lb) (s:List Lb × List Int),s.2.Perm (s.1.map (·.1))→s.2.Pairwise (· < ·) → ((s.1 ++ O).map (·.1)).Nodup →
 (O.foldl stp s).1=O.foldl gr1 s.1 ∧ (O.foldl stp s).2.Perm ((O.foldl gr1 s.1).map (·.1)) ∧ (O.foldl stp s).2.Pairwise (· < ·)
 | [],s,h1,h2,_ => ⟨rfl,h1,h2⟩
 | l :: O,s,h1,h2,h3 => by
   simp only [List.foldl_cons]
   by_cases hf:free s.1 l=true
   ·have e1:stp s l = (s.1 ++ [l],addI s.2 l.1):=by unfold stp; rw [if_pos hf]
    have e2:gr1 s.1 l=s.1 ++ [l]:=by unfold gr1; rw [if_pos hf]
    have hn:l.1 ∉ s.2:=fun hm => by
     have h4:=h1.mem_iff.1 hm
     rw [List.map_append,List.map_cons] at h3
     have:=(List.nodup_append.1 h3).2.2 l.1 h4 l.1 List.mem_cons_self
     exact this rfl
    rw [e1,e2]
    refine stp_fold O _ ?_ (addI_sort hn h2) ?_
    ·refine (addI_perm hn).trans ?_
     rw [List.map_append,List.map_cons,List.map_nil]
     exact (h1.cons l.1).trans (List.perm_append_singleton l.1 _).symm
    ·simpa using h3
   ·have e1:stp s l=s:=by unfold stp; rw [if_neg hf]
    have e2:gr1 s.1 l=s.1:=by unfold gr1; rw [if_neg hf]
    rw [e1,e2]
    refine stp_fold O s h1 h2 (h3.sublist ?_)
    exact List.Sublist.map _ ((List.Sublist.refl s.1).append (List.sublist_cons_self l O))
theorem gr_sub:∀ (O s:List Lb),∃ t,t.Sublist O∧O.foldl gr1 s=s ++ t
 | [],s => ⟨[],List.Sublist.refl _,by simp⟩
 | l :: O,s => by
   simp only [List.foldl_cons]
   obtain ⟨t,h1,h2⟩:=gr_sub O (gr1 s l)
   unfold gr1 at h2 ⊢
   split at h2
   ·rename_i hf
    rw [if_pos hf]
    exact ⟨l :: t,h1.cons_cons l,by rw [h2]; simp⟩
   ·rename_i hf
    rw [if_neg hf]
    exact ⟨t,h1.cons l,h2⟩
theorem ids_of {x:List Lb} (h:labelsOk x=true):∀ p q,p < x.length→q < x.length→p≠q → (x.getD p dL).1 ≠ (x.getD q dL).1:=by
 unfold labelsOk at h
 simp only [Bool.and_eq_true] at h
 have h2:=allTo_iff.1 h.2
 have key:∀ p q,p < q→q < x.length → (x.getD p dL).1 ≠ (x.getD q dL).1:=by
  intro p q hpq hq e
  have:=h2 q hq
  unfold okL at this
  simp only [Bool.and_eq_true,Bool.not_eq_true'] at this
  have h3:=this.2
  unfold hasL at h3
  rw [List.any_eq_false] at h3
  have hm:x.getD p dL ∈ x.take q:=by
   rw [List.getD_eq_getElem?_getD,List.getElem?_eq_getElem (by omega)]
   exact List.mem_take_iff_getElem.2 ⟨p,by omega,rfl⟩
  exact h3 _ hm (by simpa using e)
 intro p q hp hq hne
 rcases Nat.lt_or_gt_of_ne hne with h' | h'
 ·exact key p q h' hq
 ·exact fun e => key q p h' hp e.symm
theorem nodup_ids {x:List Lb} (h:labelsOk x=true):(x.map (·.1)).Nodup:=by
 rw [List.nodup_iff_pairwise_ne,List.pairwise_map,List.pairwise_iff_getElem]
 intro p q hp hq hpq
 have:=ids_of h p q hp hq (by omega)
 rw [List.getD_eq_getElem?_getD,List.getD_eq_getElem?_getD,List.getElem?_eq_getElem hp,List.getElem?_eq_getElem hq] at this
 exact this
theorem f70_eq (k:Nat) (hk:1048576 < k) (x0:List Lb) (hok:labelsOk x0=true) (x1:List Int) (h1:x1.length≤1048576):f70 k x0 x1=some (sortR pdqR (0:Int) ltI (((sortR pdqR dL (ltW (wtB x1)) x0).foldl gr1 []).map (·.1))):=by
 have hx:x0.length≤500:=by
  have:=hok
  unfold labelsOk at this
  simp only [Bool.and_eq_true,decide_eq_true_eq] at this
  exact this.1
 obtain ⟨js,hp,hs,he⟩:=s400 k hk x0 hx x1 h1 (ids_of hok) k 0 [] (by omega) (by omega) (by simp) (by simp)
 have he':f70 k x0 x1=f70.l1175 k (ci js) x0 k (([]:List Lb),([]:List Int),(0:Int)):=he
 rw [he']
 have hjl:js.length=x0.length:=by rw [hp.length_eq]; simp
 have h2:=s1175 k hk x0 hx js (fun p hp' => List.mem_range.1 (hp.mem_iff.1 hp')) (by omega) k 0 ([],[]) (by omega) (by omega) (by simp) (by simp)
 refine Eq.trans h2 ?_
 rw [List.drop_zero]
 have hxr:(List.range x0.length).map (fun n => x0.getD n dL)=x0:=by
  apply List.ext_getElem
  ·simp
  ·intro i h1 h2
   simp at h1
   simp [List.getD_eq_getElem?_getD,h1]
 have hpx:(js.map fun n => x0.getD n dL).Perm x0:=by
  have:=hp.map (fun n => x0.getD n dL)
  rwa [hxr] at this
 obtain ⟨o1,o2⟩:=sortR_ok (d:=dL) (swoW (wtB x1)) x0
 have hnd:=nodup_ids hok
 have hndO:((sortR pdqR dL (ltW (wtB x1)) x0).map (·.1)).Nodup:=(o1.map (·.1)).nodup_iff.2 hnd
 have hOs:(sortR pdqR dL (ltW (wtB x1)) x0).Pairwise (fun x y => ltW (wtB x1) x y=true):=by
  rw [List.nodup_iff_pairwise_ne,List.pairwise_map] at hndO
  refine (o2.and hndO).imp (fun {a b} h => ?_)
  exact totW _ (fun e => h.2 e.symm) h.1
 have heq:js.map (fun n => x0.getD n dL)=sortR pdqR dL (ltW (wtB x1)) x0 :=
  perm_uniq (R:=fun x y => ltW (wtB x1) x y=true) (fun a b h => by rw [asyW _ h]; simp) (hpx.trans o1.symm) hs hOs
 rw [heq]
 obtain ⟨t1,t2,t3⟩:=stp_fold (sortR pdqR dL (ltW (wtB x1)) x0) ([],[]) (List.Perm.refl _) List.Pairwise.nil (by simpa using hndO)
 congr 1
 obtain ⟨u1,u2⟩:=sortR_ok (d:=(0:Int)) swoI (((sortR pdqR dL (ltW (wtB x1)) x0).foldl gr1 []).map (·.1))
 obtain ⟨t,g1,g2⟩:=gr_sub (sortR pdqR dL (ltW (wtB x1)) x0) []
 have hndS:(((sortR pdqR dL (ltW (wtB x1)) x0).foldl gr1 []).map (·.1)).Nodup:=by
  rw [g2,List.nil_append]
  exact hndO.sublist (g1.map _)
 have hndR:=u1.nodup_iff.2 hndS
 have hRs:(sortR pdqR (0:Int) ltI (((sortR pdqR dL (ltW (wtB x1)) x0).foldl gr1 []).map (·.1))).Pairwise (· < ·):=by
  rw [List.nodup_iff_pairwise_ne] at hndR
  refine (u2.and hndR).imp (fun {a b} h => ?_)
  have h5:¬ b < a:=by have:=h.1; unfold ltI at this; simpa using this
  have h6:=h.2
  omega
 exact perm_uniq (R:=fun x y:Int => x < y) (fun a b h => by omega) (t2.trans u1.symm) t3 hRs
theorem same_place (k:Nat) (hk:1048576 < k) (x0:List Lb) (hx:x0.length≤1048576) (x1:List Int) (h1:x1.length≤1048576):∃ v,f12 k x0 x1=some v∧f15 k x0 x1=some v∧v.length≤1048576:=by
 have e15:=f15_eq k hk x0 hx x1
 by_cases hc:(!labelsOk x0 || decide (x1.length > 500))=true
 ·rw [if_pos hc] at e15
  refine ⟨[],?_,e15,by simp⟩
  unfold f12
  rw [spec69 k hk x0 hx,Option.bind_some]
  have:(bif (!labelsOk x0) then true else (decide (((List.length x1:Int):Int) > (500:Int))))=true:=by
   simp only [Bool.or_eq_true,decide_eq_true_eq] at hc
   rcases hc with h | h
   ·rw [h]; rfl
   ·cases labelsOk x0 <;> simp; omega
  rw [if_t this]
 ·rw [if_neg hc] at e15
  simp only [Bool.or_eq_true,not_or,Bool.not_eq_true',Bool.not_eq_false,decide_eq_true_eq] at hc
  obtain ⟨hok,hl⟩:=hc
  refine ⟨_,?_,e15,?_⟩
  ·unfold f12
   rw [spec69 k hk x0 hx,Option.bind_some,hok]
   rw [if_f (by simp; omega),f70_eq k hk x0 hok x1 h1]
   rfl
  ·rw [sortR_len swoI,List.length_map]
   have:=grs_len (sortR pdqR dL (ltW (wtB x1)) x0) []
   rw [sortR_len (swoW _)] at this
   simp only [List.length_nil] at this
   omega
end Go.Proofs.Ytnpaokckkbhdjaa
end
section
set_option linter.unusedVariables false
set_option linter.unusedSimpArgs false
namespace Go.Proofs.Ytnpaokckkbhdjaa
open Go Go.Vm Go.Proofs V
def plc (k:Nat) (d:List Lb) (b:List Int):List Int:=(f12 k d b).getD []
def stR (k:Nat):List (List Lb)→List Int→List (List Int)
 | [],_ => []
 | d :: ds,b => plc k d b :: stR k ds (plc k d b)
theorem stR_len (k:Nat):∀ (ds:List (List Lb)) (b:List Int),(stR k ds b).length=ds.length
 | [],_ => rfl
 | d :: ds,b => by simp [stR,stR_len k ds]
theorem plc_ok (k:Nat) (hk:1048576 < k) (d:List Lb) (hd:d.length≤1048576) (b:List Int) (hb:b.length≤1048576):f12 k d b=some (plc k d b)∧f15 k d b=some (plc k d b) ∧ (plc k d b).length≤1048576:=by
 obtain ⟨v,q1,q2,q3⟩:=same_place k hk d hd b hb
 have:plc k d b=v:=by unfold plc; rw [q1]; rfl
 rw [this]
 exact ⟨q1,q2,q3⟩
theorem stR_mem (k:Nat) (hk:1048576 < k):∀ (ds:List (List Lb)) (b:List Int),(∀ d ∈ ds,d.length≤1048576)→b.length≤1048576→∀ r ∈ stR k ds b,r.length≤1048576
 | [],_,_,_,r,h => by cases h
 | d :: ds,b,hd,hb,r,h => by
   have h1:=(plc_ok k hk d (hd d List.mem_cons_self) b hb).2.2
   rcases List.mem_cons.1 h with rfl | h
   ·exact h1
   ·exact stR_mem k hk ds _ (fun d' h' => hd d' (List.mem_cons_of_mem _ h')) h1 r h
theorem drop_day {x:List (List Lb)} {i:Nat} (h:i < x.length):x.drop i=x.getD i [] :: x.drop (i+1):=by
 rw [List.drop_eq_getElem_cons h,List.getD_eq_getElem?_getD,List.getElem?_eq_getElem h]; rfl
theorem s44 (k:Nat) (hk:1048576 < k) (x0:List (List Lb)) (hx:x0.length≤30) (hd:∀ d ∈ x0,d.length≤1048576):∀ (m i:Nat) (acc:List (List Int)) (b:List Int),i≤x0.length→x0.length - i < m→acc.length=i→b.length≤1048576 →
 f22.l44 k x0 m (acc,b,(i:Int))=some (acc ++ stR k (x0.drop i) b)
 | 0,i,acc,b,_,h,_,_ => by omega
 | m+1,i,acc,b,hi,h,ha,hb => by
   rw [f22.l44]
   have hc30:decide ((x0.length:Int)≤30)=true:=decide_eq_true (by omega)
   by_cases hlt:i < x0.length
   ·have hbd:(0:Int) ≤ (i:Int) ∧ (i:Int) < (x0.length:Int):=⟨by omega,by omega⟩
    have hm:x0.getD i [] ∈ x0:=getD_mem' hlt
    obtain ⟨p1,p2,p3⟩:=plc_ok k hk _ (hd _ hm) b hb
    have hc:(bif decide ((i:Int) < (x0.length:Int)) then decide ((x0.length:Int)≤30) else false)=true:=by rw [hc30,decide_eq_true (by omega)]; rfl
    rw [if_t hc,if_t hbd,Int.toNat_natCast,p1,Option.bind_some,if_t (by simp only [List.length_nil]; omega),if_t (by simp only [List.length_cons,List.length_nil]; omega),wrap_s (by omega),List.nil_append]
    rw [s44 k hk x0 hx hd m (i+1) _ _ (by omega) (by omega) (by simp; omega) p3,drop_day hlt]
    simp [stR]
   ·have hc:¬ ((bif decide ((i:Int) < (x0.length:Int)) then decide ((x0.length:Int)≤30) else false)=true):=by rw [decide_eq_false (by omega)]; simp
    rw [if_f hc,List.drop_eq_nil_of_le (by omega)]
    simp [stR]
theorem i53 (k:Nat) (hk:1048576 < k) (x0:List (List Lb)) (hx:x0.length≤30) (hd:∀ d ∈ x0,d.length≤1048576):∀ (m i:Nat) (acc:List (List Int)) (n:Nat),i≤x0.length→x0.length - i < m→acc.length=i → (List.getD acc n []).length≤1048576 →
 f24.l53 k x0 (f24.j47 k) m (acc,n,(i:Int))=some (acc ++ stR k (x0.drop i) (List.getD acc n []))
 | 0,i,acc,n,_,h,_,_ => by omega
 | m+1,i,acc,n,hi,h,ha,hb => by
   rw [f24.l53]
   by_cases hlt:i < x0.length
   ·have hbd:(0:Int) ≤ (i:Int) ∧ (i:Int) < (x0.length:Int):=⟨by omega,by omega⟩
    have hm:x0.getD i [] ∈ x0:=getD_mem' hlt
    obtain ⟨p1,p2,p3⟩:=plc_ok k hk _ (hd _ hm) _ hb
    rw [if_t (by simpa using hlt),if_t hbd,Int.toNat_natCast,p2,Option.bind_some,if_t (by omega),wrap_s (by omega)]
    have e:List.getD (acc ++ [plc k (x0.getD i []) (List.getD acc n [])]) acc.length []=plc k (x0.getD i []) (List.getD acc n []):=by
     rw [List.getD_eq_getElem?_getD,List.getElem?_append_right (Nat.le_refl _)]; simp
    have ih:=i53 k hk x0 hx hd m (i+1) (acc ++ [plc k (x0.getD i []) (List.getD acc n [])]) acc.length (by omega) (by omega) (by simp; omega) (by rw [e]; exact p3)
    rw [e] at ih
    refine Eq.trans ih ?_
    rw [drop_day hlt]
    simp [stR]
   ·rw [if_f (by simpa using hlt),List.drop_eq_nil_of_le (by omega)]
    simp [stR,f24.j47]
theorem same_steady (k:Nat) (hk:1048576 < k) (x0:List (List Lb)) (hd:∀ d ∈ x0,d.length≤1048576):∃ v,f22 k x0=some v∧f24 k x0=some v∧v.length≤30∧∀ r ∈ v,r.length≤1048576:=by
 unfold f22 f24
 by_cases h30:30 < x0.length
 ·refine ⟨[],?_,?_,by simp,by simp⟩
  ·obtain ⟨k,rfl⟩:∃ q,k=q+1:=⟨k - 1,by omega⟩
   have hc:¬ ((bif decide ((0:Int) < (x0.length:Int)) then decide ((x0.length:Int)≤30) else false)=true):=by
    rw [decide_eq_false (show ¬ (x0.length:Int)≤30 by omega)]; simp
   rw [f22.l44,if_f hc]
  ·rw [if_t (decide_eq_true (by omega))]
 ·refine ⟨stR k x0 [],?_,?_,by rw [stR_len]; omega,stR_mem k hk x0 [] hd (by simp)⟩
  ·have:=s44 k hk x0 (by omega) hd k 0 [] [] (by omega) (by omega) rfl (by simp)
   exact this
  ·rw [if_f (by simp; omega)]
   cases x0 with
   | nil => rfl
   | cons d ds =>
     obtain ⟨p1,p2,p3⟩:=plc_ok k hk d (hd d List.mem_cons_self) [] (by simp)
     have h0:(0:Int)≤0 ∧ (0:Int) < ((d :: ds).length:Int):=⟨by omega,by simp only [List.length_cons]; omega⟩
     have hg:List.getD (d :: ds) (Int.toNat 0) []=d:=rfl
     rw [if_t (decide_eq_true h0.2),if_t h0,hg,p2,Option.bind_some,if_t (by simp)]
     have ih:=i53 k hk (d :: ds) (by omega) hd k 1 [plc k d []] 0 (by simp) (by simp at h30 ⊢; omega) rfl p3
     have w:IntKind.i64.wrap (0+1) = ((1:Nat):Int):=rfl
     rw [w]
     exact ih
theorem law4 (x0:(List (List (Int × ((Int × Int) × (Int × (Int × Int))))))) (w0:Sh.wf (.sl false 22 (.sl false 110 (.st (.pair (.int .i64) (.pair (.st (.pair (.int .i64) (.int .i64))) (.pair (.int .i64) (.pair (.int .i64) (.int .i64)))))))) x0):∃ k,f4 k x0=some true:=by
 refine ⟨1048577,?_⟩
 have hk:1048576 < 1048577:=by decide
 unfold f4
 obtain ⟨r,q1,q2,q3⟩:=sz21 1048577 hk x0 w0 1048576 (by decide) (by decide)
 have q1':f21 1048577 x0 1048576=some r:=q1
 rw [q1']
 simp only [Option.bind_some]
 by_cases hr:r < 0
 ·rw [if_t (by simpa using hr)]
 rw [if_f (by simpa using hr)]
 have hb:=q3 (by omega)
 obtain ⟨v,v1,v2,v3,v4⟩:=same_steady _ hk x0 (fun d h => (hb.2 d h).1)
 have hbv:Sh.bd (.sl false 23 (.sl false 2 (.int .i64))) v:=⟨by omega,fun y hy => ⟨v4 y hy,fun _ _ => trivial⟩⟩
 obtain ⟨c,g',p1,_,p3,p4⟩:=mk27 1048577 hk x0 hb 1 (by decide) (by decide)
 have p1':f27 1048577 x0 1=some (c,g'):=p1
 obtain ⟨d,y,m1,m2,m3,m4⟩:=mk28 1048577 hk v hbv 1 (by decide) (by decide)
 have m1':f28 1048577 v 1=some (d,y):=m1
 have h1':f29 1048577 y 1=some d:=hd29 1048577 hk 1 y d (by decide) m3 (by omega) m2
 have c1:decide ((c:Int) < 0)=false:=by simp; omega
 have d1:decide ((d:Int) < 0)=false:=by simp; omega
 simp only [to23 _ hk x0 hb,v1,v2,eq26 _ hk x0 hb,eq25 _ hk v hbv,p1',m1',h1',c1,d1,Option.bind_some]
 simp
end Go.Proofs.Ytnpaokckkbhdjaa
end
