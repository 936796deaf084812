/- FnExactReadStyle: rules of both readers. -/
import Derived.Test.YtgonbndbnmimhaaDoorR10rc
set_option linter.unusedVariables false
set_option linter.unusedSimpArgs false
open Go Go.Vm Go.Proofs
namespace Go.Proofs.YtgonbndbnmimhaaDoor.V
abbrev TRule:Type:=(Int × (Int × ((List (ByteArray × (Int × ByteArray))) × (Bool × (ByteArray × (Int × Int))))))
def tail17 (k:Nat) (v48:(List ByteArray)):Option ((Int × (Int × ((List (ByteArray × (Int × ByteArray))) × (Bool × (ByteArray × (Int × Int)))))) × Bool):=if (((decide (((List.length v48:Int):Int) < (4:Int)))=false) → (0 ≤ (0:Int) ∧ (0:Int) < (List.length v48:Int))) then (if (bif (decide (((List.length v48:Int):Int) < (4:Int))) then true else (!(ByteArray.toList (List.getD v48 (Int.toNat (0:Int)) (⟨#[]⟩:ByteArray)) == ByteArray.toList (⟨#[122,111,111,109]⟩:ByteArray)))) then (some (((0:Int),((0:Int),(([]:(List (ByteArray × (Int × ByteArray)))),(false,((⟨#[]⟩:ByteArray),((0:Int),(0:Int))))))),false)) else (if (0 ≤ (1:Int) ∧ (1:Int) < (List.length v48:Int)) then ((f39 k (List.getD v48 (Int.toNat (1:Int)) (⟨#[]⟩:ByteArray)) (⟨#[45]⟩:ByteArray)).bind fun r56 => (if (!r56.2.2) then (some (((0:Int),((0:Int),(([]:(List (ByteArray × (Int × ByteArray)))),(false,((⟨#[]⟩:ByteArray),((0:Int),(0:Int))))))),false)) else ((f40 k r56.1 (10:Int)).bind fun r57 => (if (!r57.2) then (some (((0:Int),((0:Int),(([]:(List (ByteArray × (Int × ByteArray)))),(false,((⟨#[]⟩:ByteArray),((0:Int),(0:Int))))))),false)) else ((f40 k r56.2.1 (10:Int)).bind fun r58 => (if (bif (!r58.2) then true else (decide ((r57.1:Int) > r58.1))) then (some (((0:Int),((0:Int),(([]:(List (ByteArray × (Int × ByteArray)))),(false,((⟨#[]⟩:ByteArray),((0:Int),(0:Int))))))),false)) else (if (((0:Int) ≤ (2:Int))∧True ∧ (Int.toNat (2:Int)) ≤ (List.length v48) ∧ (List.length v48) ≤ (List.length v48)) then (f17.l86 k r57 r58 k ((List.drop (Int.toNat (2:Int)) (List.take (List.length v48) v48)),([]:(List (ByteArray × (Int × ByteArray)))))) else none))))))) else none)) else none
def body15 (k:Nat) (r1:(List ByteArray)):Option ((Int × (Int × ((List (ByteArray × (Int × ByteArray))) × (Bool × (ByteArray × (Int × Int)))))) × Bool):=(if (((decide (((List.length r1:Int):Int) < (4:Int)))=false) → (0 ≤ (0:Int) ∧ (0:Int) < (List.length r1:Int))) then (if (bif (decide (((List.length r1:Int):Int) < (4:Int))) then true else (!(ByteArray.toList (List.getD r1 (Int.toNat (0:Int)) (⟨#[]⟩:ByteArray)) == ByteArray.toList (⟨#[122,111,111,109]⟩:ByteArray)))) then (some (((0:Int),((0:Int),(([]:(List (ByteArray × (Int × ByteArray)))),(false,((⟨#[]⟩:ByteArray),((0:Int),(0:Int))))))),false)) else (if (0 ≤ (1:Int) ∧ (1:Int) < (List.length r1:Int)) then ((f34 k (List.getD r1 (Int.toNat (1:Int)) (⟨#[]⟩:ByteArray))).bind fun r2 => (if (!r2.2.2) then (some (((0:Int),((0:Int),(([]:(List (ByteArray × (Int × ByteArray)))),(false,((⟨#[]⟩:ByteArray),((0:Int),(0:Int))))))),false)) else (f15.l27 k r1 r2 k (([]:(List (ByteArray × (Int × ByteArray)))),(2:Int))))) else none)) else none)
def fin17 (k:Nat) (r57:(Int × Bool)) (r58:(Int × Bool)) (v105:(List ByteArray)) (v106:(List (ByteArray × (Int × ByteArray)))):Option ((Int × (Int × ((List (ByteArray × (Int × ByteArray))) × (Bool × (ByteArray × (Int × Int)))))) × Bool):=if (((((List.length v105:Int):Int) == (2:Int))=true) → (0 ≤ (1:Int) ∧ (1:Int) < (List.length v105:Int))) then (if (bif (((List.length v105:Int):Int) == (2:Int)) then (ByteArray.toList (List.getD v105 (Int.toNat (1:Int)) (⟨#[]⟩:ByteArray)) == ByteArray.toList (⟨#[104,105,100,101]⟩:ByteArray)) else false) then (some ((r57.1,(r58.1,(v106,(true,((⟨#[]⟩:ByteArray),((0:Int),(0:Int))))))),true)) else (if (((((List.length v105:Int):Int) == (5:Int))=true) → (0 ≤ (1:Int) ∧ (1:Int) < (List.length v105:Int))) then (if (((bif (((List.length v105:Int):Int) == (5:Int)) then (ByteArray.toList (List.getD v105 (Int.toNat (1:Int)) (⟨#[]⟩:ByteArray)) == ByteArray.toList (⟨#[100,114,97,119]⟩:ByteArray)) else false)=true) → (0 ≤ (2:Int) ∧ (2:Int) < (List.length v105:Int))) then ((if ((bif (((List.length v105:Int):Int) == (5:Int)) then (ByteArray.toList (List.getD v105 (Int.toNat (1:Int)) (⟨#[]⟩:ByteArray)) == ByteArray.toList (⟨#[100,114,97,119]⟩:ByteArray)) else false)=true) then f42 k (List.getD v105 (Int.toNat (2:Int)) (⟨#[]⟩:ByteArray)) else some default).bind fun r124 => (if (bif (bif (((List.length v105:Int):Int) == (5:Int)) then (ByteArray.toList (List.getD v105 (Int.toNat (1:Int)) (⟨#[]⟩:ByteArray)) == ByteArray.toList (⟨#[100,114,97,119]⟩:ByteArray)) else false) then r124 else false) then (if (0 ≤ (2:Int) ∧ (2:Int) < (List.length v105:Int)) then (if (0 ≤ (3:Int) ∧ (3:Int) < (List.length v105:Int)) then ((f40 k (List.getD v105 (Int.toNat (3:Int)) (⟨#[]⟩:ByteArray)) (1000:Int)).bind fun r125 => (if (!r125.2) then (some (((0:Int),((0:Int),(([]:(List (ByteArray × (Int × ByteArray)))),(false,((⟨#[]⟩:ByteArray),((0:Int),(0:Int))))))),false)) else (if (0 ≤ (4:Int) ∧ (4:Int) < (List.length v105:Int)) then ((f40 k (List.getD v105 (Int.toNat (4:Int)) (⟨#[]⟩:ByteArray)) (1000:Int)).bind fun r126 => (if (!r126.2) then (some (((0:Int),((0:Int),(([]:(List (ByteArray × (Int × ByteArray)))),(false,((⟨#[]⟩:ByteArray),((0:Int),(0:Int))))))),false)) else (some ((r57.1,(r58.1,(v106,(false,((List.getD v105 (Int.toNat (2:Int)) (⟨#[]⟩:ByteArray)),(r125.1,r126.1)))))),true)))) else none))) else none) else none) else (some (((0:Int),((0:Int),(([]:(List (ByteArray × (Int × ByteArray)))),(false,((⟨#[]⟩:ByteArray),((0:Int),(0:Int))))))),false)))) else none) else none)) else none
def GoodT (ts:List (ByteArray × (Int × ByteArray))) (n:Nat):Prop:=ts.length≤n∧∀ t ∈ ts,t.1.size≤4000∧t.2.2.size≤4000
def GoodR (r:TRule):Prop:=GoodT r.2.2.1 4001∧r.2.2.2.2.1.size≤4000
def RelR (a b:Option (TRule × Bool)):Prop:=∃ r r' ok,a=some (r,ok)∧b=some (r',ok) ∧ (ok=true→r=r'∧GoodR r)
theorem num_rel (x:ByteArray) (most:Int):(numT (numP x) most = (0,false)∧numS (numP x) most = -1)∨∃ v,0≤v∧numT (numP x) most = (v,true)∧numS (numP x) most=v:=by
 cases h:numP x with
 | none => exact .inl ⟨rfl,rfl⟩
 | some v =>
   have h0:0≤v:=by
    unfold numP at h
    split at h
    ·cases h
    ·exact numI_le _ _ _ (Int.le_refl 0) h
   unfold numT numS
   by_cases hv:v > most
   ·exact .inl ⟨if_pos hv,if_pos hv⟩
   ·exact .inr ⟨v,h0,if_neg hv,if_neg hv⟩
theorem rel_no {a b:Option (TRule × Bool)} {r r':TRule} (h1:a=some (r,false)) (h2:b=some (r',false)):RelR a b:=⟨r,r',false,h1,h2,fun h => by cases h⟩
theorem fin_nil (k:Nat) (r2:Int × Int × Bool) (r57 r58:Int × Bool) (ts:List (ByteArray × (Int × ByteArray))):RelR (f15.j52 k r2 ts []) (fin17 k r57 r58 [] ts):=by
 refine rel_no (r:=(r2.1,(r2.2.1,(ts,(false,((⟨#[]⟩:ByteArray),((0:Int),(0:Int)))))))) (r':=((0:Int),((0:Int),(([]:(List (ByteArray × (Int × ByteArray)))),(false,((⟨#[]⟩:ByteArray),((0:Int),(0:Int)))))))) ?_ ?_
 ·rw [f15.j52,if_t (fun h => by cases h),if_f (by decide),if_t (fun h => by cases h),if_t (fun h => by cases h),if_f (by decide)]
  rfl
 ·rw [fin17,if_t (fun h => by cases h),if_f (by decide),if_t (fun h => by cases h),if_t (fun h => by cases h),if_f (by decide)]
  rfl
theorem fin_bad (k:Nat) (r2:Int × Int × Bool) (r57 r58:Int × Bool) (ts:List (ByteArray × (Int × ByteArray))) (w:ByteArray) (rest:List ByteArray) (h1:rest.length≠1) (h4:rest.length≠4):RelR (f15.j52 k r2 ts rest) (fin17 k r57 r58 (w :: rest) ts):=by
 have e1:((rest.length:Int) == 1)=false:=beq_false_of_ne (by omega)
 have e4:((rest.length:Int) != 4)=true:=by rw [bne,beq_false_of_ne (by omega)]; rfl
 have e2:(((w :: rest).length:Int) == 2)=false:=beq_false_of_ne (by rw [List.length_cons]; omega)
 have e5:(((w :: rest).length:Int) == 5)=false:=beq_false_of_ne (by rw [List.length_cons]; omega)
 refine rel_no (r:=(r2.1,(r2.2.1,(ts,(false,((⟨#[]⟩:ByteArray),((0:Int),(0:Int)))))))) (r':=((0:Int),((0:Int),(([]:(List (ByteArray × (Int × ByteArray)))),(false,((⟨#[]⟩:ByteArray),((0:Int),(0:Int)))))))) ?_ ?_
 ·rw [f15.j52,e1,e4]
  simp only [cond_false,cond_true]
  rw [if_t (fun h => by cases h),if_f (by decide),if_t (fun h => by cases h),if_t (fun h => by cases h),if_f (by decide)]
  rfl
 ·rw [fin17,e2,e5]
  simp only [cond_false]
  rw [if_t (fun h => by cases h),if_f (by decide),if_t (fun h => by cases h),if_t (fun h => by cases h),if_f (by decide)]
  rfl
theorem fin_one (k:Nat) (r2:Int × Int × Bool) (r57 r58:Int × Bool) (h1:r2.1=r57.1) (h2:r2.2.1=r58.1) (ts:List (ByteArray × (Int × ByteArray))) (hts:GoodT ts 4001) (w a:ByteArray):RelR (f15.j52 k r2 ts [a]) (fin17 k r57 r58 [w,a] ts):=by
 rw [f15.j52,fin17]
 by_cases hh:(ByteArray.toList a == ByteArray.toList (⟨#[104,105,100,101]⟩:ByteArray))=true
 ·refine ⟨(r2.1,(r2.2.1,(ts,(true,((⟨#[]⟩:ByteArray),((0:Int),(0:Int))))))),(r57.1,(r58.1,(ts,(true,((⟨#[]⟩:ByteArray),((0:Int),(0:Int))))))),true,?_,?_,fun _ => ⟨?_,?_⟩⟩
  ·rw [if_t (fun _ => ⟨by omega,by simp⟩)]
   exact if_t hh
  ·rw [if_t (fun _ => ⟨by omega,by simp⟩)]
   exact if_t hh
  ·rw [h1,h2]
  ·exact ⟨hts,by show (0:Nat)≤4000; omega⟩
 ·refine rel_no (r:=(r2.1,(r2.2.1,(ts,(false,((⟨#[]⟩:ByteArray),((0:Int),(0:Int)))))))) (r':=((0:Int),((0:Int),(([]:(List (ByteArray × (Int × ByteArray)))),(false,((⟨#[]⟩:ByteArray),((0:Int),(0:Int)))))))) ?_ ?_
  ·rw [if_t (fun _ => ⟨by omega,by simp⟩)]
   refine (if_f hh).trans ?_
   rw [if_t (fun h => by cases h),if_t (fun h => by cases h),if_f (by simp)]
   rfl
  ·rw [if_t (fun _ => ⟨by omega,by simp⟩)]
   refine (if_f hh).trans ?_
   rw [if_t (fun h => by cases h),if_t (fun h => by cases h),if_f (by simp)]
   rfl
def drawB (a:ByteArray):Bool:=(ByteArray.toList a == ByteArray.toList (⟨#[100,114,97,119]⟩:ByteArray))
theorem j52_four (k:Nat) (hk:1048576 < k) (r2:Int × Int × Bool) (ts:List (ByteArray × (Int × ByteArray))) (a b c d:ByteArray) (hb:b.size≤4000) :
 f15.j52 k r2 ts [a,b,c,d]=if (drawB a && wordP b)=true then some ((r2.1,(r2.2.1,(ts,(false,(b,(numS (numP c) 1000,numS (numP d) 1000)))))),(bif (decide ((numS (numP c) 1000:Int) ≥ (0:Int))) then (decide ((numS (numP d) 1000:Int) ≥ (0:Int))) else false)) else some ((r2.1,(r2.2.1,(ts,(false,((⟨#[]⟩:ByteArray),((0:Int),(0:Int))))))),false):=by
 rw [f15.j52,if_t (fun h => by cases h),if_f (by simp),if_t (fun _ => ⟨by omega,by simp⟩),if_t (fun _ => ⟨by omega,by simp⟩)]
 show ((if (!drawB a)=false then f36 k b else some default).bind fun r53 => (if (bif (!drawB a) then true else (!r53))=true then _ else _))=_
 rw [w36 k hk b hb]
 cases drawB a
 ·rfl
 ·simp only [Bool.not_true,if_true,Option.bind_some,cond_false]
  cases wordP b
  ·rfl
  ·rw [if_f (by decide),if_t ⟨by omega,by simp⟩,if_t ⟨by omega,by simp⟩]
   show ((f37 k c 1000).bind fun r54 => _)=_
   rw [w37 k hk]
   simp only [Option.bind_some]
   rw [if_t ⟨by omega,by simp⟩]
   show ((f37 k d 1000).bind fun r55 => _)=_
   rw [w37 k hk]
   rfl
theorem fin17_four (k:Nat) (hk:1048576 < k) (r57 r58:Int × Bool) (ts:List (ByteArray × (Int × ByteArray))) (w a b c d:ByteArray) (hb:b.size≤4000) :
 fin17 k r57 r58 [w,a,b,c,d] ts=if (drawB a && wordP b)=true then (if (!(numT (numP c) 1000).2)=true then (some (((0:Int),((0:Int),(([]:(List (ByteArray × (Int × ByteArray)))),(false,((⟨#[]⟩:ByteArray),((0:Int),(0:Int))))))),false)) else (if (!(numT (numP d) 1000).2)=true then (some (((0:Int),((0:Int),(([]:(List (ByteArray × (Int × ByteArray)))),(false,((⟨#[]⟩:ByteArray),((0:Int),(0:Int))))))),false)) else some ((r57.1,(r58.1,(ts,(false,(b,((numT (numP c) 1000).1,(numT (numP d) 1000).1)))))),true))) else (some (((0:Int),((0:Int),(([]:(List (ByteArray × (Int × ByteArray)))),(false,((⟨#[]⟩:ByteArray),((0:Int),(0:Int))))))),false)):=by
 rw [fin17,if_t (fun h => by cases h),if_f (by simp),if_t (fun _ => ⟨by omega,by simp⟩),if_t (fun _ => ⟨by omega,by simp⟩)]
 show ((if drawB a=true then f42 k b else some default).bind fun r124 => (if (bif drawB a then r124 else false)=true then _ else _))=_
 rw [w42 k hk b hb]
 cases drawB a
 ·rfl
 ·simp only [if_true,Option.bind_some,cond_true,Bool.true_and]
  cases wordP b
  ·rfl
  ·rw [if_t rfl,if_t ⟨by omega,by simp⟩,if_t ⟨by omega,by simp⟩]
   show ((f40 k c 1000).bind fun r125 => _)=_
   rw [w40 k hk _ _ (by omega)]
   simp only [Option.bind_some,if_true]
   cases hc:(numT (numP c) 1000).2
   ·rfl
   ·rw [if_f (c:=(!true)=true) (by decide),if_f (c:=(!true)=true) (by decide),if_t ⟨by omega,by simp⟩]
    show ((f40 k d 1000).bind fun r126 => _)=_
    rw [w40 k hk _ _ (by omega)]
    rfl
theorem fin_four (k:Nat) (hk:1048576 < k) (r2:Int × Int × Bool) (r57 r58:Int × Bool) (h1:r2.1=r57.1) (h2:r2.2.1=r58.1) (ts:List (ByteArray × (Int × ByteArray))) (hts:GoodT ts 4001) (w a b c d:ByteArray) (hb:b.size≤4000):RelR (f15.j52 k r2 ts [a,b,c,d]) (fin17 k r57 r58 [w,a,b,c,d] ts):=by
 rw [j52_four k hk r2 ts a b c d hb,fin17_four k hk r57 r58 ts w a b c d hb]
 by_cases h:(drawB a && wordP b)=true
 ·rw [if_pos h,if_pos h]
  rcases num_rel c 1000 with ⟨e1,e2⟩ | ⟨v,v0,e1,e2⟩
  ·rw [e1,e2]
   exact rel_no rfl rfl
  ·rw [e1,e2]
   rcases num_rel d 1000 with ⟨e3,e4⟩ | ⟨u,u0,e3,e4⟩
   ·rw [e3,e4,show decide (v ≥ 0)=true from decide_eq_true v0]
    exact rel_no rfl rfl
   ·rw [e3,e4,show decide (v ≥ 0)=true from decide_eq_true v0,show decide (u ≥ 0)=true from decide_eq_true u0]
    exact ⟨_,_,true,rfl,rfl,fun _ => ⟨by rw [h1,h2],hts,hb⟩⟩
 ·rw [if_neg h,if_neg h]
  exact rel_no rfl rfl
theorem fin_both (k:Nat) (hk:1048576 < k) (r2:Int × Int × Bool) (r57 r58:Int × Bool) (h1:r2.1=r57.1) (h2:r2.2.1=r58.1) (ts:List (ByteArray × (Int × ByteArray))) (hts:GoodT ts 4001) (w:ByteArray) (rest:List ByteArray) (hs:∀ x ∈ rest,x.size≤4000):RelR (f15.j52 k r2 ts rest) (fin17 k r57 r58 (w :: rest) ts):=by
 match rest,hs with
 | [a],_ => exact fin_one k r2 r57 r58 h1 h2 ts hts w a
 | [a,b,c,d],hs => exact fin_four k hk r2 r57 r58 h1 h2 ts hts w a b c d (hs b (by simp))
 | [],_ => exact fin_bad k r2 r57 r58 ts w [] (by simp) (by simp)
 | [a,b],_ => exact fin_bad k r2 r57 r58 ts w [a,b] (by simp) (by simp)
 | [a,b,c],_ => exact fin_bad k r2 r57 r58 ts w [a,b,c] (by simp) (by simp)
 | a :: b :: c :: d :: e :: l,_ => exact fin_bad k r2 r57 r58 ts w _ (by simp) (by simp)
theorem rule_loop (k:Nat) (hk:1048576 < k) (W:List ByteArray) (hW:W.length≤4001) (hs:∀ x ∈ W,x.size≤4000) (r2:Int × Int × Bool) (r57 r58:Int × Bool) (h1:r2.1=r57.1) (h2:r2.2.1=r58.1) :
 ∀ (m m' i:Nat) (ts:List (ByteArray × (Int × ByteArray))),W.length - i < m→W.length - i < m'→i≤W.length→GoodT ts i→RelR (f15.l27 k W r2 m (ts,(i:Int))) (f17.l86 k r57 r58 m' (W.drop i,ts))
 | 0,m',i,ts,hm,hm',hi,hts => by omega
 | m+1,0,i,ts,hm,hm',hi,hts => by omega
 | m+1,m'+1,i,ts,hm,hm',hi,hts => by
   have hg:GoodT ts 4001:=⟨Nat.le_trans hts.1 (by omega),hts.2⟩
   by_cases h:i < W.length
   ·obtain ⟨w,hw⟩:∃ w,W[i]'h=w:=⟨_,rfl⟩
    have hd:W.drop i=w :: W.drop (i+1):=by rw [← hw]; exact List.drop_eq_getElem_cons h
    have hgd:W.getD i (⟨#[]⟩:ByteArray)=w:=by rw [List.getD_eq_getElem?_getD,List.getElem?_eq_getElem h,hw]; rfl
    have hmem:w ∈ W:=by rw [← hw]; exact List.getElem_mem h
    have hdec:decide ((i:Int) < (W.length:Int))=true:=decide_eq_true (by omega)
    have hdl:decide (((List.length (w :: W.drop (i+1)):Int):Int) > (0:Int))=true:=decide_eq_true (by rw [List.length_cons]; omega)
    have hl0:(0:Int)≤0 ∧ (0:Int) < (List.length (w :: W.drop (i+1)):Int):=⟨by omega,by rw [List.length_cons]; omega⟩
    have hlen:(w :: W.drop (i+1)).length=W.length - i:=by rw [← hd,List.length_drop]
    rw [f15.l27,hd,f17.l86,hdec,hdl,if_t (fun _ => ⟨by omega,by omega⟩),if_t (c:=(true=true→_)) (fun _ => hl0),Int.toNat_natCast,hgd]
    simp only [cond_true]
    by_cases ha:(ByteArray.toList w == ByteArray.toList (⟨#[45,62]⟩:ByteArray))=true
    ·have e1:(if (!(ByteArray.toList w == ByteArray.toList (⟨#[45,62]⟩:ByteArray)))=true then (0:Nat) else 1)=1:=by rw [ha]; rfl
     rw [ha,if_f (by decide),if_t trivial,wrap_s (by omega),Int.toNat_natCast,if_t ⟨by omega,trivial,by omega,Nat.le_refl _⟩,List.take_length]
     have hcond:¬ ((!(ByteArray.toList (List.getD (w :: W.drop (i+1)) (Int.toNat (0:Int)) (⟨#[]⟩:ByteArray)) == ByteArray.toList (⟨#[45,62]⟩:ByteArray)))=true):=by
      show ¬ ((!(ByteArray.toList w == ByteArray.toList (⟨#[45,62]⟩:ByteArray)))=true)
      rw [ha]; decide
     rw [if_f hcond]
     exact fin_both k hk r2 r57 r58 h1 h2 ts hg w _ (fun x hx => hs x (List.mem_of_mem_drop hx))
    ·have ha':(ByteArray.toList w == ByteArray.toList (⟨#[45,62]⟩:ByteArray))=false:=Bool.eq_false_iff.2 ha
     have hcond:(!(ByteArray.toList (List.getD (w :: W.drop (i+1)) (Int.toNat (0:Int)) (⟨#[]⟩:ByteArray)) == ByteArray.toList (⟨#[45,62]⟩:ByteArray)))=true:=by
      show (!(ByteArray.toList w == ByteArray.toList (⟨#[45,62]⟩:ByteArray)))=true
      rw [ha']; rfl
     obtain ⟨t,t',ok,q1,q2,q3⟩:=test_both k hk w (hs w hmem)
     rw [ha',if_t (by decide),if_t ⟨by omega,by omega⟩,q1,if_t hcond,if_t hl0]
     show RelR _ ((f41 k w).bind _)
     rw [q2]
     simp only [Option.bind_some]
     cases ok with
     | false => exact rel_no (if_t rfl) (if_t rfl)
     | true =>
       obtain ⟨rfl,g1,g2⟩:=q3 rfl
       have hb:(ts.length+[t].length)*40≤140737488355328:=by rw [List.length_singleton]; have:=hts.1; omega
       rw [if_f (by decide),if_t hb,if_f (by decide),if_t hb,if_t ⟨by omega,trivial,by rw [hlen]; show (1:Nat)≤_; omega,Nat.le_refl _⟩,wrap_s (by omega),List.take_length]
       refine rule_loop k hk W hW hs r2 r57 r58 h1 h2 m m' (i+1) (ts ++ [t]) (by omega) (by omega) (by omega) ⟨by rw [List.length_append,List.length_singleton]; have:=hts.1; omega,fun u hu => ?_⟩
       rcases List.mem_append.1 hu with hu | hu
       ·exact hts.2 u hu
       ·rw [List.mem_singleton] at hu
        subst hu
        exact ⟨g1,g2⟩
   ·obtain rfl:i=W.length:=by omega
    rw [List.drop_length,f15.l27,f17.l86,show decide ((W.length:Int) < (W.length:Int))=false from decide_eq_false (by omega),if_t (fun h => by cases h),if_t (c:=(decide (((List.length ([]:List ByteArray):Int):Int) > (0:Int))=true→_)) (fun h => by cases h)]
    simp only [cond_false]
    rw [if_f (by decide),if_f (by decide)]
    exact fin_nil k r2 r57 r58 ts
end Go.Proofs.YtgonbndbnmimhaaDoor.V
