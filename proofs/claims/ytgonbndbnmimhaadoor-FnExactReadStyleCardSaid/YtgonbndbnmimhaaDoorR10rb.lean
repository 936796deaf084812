/- FnExactReadStyle: zooms and tests of both readers. -/
import Derived.Test.YtgonbndbnmimhaaDoorR10ra
set_option linter.unusedVariables false
set_option linter.unusedSimpArgs false
open Go Go.Vm Go.Proofs
namespace Go.Proofs.YtgonbndbnmimhaaDoor.V
theorem b_eq (b c:UInt8):(((b.toNat:Nat):Int) == ((c.toNat:Nat):Int))=decide (b=c):=by
 by_cases h:b=c
 ·subst h; simp
 ·have:¬ ((b.toNat:Int) = (c.toNat:Int)):=fun e => h (UInt8.toNat_inj.1 (by omega))
  simp [h,this]
theorem wrap_p {q:Nat} (h:q < 9223372036854775807):IntKind.i64.wrap (((q+1:Nat):Int) - (1:Int)) = (q:Int):=by
 rw [wrap_in (by omega) (by omega)]; omega
def zoomR (x:ByteArray) (p:Nat):Int × Int × Bool :=
 (numS (numP (x.extract 0 p)) 10,numS (numP (x.extract (p+1) x.size)) 10,(bif (decide ((numS (numP (x.extract 0 p)) 10:Int) ≥ (0:Int))) then (decide ((numS (numP (x.extract (p+1) x.size)) 10:Int) ≥ numS (numP (x.extract 0 p)) 10)) else false))
theorem z34_hit (k:Nat) (hk:1048576 < k) (x:ByteArray) (hx:x.size≤4000) (p:Nat) (h1:x.data.toList[p]?=some 45) (h2:∀ j,j < p→x.data.toList[j]?≠some 45) :
 ∀ m i:Nat,x.size - i < m→i≤p→f34.l48 k x m (i:Int)=some (zoomR x p)
 | 0,i,hm,hi => by omega
 | m+1,i,hm,hi => by
   have hp:p < x.size:=by
    have:=(List.getElem?_eq_some_iff.1 h1).1
    rwa [ba_len] at this
   rw [f34.l48]
   obtain ⟨b,hb0,hb,hv,_⟩:=bstep x i (by omega)
   rw [if_t (by simp; omega),if_t ⟨by omega,by omega⟩,hv,show (((b.toNat:Nat):Int) == 45)=_ from b_eq b 45]
   by_cases h:i=p
   ·subst h
    rw [h1] at hb0
    obtain rfl:b=45:=(Option.some.inj hb0).symm
    rw [if_t (by decide),if_t ⟨trivial,by omega,by omega,by omega⟩,w37 k hk]
    simp only [Option.bind_some]
    rw [wrap_s (by omega),if_t ⟨by omega,trivial,by rw [Int.toNat_natCast]; omega,Nat.le_refl _⟩,w37 k hk]
    rfl
   ·have hne:b≠45:=fun e => h2 i (by omega) (by rw [hb0,e])
    rw [if_f (by simpa using hne),wrap_s (by omega),z34_hit k hk x hx p h1 h2 m (i+1) (by omega) (by omega)]
theorem z34_miss (k:Nat) (x:ByteArray) (hx:x.size≤4000) (h1:∀ j:Nat,x.data.toList[j]?≠some 45) :
 ∀ m i:Nat,x.size - i < m→i≤x.size→f34.l48 k x m (i:Int)=some ((0:Int),(0:Int),false)
 | 0,i,hm,hi => by omega
 | m+1,i,hm,hi => by
   rw [f34.l48]
   by_cases h:i < x.size
   ·obtain ⟨b,hb0,hb,hv,_⟩:=bstep x i h
    have hne:b≠45:=fun e => h1 i (by rw [hb0,e])
    rw [if_t (by simpa using h),if_t ⟨by omega,by omega⟩,hv,show (((b.toNat:Nat):Int) == 45)=_ from b_eq b 45,if_f (by simpa using hne),wrap_s (by omega),z34_miss k x hx h1 m (i+1) (by omega) (by omega)]
   ·rw [if_f (by simpa using h)]
theorem pos_cases (l:List UInt8) (c:UInt8):(Lib.indexByte l c = -1∧∀ j:Nat,l[j]?≠some c)∨∃ p:Nat,Lib.indexByte l c=p∧l[p]?=some c∧∀ j,j < p→l[j]?≠some c:=by
 have hge:=Lib.indexByte_ge l c
 by_cases h:Lib.indexByte l c = -1
 ·exact .inl ⟨h,Lib.indexByte_none h⟩
 ·obtain ⟨p,hp⟩:∃ p:Nat,Lib.indexByte l c=p:=⟨(Lib.indexByte l c).toNat,by omega⟩
  exact .inr ⟨p,hp,Lib.indexByte_some hp⟩
theorem zoom_both (k:Nat) (hk:1048576 < k) (x:ByteArray) (hx:x.size≤4000) :
 (f34 k x=some ((0:Int),(0:Int),false)∧∃ a b,f39 k x (⟨#[45]⟩:ByteArray)=some (a,(b,false))) ∨
 ∃ p,f34 k x=some (zoomR x p)∧f39 k x (⟨#[45]⟩:ByteArray)=some (x.extract 0 p,(x.extract (p+1) x.size,true)):=by
 have hc:f39 k x (⟨#[45]⟩:ByteArray)=some (cutP x 45):=by unfold f39; rw [if_pos ⟨rfl,by omega⟩]; rfl
 rcases pos_cases x.data.toList 45 with ⟨h,h1⟩ | ⟨p,h,h1,h2⟩
 ·refine .inl ⟨z34_miss k x hx h1 k 0 (by omega) (by omega),?_⟩
  have hix:Lib.indexB x ⟨#[45]⟩ = -1:=(Lib.index_one x.data.toList 45).trans h
  obtain ⟨e1,e2,e3⟩:=Lib.cutB_miss x ⟨#[45]⟩ hix
  exact ⟨(cutP x 45).1,(cutP x 45).2.1,hc.trans (congrArg some (Prod.ext rfl (Prod.ext rfl e3)))⟩
 ·refine .inr ⟨p,z34_hit k hk x hx p h1 h2 k 0 (by omega) (by omega),?_⟩
  have hix:Lib.indexB x ⟨#[45]⟩=p:=(Lib.index_one x.data.toList 45).trans h
  obtain ⟨e1,e2,e3⟩:=Lib.cutB_hit x ⟨#[45]⟩ p hix
  rw [hc]
  unfold cutP
  rw [show (⟨(Lib.cut x.data.toList [45]).1.toArray⟩:ByteArray)=_ from e1,show (⟨(Lib.cut x.data.toList [45]).2.1.toArray⟩:ByteArray)=_ from e2,show (Lib.cut x.data.toList [45]).2.2=true from e3]
  rfl
def keyP (x:ByteArray):Nat→ByteArray × Int
 | 0 => (x.extract 0 0,1)
 | q+1 => if (byteAt x (q:Int) == (33:Int))=true then (x.extract 0 q,2) else (x.extract 0 (q+1),1)
theorem keyP_succ (x:ByteArray) (q:Nat):keyP x (q+1)=if (byteAt x (q:Int) == (33:Int))=true then (x.extract 0 q,2) else (x.extract 0 (q+1),1):=rfl
theorem key_size (x:ByteArray) (p:Nat):(keyP x p).1.size≤x.size:=by
 cases p with
 | zero => exact ex_size x 0 0
 | succ q =>
   rw [keyP_succ]
   split
   ·exact ex_size x 0 q
   ·exact ex_size x 0 (q+1)
theorem key_chain {α:Type} (x:ByteArray) (p:Nat) (hp:p < x.size) (hx:x.size≤4000) (g:ByteArray × Int→Option α) :
 (if (((decide (((p:Int):Int) > (0:Int)))=true) → ((0:Int) ≤ (IntKind.i64.wrap ((p:Int) - (1:Int))) ∧ ((IntKind.i64.wrap ((p:Int) - (1:Int))):Int) < (ByteArray.size x:Int))) then (if (bif (decide (((p:Int):Int) > (0:Int))) then (((byteAt x (IntKind.i64.wrap ((p:Int) - (1:Int)))):Int) == (33:Int)) else false) then (if (True ∧ ((0:Int) ≤ (IntKind.i64.wrap ((p:Int) - (1:Int))))∧0 ≤ (Int.toNat (IntKind.i64.wrap ((p:Int) - (1:Int)))) ∧ (Int.toNat (IntKind.i64.wrap ((p:Int) - (1:Int)))) ≤ (ByteArray.size x)) then g ((ByteArray.extract x 0 (Int.toNat (IntKind.i64.wrap ((p:Int) - (1:Int))))),(2:Int)) else none) else g ((ByteArray.extract x 0 (Int.toNat (p:Int))),(1:Int))) else none)=g (keyP x p):=by
 cases p with
 | zero =>
   rw [if_t (fun h => by simp at h),if_f (by simp)]
   rfl
 | succ q =>
   rw [wrap_p (by omega),if_t (fun _ => ⟨by omega,by omega⟩),show decide (((q+1:Nat):Int) > 0)=true from decide_eq_true (by omega)]
   simp only [cond_true]
   rw [keyP_succ]
   by_cases h:(byteAt x (q:Int) == (33:Int))=true
   ·rw [if_t h,if_t h,if_t ⟨trivial,by omega,by omega,by rw [Int.toNat_natCast]; omega⟩]
    rfl
   ·rw [if_f h,if_f h]
    rfl
theorem j157 (k:Nat) (hk:1048576 < k) (x:ByteArray) (hx:x.size≤4000) (p:Nat) (hp:p < x.size) (key:ByteArray) (op:Int) (hkey:key.size≤4000) :
 f35.j157 k x (p:Int) (key,op)=some ((key,(op,x.extract (p+1) x.size)),wordP key && plainP (x.extract (p+1) x.size)):=by
 rw [f35.j157,w36 k hk key hkey,wrap_s (by omega),Int.toNat_natCast,w48 k hk _ (Nat.le_trans (ex_size x _ _) hx)]
 simp only [Option.bind_some]
 cases wordP key
 ·rfl
 ·rfl
theorem t35_hit (k:Nat) (hk:1048576 < k) (x:ByteArray) (hx:x.size≤4000) (p:Nat) (h1:x.data.toList[p]?=some 61) (h2:∀ j,j < p→x.data.toList[j]?≠some 61) :
 ∀ m i:Nat,x.size - i < m→i≤p→f35.l84 k x m (i:Int)=some (((keyP x p).1,((keyP x p).2,x.extract (p+1) x.size)),wordP (keyP x p).1 && plainP (x.extract (p+1) x.size))
 | 0,i,hm,hi => by omega
 | m+1,i,hm,hi => by
   have hp:p < x.size:=by
    have:=(List.getElem?_eq_some_iff.1 h1).1
    rwa [ba_len] at this
   rw [f35.l84]
   obtain ⟨b,hb0,hb,hv,_⟩:=bstep x i (by omega)
   have e:(((b.toNat:Nat):Int) != 61)=!decide (b=61):=congrArg (fun z => !z) (b_eq b 61)
   rw [if_t (by simp; omega),if_t ⟨by omega,by omega⟩,hv,e]
   by_cases h:i=p
   ·subst h
    rw [h1] at hb0
    obtain rfl:b=61:=(Option.some.inj hb0).symm
    rw [if_f (by decide),if_t ⟨trivial,by omega,by omega,by omega⟩,wrap_s (by omega),if_t ⟨by omega,trivial,by rw [Int.toNat_natCast]; omega,Nat.le_refl _⟩,key_chain x i hp hx (f35.j157 k x (i:Int))]
    exact j157 k hk x hx i hp _ _ (Nat.le_trans (key_size x i) hx)
   ·have hne:b≠61:=fun e => h2 i (by omega) (by rw [hb0,e])
    rw [if_t (by simpa using hne),wrap_s (by omega),t35_hit k hk x hx p h1 h2 m (i+1) (by omega) (by omega)]
def bang (x:ByteArray):Bool:=(bif (decide (((ByteArray.size x:Int):Int) > (0:Int))) then (((byteAt x (0:Int)):Int) == (33:Int)) else false)
def lackP (x:ByteArray):(ByteArray × (Int × ByteArray)) × Bool :=
 if bang x=true then ((x.extract 1 x.size,(4,⟨#[]⟩)),wordP (x.extract 1 x.size)) else ((x,(3,⟨#[]⟩)),wordP x)
theorem bang_size {x:ByteArray} (h:bang x=true):1≤x.size:=by
 unfold bang at h
 by_cases h0:(x.size:Int) > 0
 ·omega
 ·rw [show decide ((x.size:Int) > 0)=false from decide_eq_false h0] at h; cases h
theorem t35_miss (k:Nat) (hk:1048576 < k) (x:ByteArray) (hx:x.size≤4000) (h1:∀ j:Nat,x.data.toList[j]?≠some 61) :
 ∀ m i:Nat,x.size - i < m→i≤x.size→f35.l84 k x m (i:Int)=some (lackP x)
 | 0,i,hm,hi => by omega
 | m+1,i,hm,hi => by
   rw [f35.l84]
   by_cases h:i < x.size
   ·obtain ⟨b,hb0,hb,hv,_⟩:=bstep x i h
    have hne:b≠61:=fun e => h1 i (by rw [hb0,e])
    have e:(((b.toNat:Nat):Int) != 61)=!decide (b=61):=congrArg (fun z => !z) (b_eq b 61)
    rw [if_t (by simpa using h),if_t ⟨by omega,by omega⟩,hv,e,if_t (by simpa using hne),wrap_s (by omega),t35_miss k hk x hx h1 m (i+1) (by omega) (by omega)]
   ·rw [if_f (by simpa using h),if_t (fun hh => ⟨by omega,by simp at hh; omega⟩)]
    unfold lackP
    by_cases hb:bang x=true
    ·have hs:=bang_size hb
     rw [if_t hb]
     refine (if_t hb).trans ?_
     rw [if_t ⟨by omega,trivial,by simpa using hs,Nat.le_refl _⟩,if_t ⟨by omega,trivial,by simpa using hs,Nat.le_refl _⟩]
     rw [w36 k hk _ (Nat.le_trans (ex_size x _ _) hx)]
     rfl
    ·rw [if_f hb]
     refine (if_f hb).trans ?_
     rw [w36 k hk _ hx]
     rfl
theorem l67 (k:Nat) (hk:1048576 < k) (x:ByteArray) (hx:x.size≤4000) (p:Nat) (hp:p < x.size) (key:ByteArray) (op:Int) (hkey:key.size≤4000) :
 ∀ m i:Nat,(x.extract (p+1) x.size).size - i < m→i ≤ (x.extract (p+1) x.size).size→f41.l67 k x (p:Int) key op m (i:Int)=some (if ((x.extract (p+1) x.size).data.toList.drop i).all (fun b => !bad b.toNat)=true then ((key,(op,x.extract (p+1) x.size)),wordP key) else ((⟨#[]⟩,(0,⟨#[]⟩)),false))
 | 0,i,hm,hi => by omega
 | m+1,i,hm,hi => by
   have hsz:(x.extract (p+1) x.size).size≤4000:=Nat.le_trans (ex_size x _ _) hx
   rw [f41.l67,wrap_s (n:=p) (by omega),Int.toNat_natCast]
   by_cases h:i < (x.extract (p+1) x.size).size
   ·obtain ⟨b,hb0,hb,hv,_⟩:=bstep _ i h
    rw [if_t (by simpa using h),if_t ⟨by omega,by omega⟩,if_t (fun _ => ⟨by omega,by omega⟩),hv,hb,wrap_s (by omega),l67 k hk x hx p hp key op hkey m (i+1) (by omega) (by omega)]
    show (if bad b.toNat=true then _ else _)=_
    cases hw:bad b.toNat
    ·simp [hw]
    ·simp [hw]
   ·rw [if_f (by simpa using h),List.drop_of_length_le (by rw [ba_len]; omega),w42 k hk key hkey]
    rfl
theorem prefix_bang (x:ByteArray):Lib.hasPrefix x.data.toList (⟨#[33]⟩:ByteArray).data.toList=bang x:=by
 unfold bang Lib.hasPrefix
 by_cases h:0 < x.size
 ·obtain ⟨b,hb0,hb,hv,_⟩:=bstep x 0 h
  rw [show decide ((x.size:Int) > 0)=true from decide_eq_true (by omega),show byteAt x 0 = (b.toNat:Int) from hv]
  rw [List.drop_zero] at hb
  rw [hb]
  have e:=b_eq b 33
  show ([33]:List UInt8).isPrefixOf (b :: _) = (((b.toNat:Nat):Int) == 33)
  rw [show (((b.toNat:Nat):Int) == 33)=_ from e]
  simp only [List.isPrefixOf,Bool.and_true]
  by_cases h3:b=33
  ·subst h3; rfl
  ·rw [decide_eq_false h3,beq_eq_false_iff_ne]
   exact fun e => h3 e.symm
 ·rw [show decide ((x.size:Int) > 0)=false from decide_eq_false (by omega)]
  have:x.data.toList=[]:=List.eq_nil_of_length_eq_zero (by rw [ba_len]; omega)
  rw [this]
  rfl
theorem test_both (k:Nat) (hk:1048576 < k) (x:ByteArray) (hx:x.size≤4000) :
 ∃ t t' ok,f35 k x=some (t,ok)∧f41 k x=some (t',ok) ∧ (ok=true→t=t'∧t.1.size≤4000∧t.2.2.size≤4000):=by
 have h53:f53 k x 61=some (Lib.indexByte x.data.toList 61):=rfl
 rcases pos_cases x.data.toList 61 with ⟨h,h1⟩ | ⟨p,h,h1,h2⟩
 ·refine ⟨(lackP x).1,(lackP x).1,(lackP x).2,t35_miss k hk x hx h1 k 0 (by omega) (by omega),?_,fun _ => ⟨rfl,?_⟩⟩
  ·rw [f41,h53,h]
   simp only [Option.bind_some]
   rw [if_f (by decide)]
   have h54:f54 k x (⟨#[33]⟩:ByteArray)=some (bang x):=by rw [← prefix_bang]; rfl
   rw [h54]
   simp only [Option.bind_some]
   unfold lackP
   by_cases hb:bang x=true
   ·have hs:=bang_size hb
    rw [if_t hb,if_t hb,if_t ⟨by omega,trivial,by simpa using hs,Nat.le_refl _⟩,if_t ⟨by omega,trivial,by simpa using hs,Nat.le_refl _⟩]
    rw [w42 k hk _ (Nat.le_trans (ex_size x _ _) hx)]
    rfl
   ·rw [if_f hb,if_f hb,w42 k hk _ hx]
    rfl
  ·unfold lackP
   split
   ·exact ⟨Nat.le_trans (ex_size x _ _) hx,(by show (0:Nat)≤4000; omega)⟩
   ·exact ⟨hx,(by show (0:Nat)≤4000; omega)⟩
 ·have hp:p < x.size:=by
   have:=(List.getElem?_eq_some_iff.1 h1).1
   rwa [ba_len] at this
  have hkey:=Nat.le_trans (key_size x p) hx
  have hval:=Nat.le_trans (ex_size x (p+1) x.size) hx
  have e41:f41 k x=f41.j49 k x (p:Int) (keyP x p):=by
   rw [f41,h53,h]
   simp only [Option.bind_some]
   rw [if_t (by simp),if_t ⟨trivial,by omega,by omega,by rw [Int.toNat_natCast]; omega⟩]
   rw [if_t (by rw [wrap_s (by omega)]; exact ⟨by omega,trivial,by rw [Int.toNat_natCast]; omega,Nat.le_refl _⟩)]
   exact key_chain x p hp hx (f41.j49 k x (p:Int))
  have e67:f41.j49 k x (p:Int) (keyP x p)=_:=l67 k hk x hx p hp (keyP x p).1 (keyP x p).2 hkey k 0 (by omega) (by omega)
  rw [List.drop_zero] at e67
  have e35:f35 k x=_:=t35_hit k hk x hx p h1 h2 k 0 (by omega) (by omega)
  by_cases hpl:(x.extract (p+1) x.size).data.toList.all (fun b => !bad b.toNat)=true
  ·rw [if_t hpl] at e67
   refine ⟨_,_,_,e35,(e41.trans e67).trans ?_,fun _ => ⟨rfl,hkey,hval⟩⟩
   rw [show plainP (x.extract (p+1) x.size)=true from hpl,Bool.and_true]
  ·rw [if_f hpl] at e67
   refine ⟨_,((⟨#[]⟩:ByteArray),((0:Int),(⟨#[]⟩:ByteArray))),_,e35,(e41.trans e67).trans ?_,fun ho => ?_⟩
   ·rw [show plainP (x.extract (p+1) x.size)=false from Bool.eq_false_iff.2 hpl,Bool.and_false]
   ·rw [show plainP (x.extract (p+1) x.size)=false from Bool.eq_false_iff.2 hpl,Bool.and_false] at ho
    cases ho
end Go.Proofs.YtgonbndbnmimhaaDoor.V
