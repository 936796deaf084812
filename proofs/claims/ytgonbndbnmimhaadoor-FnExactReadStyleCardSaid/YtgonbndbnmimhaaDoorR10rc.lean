/- FnExactReadStyle: lines and words of both readers. -/
import Derived.Test.YtgonbndbnmimhaaDoorR10rb
set_option linter.unusedVariables false
set_option linter.unusedSimpArgs false
open Go Go.Vm Go.Proofs
namespace Go.Proofs.YtgonbndbnmimhaaDoor.V
def splGo (c:UInt8):List UInt8→List UInt8→List (List UInt8)
 | cur,[] => [cur]
 | cur,b :: l => if b=c then cur :: splGo c [] l else splGo c (cur ++ [b]) l
def wordsGo:List UInt8→List UInt8→List (List UInt8)
 | cur,[] => if cur.isEmpty=true then [] else [cur]
 | cur,b :: l => if b=32 then (if cur.isEmpty=true then wordsGo [] l else cur :: wordsGo [] l) else wordsGo (cur ++ [b]) l
def linesGo:List UInt8→List UInt8→List (List UInt8)
 | cur,[] => if cur.isEmpty=true then [] else [cur]
 | cur,b :: l => if b=10 then cur :: linesGo [] l else linesGo (cur ++ [b]) l
theorem words_spl:∀ (l cur:List UInt8),wordsGo cur l = (splGo 32 cur l).filter (fun w => !w.isEmpty)
 | [],cur => by
   unfold wordsGo splGo
   cases cur with
   | nil => rfl
   | cons a c => rfl
 | b :: l,cur => by
   unfold wordsGo splGo
   by_cases h:b=32
   ·rw [if_pos h,if_pos h,words_spl l [],List.filter_cons]
    cases cur with
    | nil => rfl
    | cons a c => rfl
   ·rw [if_neg h,if_neg h,words_spl l]
theorem lines_spl:∀ (l cur:List UInt8),∃ t,(t=[]∨t=[[]])∧splGo 10 cur l=linesGo cur l ++ t
 | [],cur => by
   unfold linesGo splGo
   cases cur with
   | nil => exact ⟨[[]],.inr rfl,rfl⟩
   | cons a c => exact ⟨[],.inl rfl,by simp⟩
 | b :: l,cur => by
   unfold linesGo splGo
   by_cases h:b=10
   ·obtain ⟨t,ht,e⟩:=lines_spl l []
    exact ⟨t,ht,by rw [if_pos h,if_pos h,e]; rfl⟩
   ·obtain ⟨t,ht,e⟩:=lines_spl l (cur ++ [b])
    exact ⟨t,ht,by rw [if_neg h,if_neg h,e]⟩
theorem spl_size (c:UInt8):∀ (l cur:List UInt8) (p:List UInt8),p ∈ splGo c cur l→p.length≤cur.length+l.length
 | [],cur,p,h => by
   unfold splGo at h
   rw [List.mem_singleton] at h
   subst h; simp
 | b :: l,cur,p,h => by
   unfold splGo at h
   split at h
   ·rcases List.mem_cons.1 h with rfl | h
    ·simp
    ·have:=spl_size c l [] p h
     simp only [List.length_nil,List.length_cons] at *; omega
   ·have:=spl_size c l (cur ++ [b]) p h
    simp only [List.length_append,List.length_cons,List.length_nil] at *; omega
theorem spl_count (c:UInt8):∀ (l cur:List UInt8),(splGo c cur l).length≤l.length+1
 | [],cur => by simp [splGo]
 | b :: l,cur => by
   unfold splGo
   split
   ·have:=spl_count c l []
    simp only [List.length_cons]; omega
   ·have:=spl_count c l (cur ++ [b])
    simp only [List.length_cons]; omega
theorem index_at (c:UInt8):∀ (cur l:List UInt8),c ∉ cur→Lib.index (cur ++ c :: l) [c]=cur.length
 | [],l,_ => by rw [Lib.index_one]; simp [Lib.indexByte]
 | a :: cur,l,h => by
   have h1:a≠c:=fun e => h (by rw [e]; exact List.mem_cons_self)
   have ih:=index_at c cur l (fun hm => h (List.mem_cons_of_mem _ hm))
   rw [Lib.index_one] at ih ⊢
   show (if a == c then 0 else if Lib.indexByte (cur ++ c :: l) c == -1 then -1 else Lib.indexByte (cur ++ c :: l) c+1)=_
   rw [ih,if_neg (by simpa using h1),if_neg (by simp)]
   simp
theorem splitK_go (c:UInt8):∀ (l cur:List UInt8),c ∉ cur→Lib.splitK [c] 0 (l.count c) (cur ++ l)=splGo c cur l
 | [],cur,_ => by rw [List.append_nil]; rfl
 | b :: l,cur,h => by
   unfold splGo
   by_cases hb:b=c
   ·subst hb
    rw [if_pos rfl,List.count_cons_self]
    unfold Lib.splitK
    have e:=index_at b cur l h
    rw [if_neg (by rw [e]; simp),e]
    have ih:=splitK_go b l [] (by simp)
    rw [List.nil_append] at ih
    simp only [Int.toNat_natCast,Nat.add_zero,List.length_cons,List.length_nil,Nat.zero_add]
    rw [List.take_append_of_le_length (Nat.le_refl _),List.take_length,show (cur ++ b :: l).drop (cur.length+1)=l by rw [List.drop_append]; simp,ih]
   ·rw [if_neg hb,List.count_cons_of_ne hb,← splitK_go c l (cur ++ [b]) (by simp [h]; exact fun e => hb e.symm)]
    simp
theorem f16_spl (k:Nat) (x:ByteArray) (c:UInt8) (hx:x.size≤4000):∃ P,f16 k x (⟨#[c]⟩:ByteArray)=some P∧P.map (·.data.toList)=splGo c [] x.data.toList:=by
 refine ⟨Lib.splitB ⟨#[c]⟩ 0 (Lib.countB x ⟨#[c]⟩) x,by unfold f16; rw [if_pos ⟨rfl,by omega⟩],?_⟩
 rw [Lib.splitB_data]
 have e:Lib.countB x ⟨#[c]⟩=x.data.toList.count c:=Lib.count_one c x.data.toList
 rw [e]
 have:=splitK_go c x.data.toList [] (by simp)
 rw [List.nil_append] at this
 exact this
theorem toList_ne (w:ByteArray):(!(ByteArray.toList w == ByteArray.toList (⟨#[]⟩:ByteArray)))=!w.data.toList.isEmpty:=by
 rw [empty_iff,← ba_len]
 cases w.data.toList <;> simp
theorem w33_end (k:Nat) (x:ByteArray) (hx:x.size≤4000) (m:Nat) (out:List ByteArray) (w:ByteArray):f33.l47 k x (m+1) (out,w,((x.size+1:Nat):Int))=some out:=by
 rw [f33.l47,if_f (by simp; omega)]
theorem w33_loop (k:Nat) (x:ByteArray) (hx:x.size≤4000):∀ (m i:Nat) (out:List ByteArray) (w:ByteArray),x.size+1 - i < m→i≤x.size→out.length≤i→w.size≤i →
 ∃ R,f33.l47 k x m (out,w,(i:Int))=some R∧R.map (·.data.toList)=out.map (·.data.toList) ++ wordsGo w.data.toList (x.data.toList.drop i)
 | 0,i,out,w,hm,hi,ho,hw => by omega
 | m+1,i,out,w,hm,hi,ho,hw => by
   rw [f33.l47,if_t (by simpa using hi),if_t (fun h => ⟨by omega,by simpa using h⟩)]
   by_cases h:i < x.size
   ·obtain ⟨b,hb0,hb,hv,hx1⟩:=bstep x i h
    have e:(((b.toNat:Nat):Int) != 32)=!decide (b=32):=congrArg (fun z => !z) (b_eq b 32)
    rw [show decide ((i:Int) < (x.size:Int))=true from decide_eq_true (by omega),hv,e,hb,wrap_s (by omega),Int.toNat_natCast,Int.toNat_natCast,hx1]
    simp only [cond_true]
    by_cases h32:b=32
    ·subst h32
     rw [if_f (by decide),toList_ne]
     cases hem:w.data.toList.isEmpty
     ·rw [if_t (by simp),if_t (by rw [List.length_singleton]; omega),f33.j88,wrap_s (by omega)]
      obtain ⟨R,h1,h2⟩:=w33_loop k x hx m (i+1) (out ++ [w]) ⟨#[]⟩ (by omega) (by omega) (by simp; omega) (by show (0:Nat)≤_; omega)
      refine ⟨R,h1,?_⟩
      rw [h2,wordsGo,if_pos rfl,if_neg (by simp [hem])]
      simp
     ·rw [if_f (by simp),f33.j88,wrap_s (by omega)]
      obtain ⟨R,h1,h2⟩:=w33_loop k x hx m (i+1) out w (by omega) (by omega) (by omega) (by omega)
      refine ⟨R,h1,?_⟩
      rw [h2,wordsGo,if_pos rfl,if_pos hem,List.isEmpty_iff.1 hem]
    ·have hsz:(⟨#[b]⟩:ByteArray).size=1:=rfl
     rw [if_t (by simpa using h32),if_t ⟨by omega,by omega,by omega,by omega⟩,if_t (by rw [hsz]; omega),f33.j88,wrap_s (by omega)]
     obtain ⟨R,h1,h2⟩:=w33_loop k x hx m (i+1) out (w ++ ⟨#[b]⟩) (by omega) (by omega) (by omega) (by rw [ByteArray.size_append,hsz]; omega)
     refine ⟨R,h1,?_⟩
     rw [h2,wordsGo,if_neg h32]
     rw [ByteArray.data_append,Array.toList_append]
   ·obtain rfl:i=x.size:=by omega
    obtain ⟨m,rfl⟩:∃ q,m=q+1:=⟨m - 1,by omega⟩
    rw [show decide ((x.size:Int) < (x.size:Int))=false from decide_eq_false (by omega)]
    simp only [cond_false]
    rw [if_f (by decide),toList_ne,List.drop_of_length_le (by rw [ba_len]; exact Nat.le_refl _),wordsGo]
    cases hem:w.data.toList.isEmpty
    ·rw [if_t (by simp),if_t (by rw [List.length_singleton]; omega),f33.j88,wrap_s (by omega),w33_end k x hx]
     exact ⟨_,rfl,by simp⟩
    ·rw [if_f (by simp),f33.j88,wrap_s (by omega),w33_end k x hx]
     exact ⟨_,rfl,by simp⟩
theorem map_inj {P Q:List ByteArray} (h:P.map (·.data.toList)=Q.map (·.data.toList)):P=Q :=
 (List.map_inj_right (fun _ _ e => ba_ext e)).1 h
def neB (w:ByteArray):Bool:=!(ByteArray.toList w == ByteArray.toList (⟨#[]⟩:ByteArray))
theorem filter_map (P:List ByteArray):(P.filter neB).map (·.data.toList) = (P.map (·.data.toList)).filter (fun w => !w.isEmpty):=by
 rw [List.filter_map]
 congr 1
 apply List.filter_congr
 intro w _
 exact toList_ne w
theorem words_both (k:Nat) (hk:1048576 < k) (x:ByteArray) (hx:x.size≤4000):∃ P,f16 k x (⟨#[32]⟩:ByteArray)=some P∧f33 k x=some (P.filter neB)∧P.length≤4001∧∀ w ∈ P,w.size≤4000:=by
 obtain ⟨P,h1,h2⟩:=f16_spl k x 32 hx
 obtain ⟨R,h3,h4⟩:=w33_loop k x hx k 0 [] ⟨#[]⟩ (by omega) (by omega) (Nat.le_refl _) (Nat.le_refl _)
 have e:R=P.filter neB:=map_inj (by rw [h4,filter_map,h2,List.drop_zero,words_spl]; rfl)
 refine ⟨P,h1,e ▸ h3,?_,fun w hw => ?_⟩
 ·have:=spl_count 32 x.data.toList []
  rw [← h2,List.length_map,ba_len] at this
  omega
 ·have:=spl_size 32 x.data.toList [] w.data.toList (by rw [← h2]; exact List.mem_map_of_mem hw)
  rw [ba_len,ba_len,List.length_nil] at this
  omega
theorem l14_end (k:Nat) (x:ByteArray) (q:List ByteArray→Option (List ByteArray)) (m:Nat) (out:List ByteArray) (f:Int):f14.l43 k x q (m+1) (out,f,((x.size+1:Nat):Int))=q out:=by
 rw [f14.l43,if_f (by simp; omega)]
theorem take_more (l:List UInt8) (f i:Nat) (b:UInt8) (hf:f≤i) (hb:l[i]?=some b):(l.drop f).take (i+1 - f) = (l.drop f).take (i - f) ++ [b]:=by
 rw [show i+1 - f = (i - f)+1 by omega,List.take_add_one,List.getElem?_drop,show f + (i - f)=i by omega,hb]
 rfl
theorem l14_loop (k:Nat) (x:ByteArray) (hx:x.size≤4000):∀ (m i f:Nat) (out:List ByteArray),x.size+1 - i < m→i≤x.size→f≤i→out.length≤i →
 ∃ R,f14.l43 k x (f14.j42 k) m (out,(f:Int),(i:Int))=some R∧R.map (·.data.toList)=out.map (·.data.toList) ++ linesGo ((x.data.toList.drop f).take (i - f)) (x.data.toList.drop i)
 | 0,i,f,out,hm,hi,hf,ho => by omega
 | m+1,i,f,out,hm,hi,hf,ho => by
   rw [f14.l43,if_t (by simpa using hi)]
   by_cases h:i < x.size
   ·obtain ⟨b,hb0,hb,hv,hx1⟩:=bstep x i h
    have e:(((b.toNat:Nat):Int) == 10)=decide (b=10):=b_eq b 10
    rw [show ((i:Int) == (x.size:Int))=false from beq_false_of_ne (by omega)]
    simp only [cond_false]
    rw [if_f (by decide),if_t (fun _ => ⟨by omega,by omega⟩),hv,e,hb,wrap_s (by omega),Int.toNat_natCast,Int.toNat_natCast]
    by_cases h10:b=10
    ·subst h10
     rw [if_t (by decide),if_t ⟨by omega,by omega,by omega,by omega⟩,if_t (by rw [List.length_singleton]; omega),f14.j79,wrap_s (by omega)]
     obtain ⟨R,h1,h2⟩:=l14_loop k x hx m (i+1) (i+1) (out ++ [x.extract f i]) (by omega) (by omega) (by omega) (by simp; omega)
     refine ⟨R,h1,?_⟩
     rw [h2,linesGo,if_pos rfl,Nat.sub_self,List.take_zero,List.map_append]
     rw [List.append_assoc]
     simp only [List.map_cons,List.map_nil,ex_data]
     rfl
    ·rw [if_f (by simpa using h10),f14.j79,wrap_s (by omega)]
     obtain ⟨R,h1,h2⟩:=l14_loop k x hx m (i+1) f out (by omega) (by omega) (by omega) (by omega)
     refine ⟨R,h1,?_⟩
     rw [h2,linesGo,if_neg h10,take_more _ _ _ _ hf hb0]
   ·obtain rfl:i=x.size:=by omega
    obtain ⟨m,rfl⟩:∃ q,m=q+1:=⟨m - 1,by omega⟩
    rw [show ((x.size:Int) == (x.size:Int))=true from beq_self_eq_true _]
    simp only [cond_true]
    rw [List.drop_of_length_le (i:=x.size) (by rw [ba_len]; exact Nat.le_refl _),linesGo]
    by_cases hfe:f=x.size
    ·subst hfe
     rw [if_t (beq_self_eq_true _)]
     exact ⟨out,rfl,by simp⟩
    ·have hne:((f:Int) == (x.size:Int))=false:=beq_false_of_ne (by omega)
     rw [if_f (by rw [hne]; decide),if_t (fun hh => by cases hh),if_t trivial,if_t ⟨by omega,by omega,by omega,by omega⟩,if_t (by rw [List.length_singleton]; omega),f14.j79,wrap_s (by omega),l14_end]
     refine ⟨_,rfl,?_⟩
     rw [if_neg (by
      intro he
      have:=congrArg List.length (List.isEmpty_iff.1 he)
      rw [List.length_take,List.length_drop,ba_len,List.length_nil] at this
      omega)]
     simp only [List.map_append,List.map_cons,List.map_nil,ex_data,Int.toNat_natCast]
theorem lines_both (k:Nat) (hk:1048576 < k) (x:ByteArray) (hx:x.size≤4000):∃ L t,f14 k x=some L∧f16 k x (⟨#[10]⟩:ByteArray)=some (L ++ t) ∧ (t=[]∨t=[⟨#[]⟩])∧L.length≤4001∧∀ w ∈ L,w.size≤4000:=by
 obtain ⟨P,h1,h2⟩:=f16_spl k x 10 hx
 obtain ⟨R,h3,h4⟩:=l14_loop k x hx k 0 0 [] (by omega) (by omega) (Nat.le_refl _) (Nat.le_refl _)
 obtain ⟨t,ht,et⟩:=lines_spl x.data.toList []
 have h4':R.map (·.data.toList)=linesGo [] x.data.toList:=h4
 have hlen:=spl_count 10 x.data.toList []
 have key:∃ t',(t'=[]∨t'=[(⟨#[]⟩:ByteArray)])∧P=R ++ t':=by
  rcases ht with rfl | rfl
  ·exact ⟨[],.inl rfl,map_inj (by rw [h2,et,List.map_append,h4']; rfl)⟩
  ·exact ⟨[⟨#[]⟩],.inr rfl,map_inj (by rw [h2,et,List.map_append,h4']; rfl)⟩
 obtain ⟨t',ht',rfl⟩:=key
 refine ⟨R,t',h3,h1,ht',?_,fun w hw => ?_⟩
 ·rw [et,List.length_append,← h4',List.length_map,ba_len] at hlen
  omega
 ·have:=spl_size 10 x.data.toList [] w.data.toList (by rw [← h2]; exact List.mem_map_of_mem (List.mem_append_left _ hw))
  rw [ba_len,ba_len,List.length_nil] at this
  omega
end Go.Proofs.YtgonbndbnmimhaaDoor.V
