/- FnExactReadStyle: both readers answer alike; the law. -/
import Derived.Test.YtgonbndbnmimhaaDoorR10rd
set_option linter.unusedVariables false
set_option linter.unusedSimpArgs false
open Go Go.Vm Go.Proofs
namespace Go.Proofs.YtgonbndbnmimhaaDoor.V
theorem gd {W:List ByteArray} {i:Nat} (h:i < W.length):W.getD i (⟨#[]⟩:ByteArray) ∈ W:=by
 rw [List.getD_eq_getElem?_getD,List.getElem?_eq_getElem h]; exact List.getElem_mem h
theorem filter_loop (k:Nat) (P:List ByteArray) (hP:P.length≤4001):∀ (m i:Nat) (ws:List ByteArray),P.length - i < m→i≤P.length→ws.length≤i→f17.l29 k P m (ws,(i:Int))=tail17 k (ws ++ (P.drop i).filter neB)
 | 0,i,ws,hm,hi,hw => by omega
 | m+1,i,ws,hm,hi,hw => by
   rw [f17.l29]
   by_cases h:i < P.length
   ·have hd:P.drop i=P[i]'h :: P.drop (i+1):=List.drop_eq_getElem_cons h
    have hgd:P.getD i (⟨#[]⟩:ByteArray)=P[i]'h:=by rw [List.getD_eq_getElem?_getD,List.getElem?_eq_getElem h]; rfl
    rw [if_t (by simpa using h),if_t ⟨by omega,by omega⟩,Int.toNat_natCast,hgd,hd,List.filter_cons]
    by_cases hn:neB (P[i]'h)=true
    ·rw [if_t hn]
     refine (if_t hn).trans ?_
     rw [if_t (by rw [List.length_singleton]; omega),f17.j53,wrap_s (by omega),filter_loop k P hP m (i+1) _ (by omega) (by omega) (by rw [List.length_append,List.length_singleton]; omega)]
     rw [List.append_assoc]; rfl
    ·rw [if_f hn]
     refine (if_f hn).trans ?_
     rw [f17.j53,wrap_s (by omega),filter_loop k P hP m (i+1) _ (by omega) (by omega) (by omega)]
   ·obtain rfl:i=P.length:=by omega
    rw [if_f (by simp),List.drop_length,List.filter_nil,List.append_nil]
    rfl
theorem rule_both (k:Nat) (hk:1048576 < k) (W:List ByteArray) (hW:W.length≤4001) (hs:∀ x ∈ W,x.size≤4000):RelR (body15 k W) (tail17 k W):=by
 by_cases h4:W.length < 4
 ·have e:decide (((List.length W:Int):Int) < (4:Int))=true:=decide_eq_true (by omega)
  rw [body15,tail17,e,if_t (c:=(true=false→_)) (fun h => by cases h),if_t (c:=(true=false→_)) (fun h => by cases h)]
  exact rel_no (if_t rfl) (if_t rfl)
 ·have e:decide (((List.length W:Int):Int) < (4:Int))=false:=decide_eq_false (by omega)
  have c0:(false=false → (0 ≤ (0:Int) ∧ (0:Int) < (List.length W:Int))):=fun _ => ⟨by omega,by omega⟩
  have c1:(0 ≤ (1:Int) ∧ (1:Int) < (List.length W:Int)):=⟨by omega,by omega⟩
  rw [body15,tail17,e,if_t c0,if_t c0]
  simp only [cond_false]
  by_cases hz:(!(ByteArray.toList (List.getD W (Int.toNat (0:Int)) (⟨#[]⟩:ByteArray)) == ByteArray.toList (⟨#[122,111,111,109]⟩:ByteArray)))=true
  ·exact rel_no (if_t hz) (if_t hz)
  ·rw [if_f hz,if_f hz,if_t c1,if_t c1]
   have hmem:List.getD W (Int.toNat (1:Int)) (⟨#[]⟩:ByteArray) ∈ W:=gd (by show 1 < W.length; omega)
   generalize List.getD W (Int.toNat (1:Int)) (⟨#[]⟩:ByteArray)=x at hmem ⊢
   have hx:=hs x hmem
   rcases zoom_both k hk x hx with ⟨e1,a,b,e2⟩ | ⟨p,e1,e2⟩
   ·rw [e1,e2]
    exact rel_no rfl rfl
   ·rw [e1,e2]
    simp only [Option.bind_some]
    rw [w40 k hk _ _ (by omega),w40 k hk _ _ (by omega),if_f (c:=(!true)=true) (by decide)]
    unfold zoomR
    rcases num_rel (x.extract 0 p) 10 with ⟨q1,q2⟩ | ⟨u,u0,q1,q2⟩
    ·rw [q1,q2]
     exact rel_no rfl rfl
    ·rw [q1,q2]
     simp only [Option.bind_some]
     rw [if_f (c:=(!true)=true) (by decide)]
     rcases num_rel (x.extract (p+1) x.size) 10 with ⟨q3,q4⟩ | ⟨v,v0,q3,q4⟩
     ·rw [q3,q4,show decide (u ≥ 0)=true from decide_eq_true u0,show decide ((-1:Int) ≥ u)=false from decide_eq_false (by omega)]
      exact rel_no rfl rfl
     ·rw [q3,q4,show decide (u ≥ 0)=true from decide_eq_true u0]
      simp only [cond_true,Bool.not_true,cond_false]
      by_cases huv:v ≥ u
      ·rw [show decide (v ≥ u)=true from decide_eq_true huv,show decide (u > v)=false from decide_eq_false (by omega),if_f (by decide),if_f (by decide),if_t ⟨by omega,trivial,by show 2≤W.length; omega,Nat.le_refl _⟩,List.take_length]
       exact rule_loop k hk W hW hs (u,v,true) (u,true) (v,true) rfl rfl k k 2 [] (by omega) (by omega) (by omega) ⟨by simp,fun t ht => by cases ht⟩
      ·rw [show decide (v ≥ u)=false from decide_eq_false huv,show decide (u > v)=true from decide_eq_true (by omega)]
       exact rel_no rfl rfl
theorem read_rule (k:Nat) (hk:1048576 < k) (x:ByteArray) (hx:x.size≤4000):RelR (f15 k x) (f17 k x):=by
 obtain ⟨P,h1,h2,h3,h4⟩:=words_both k hk x hx
 have e17:f17 k x=tail17 k (P.filter neB):=by
  rw [f17,h1]
  exact filter_loop k P h3 k 0 [] (by omega) (by omega) (Nat.le_refl _)
 have e15:f15 k x=body15 k (P.filter neB):=by rw [f15,h2]; rfl
 rw [e15,e17]
 exact rule_both k hk _ (Nat.le_trans (List.length_filter_le _ _) h3) (fun w hw => h4 w (List.mem_filter.1 hw).1)
def GoodRs (rs:List TRule):Prop:=rs.length≤100∧∀ r ∈ rs,GoodR r
theorem read_loop (k:Nat) (hk:1048576 < k) (L t:List ByteArray) (ht:t=[]∨t=[⟨#[]⟩]) (hL:L.length≤4001) (hs:∀ x ∈ L,x.size≤4000) :
 ∀ (m m' i:Nat) (out:List TRule),L.length - i < m→L.length+1 - i < m'→i≤L.length→GoodRs out→∃ R,f5.l59 k L m (out,(i:Int))=some R∧f6.l47 k (L ++ t) m' (out,(i:Int))=some R∧GoodRs R.1
 | 0,m',i,out,hm,hm',hi,ho => by omega
 | m+1,0,i,out,hm,hm',hi,ho => by omega
 | m+1,m'+1,i,out,hm,hm',hi,ho => by
   by_cases h:i < L.length
   ·have hmem:L.getD i (⟨#[]⟩:ByteArray) ∈ L:=gd h
    have hgd2:(L ++ t).getD i (⟨#[]⟩:ByteArray)=L.getD i (⟨#[]⟩:ByteArray):=by
     rw [List.getD_eq_getElem?_getD,List.getD_eq_getElem?_getD,List.getElem?_append_left h]
    have hlt:(i:Int) < ((L ++ t).length:Int):=by rw [List.length_append]; omega
    rw [f5.l59,f6.l47,if_t (by simpa using h),if_t (c:=decide ((i:Int) < ((L ++ t).length:Int))=true) (decide_eq_true hlt)]
    rw [if_t (c:=0 ≤ (i:Int) ∧ (i:Int) < (L.length:Int)) ⟨by omega,by omega⟩,if_t (c:=0 ≤ (i:Int) ∧ (i:Int) < ((L ++ t).length:Int)) ⟨by omega,hlt⟩,Int.toNat_natCast,hgd2]
    have hx:=hs _ hmem
    generalize L.getD i (⟨#[]⟩:ByteArray)=x at hx ⊢
    have hpos:(ByteArray.toList x == ByteArray.toList (⟨#[]⟩:ByteArray))=false → ((0:Int) ≤ (0:Int) ∧ ((0:Int):Int) < (ByteArray.size x:Int)):=fun he => by
     rw [empty_iff] at he
     have:=of_decide_eq_false he
     omega
    rw [if_t (c:=((ByteArray.toList x == ByteArray.toList (⟨#[]⟩:ByteArray))=false→0 ≤ (i:Int) ∧ (i:Int) < (L.length:Int))) (fun _ => ⟨by omega,by omega⟩),if_t hpos,if_t hpos]
    by_cases hskip:(bif (ByteArray.toList x == ByteArray.toList (⟨#[]⟩:ByteArray)) then true else (((byteAt x (0:Int)):Int) == (35:Int)))=true
    ·rw [if_t hskip,if_t hskip,f5.j108,f6.j86,wrap_s (by omega)]
     exact read_loop k hk L t ht hL hs m m' (i+1) out (by omega) (by omega) (by omega) ho
    ·rw [if_f hskip,if_f hskip,if_t (c:=0 ≤ (i:Int) ∧ (i:Int) < (L.length:Int)) ⟨by omega,by omega⟩]
     obtain ⟨r,r',ok,q1,q2,q3⟩:=read_rule k hk x hx
     rw [q1,q2]
     simp only [Option.bind_some]
     by_cases hstop:(bif (!ok) then true else (((List.length out:Int):Int) == (100:Int)))=true
     ·rw [if_t hstop,if_t hstop]
      exact ⟨_,rfl,rfl,⟨by simp,fun r hr => by cases hr⟩⟩
     ·rw [if_f hstop,if_f hstop]
      cases ok with
      | false => exact absurd rfl hstop
      | true =>
        obtain ⟨rfl,hg⟩:=q3 rfl
        have hne:out.length≠100:=fun he => hstop (by rw [he]; rfl)
        have hl:=ho.1
        have hb:(out.length+[r].length)*80≤140737488355328:=by rw [List.length_singleton]; omega
        rw [if_t hb,if_t hb,f5.j108,f6.j86,wrap_s (by omega)]
        refine read_loop k hk L t ht hL hs m m' (i+1) (out ++ [r]) (by omega) (by omega) (by omega) ⟨by rw [List.length_append,List.length_singleton]; omega,fun u hu => ?_⟩
        rcases List.mem_append.1 hu with hu | hu
        ·exact ho.2 u hu
        ·rw [List.mem_singleton] at hu
         subst hu; exact hg
   ·obtain rfl:i=L.length:=by omega
    refine ⟨(out,0),?_,?_,ho⟩
    ·rw [f5.l59,if_f (by simp)]
    ·rcases ht with rfl | rfl
     ·rw [f6.l47,if_f (by simp)]
     ·obtain ⟨m',rfl⟩:∃ q,m'=q+1:=⟨m' - 1,by omega⟩
      have hlen:(L ++ [(⟨#[]⟩:ByteArray)]).length=L.length+1:=by simp
      have hgd:(L ++ [(⟨#[]⟩:ByteArray)]).getD L.length (⟨#[]⟩:ByteArray)=⟨#[]⟩:=by
       rw [List.getD_eq_getElem?_getD,List.getElem?_append_right (Nat.le_refl _),Nat.sub_self]; rfl
      rw [f6.l47,hlen,if_t (decide_eq_true (by omega)),if_t ⟨by omega,by omega⟩,Int.toNat_natCast,hgd,show (ByteArray.toList (⟨#[]⟩:ByteArray) == ByteArray.toList (⟨#[]⟩:ByteArray))=true from beq_self_eq_true _,if_t (fun h => by cases h),if_t (c:=(bif true then true else _)=true) rfl,f6.j86,wrap_s (by omega),f6.l47,hlen,if_f (by simp)]
theorem read_both (k:Nat) (hk:1048576 < k) (x:ByteArray):∃ R,f5 k x=some R∧f6 k x=some R∧GoodRs R.1:=by
 rw [f5,f6]
 by_cases hx:x.size > 4000
 ·rw [if_t (decide_eq_true (by omega)),if_t (decide_eq_true (by omega))]
  exact ⟨_,rfl,rfl,⟨by simp,fun r hr => by cases hr⟩⟩
 ·obtain ⟨L,t,h1,h2,h3,h4,h5⟩:=lines_both k hk x (by omega)
  rw [if_f (by simp; omega),if_f (by simp; omega),h1,h2]
  exact read_loop k hk L t h3 h4 h5 k k 0 [] (by omega) (by omega) (by omega) ⟨by simp,fun r hr => by cases hr⟩
theorem law3 (x0:ByteArray) (w0:Sh.wf .str x0):∃ k,f3 k x0=some true:=by
 refine ⟨1048577,?_⟩
 have hk:1048576 < 1048577:=by decide
 rw [f3]
 by_cases hb:(x0.size:Int) > 1048576
 ·rw [if_t (decide_eq_true hb)]
 rw [if_f (by simpa using hb)]
 obtain ⟨R,h5,h6,hg⟩:=read_both 1048577 hk x0
 have hbd:Sh.bd (.sl false 37 (.st (.pair (.int .i64) (.pair (.int .i64) (.pair (.sl false 53 (.st (.pair .str (.pair (.int .i64) .str)))) (.pair .bool (.pair .str (.pair (.int .i64) (.int .i64))))))))) R.1 :=
  ⟨Nat.le_trans hg.1 (by decide),fun r hr => ⟨trivial,trivial,⟨Nat.le_trans (hg.2 r hr).1.1 (by decide),fun t ht => ⟨Nat.le_trans ((hg.2 r hr).1.2 t ht).1 (by decide),trivial,Nat.le_trans ((hg.2 r hr).1.2 t ht).2 (by decide)⟩⟩,trivial,Nat.le_trans (hg.2 r hr).2 (by decide),trivial,trivial⟩⟩
 obtain ⟨c,y,q,hr,hl,hu⟩:=mk8 1048577 hk R.1 hbd 1 (by omega) (by omega)
 have q':f8 1048577 R.1 1=some (c,y):=q
 have hh:f9 1048577 y 1=some c:=hd9 1048577 hk 1 y c (by omega) (by omega) (by omega) hr
 have e7:=eq7 1048577 hk R.1 hbd
 have hc:¬ (decide ((c:Int) < (0:Int))=true):=by simp; omega
 simp only [h5,h6,Option.bind_some,e7,q',hh,Bool.not_true,cond_false,bne_self_eq_false,Bool.false_eq_true,if_false,if_f hc]
end Go.Proofs.YtgonbndbnmimhaaDoor.V
