/- A place from a slot's value on: read and written. -/
import Derived.Test.YtgonbndbnmimhaaDoorVmC
set_option linter.unusedVariables false
set_option linter.unusedSimpArgs false
namespace Go.Vm
open Go
def rootBlk:Value→Option Nat
 | .pointer (some ad) => some ad.block
 | .slice (some ad) _ _ => some ad.block
 | _ => none
structure RFocus (Z:Fp) (w:World) (s:Sh) (x:s.den) (hv:Value) (f:Fp) (p:Path) (s':Sh) (x':s'.den)
 (g t':Nat) (pre' cs' post':List Value) (f':Fp):Prop where
 at_:rootLoc w s hv p=some (g,pre'.length)
 again:∀ w2:World,(∀ i,f i→¬ f' i→w2.heap[i]?=w.heap[i]?)→rootLoc w2 s hv p=some (g,pre'.length)
 heap:w.heap[g]?=some (.cells (pre' ++ cs' ++ post').toArray t')
 rep:CRep Z w s' x' cs' f'
 sub:∀ i,f' i→f i
 out:¬ f' g
 in_:f g
 root:∀ b,rootBlk hv=some b→¬ f' b
 put:∀ (Z2:Fp) (w2:World) (v:TV) (cs2:List Value) (f2:Fp) (r:TV),upd s x p v=some r→CRep Z2 w2 v.sh v.x cs2 f2→cs2.length=cs'.length →
  (∀ i,Z i→Z2 i) → (∀ i,Z i→w2.heap[i]?=w.heap[i]?) → (∀ i,f i→¬ f' i→i≠g→w2.heap[i]?=w.heap[i]?) →
  w2.heap[g]?=some (.cells (pre' ++ cs2 ++ post').toArray t') → (∀ i,f2 i→f i→f' i)→¬ f2 g →
  ∃ f3,CRep Z2 w2 r.sh r.x [hv] f3 ∧ (∀ i,f3 i ↔ (f i∧¬ f' i)∨f2 i)
theorem rfocus {Z:Fp} {w:World}:∀ (p:Path) (s:Sh) (x:s.den) (hv:Value) (f:Fp) (v:TV),
 CRep Z w s x [hv] f→p≠[] → (match s with | .sl _ _ _ => True | .pt _ _ _ => True | _ => False)→okAt s x p→getAt s x p=some v →
 ∃ g t' pre' cs' post' f',RFocus Z w s x hv f p v.sh v.x g t' pre' cs' post' f':=by
 intro p s
 cases s with
 | int k | bool | str | unit | any | raw | gh _ | st s | pair a c | mp mo mk mv | fn ff fc => intro x hv f v h hp hs; exact hs.elim
 | sl o te e =>
   intro x hv f v h hp hs hok hget
   cases p with
   | nil => exact absurd rfl hp
   | cons q p =>
     cases q with
     | idx i =>
       cases o with
       | false => simp [okAt] at hok
       | true =>
         obtain ⟨hi,hok'⟩:i < List.length x∧okAt e (List.getD x i e.dflt) p:=by simpa [okAt] using hok
         have hget':getAt e (List.getD x i e.dflt) p=some v:=by simpa [getAt] using hget
         obtain ⟨hv',inner,fr,hvv,hrr,ho,hfe,hfd⟩:=h
         obtain rfl:hv=hv':=by simpa using hvv
         obtain ⟨c1,c,c2,fi,hin,hl1,hget1,hsub1,hput1⟩:=RRep.focus (size:=e.size) (fun x cs f h => CRep.length h) e.dflt i hi hrr
         obtain ⟨hlen,hform⟩:=ho
         rcases hform with ⟨rfl,h0⟩ | ⟨g1,cap,cur,rfl,_,hg1,hnc,hcm,hcs,htake⟩
         ·omega
         ·have hcur:cur.toList=inner ++ cur.toList.drop inner.length:=by
           conv => lhs; rw [← List.take_append_drop (x.length*e.size) cur.toList]
           rw [htake,hlen]
          have hob:(Value.slice (some ⟨g1,0,none⟩) (List.length x) cap).ownBlock=some g1:=rfl
          have hfg1:f g1:=(hfe g1).2 (.inl hob)
          have hfi1:¬ fi g1:=fun h' => hfd g1 hob (hsub1 g1 h')
          have hheap1:w.heap[g1]?=some (.cells (c1 ++ c ++ (c2 ++ cur.toList.drop inner.length)).toArray te):=by
           rw [hg1]
           congr 2
           apply Array.toList_inj.1
           simp only [List.toList_toArray]
           rw [hcur,hin]; simp
          obtain ⟨g,t',pre',cs',post',f',F⟩:=focus p e (List.getD x i e.dflt) g1 te c1 c (c2 ++ cur.toList.drop inner.length) fi v hget1 hheap1 hfi1 hok' hget'
          have hgf:f g:=by
           rcases F.where_ with rfl | hg
           ·exact hfg1
           ·exact (hfe g).2 (.inr (hsub1 g hg))
          refine ⟨g,t',pre',cs',post',f',?_,fun w2 k1 => ?_,F.heap,F.rep,fun k hk => (hfe k).2 (.inr (hsub1 k (F.sub k hk))),F.out,hgf,fun b hb hfb => hfi1 (F.sub g1 (by have hb':g1=b:=(by simpa [rootBlk] using hb); rw [hb']; exact hfb)),?_⟩
          ·have:=F.at_
           simp only [rootLoc]
           simpa [hl1] using this
          ·have:=F.again w2 (fun k hk hn => k1 k ((hfe k).2 (.inr (hsub1 k hk))) hn) (k1 g1 hfg1 (fun h' => hfi1 (F.sub g1 h')))
           simp only [rootLoc]
           simpa [hl1] using this
          ·intro Z2 w2 v cs2 f2 r hu hr hl h1 h2 h3 h4 h6 h7
           have hu':∃ r',upd e (List.getD x i e.dflt) p v=some r'∧∃ hs:r'.sh=e,r=⟨.sl true te e,List.set x i (hs ▸ r'.x)⟩:=by
            cases hq:upd e (List.getD x i e.dflt) p v with
            | none => simp only [upd,hq] at hu; cases hu
            | some r' =>
              by_cases hs:r'.sh=e
              ·refine ⟨r',rfl,hs,?_⟩
               simp only [upd,hq,hs,dif_pos,Option.some.injEq] at hu
               exact hu.symm
              ·simp only [upd,hq,hs,dite_false] at hu; cases hu
           obtain ⟨r',hr',hs,rfl⟩:=hu'
           obtain ⟨cs3,f3,k1,k2,k3,k4⟩:=F.put Z2 w2 v cs2 f2 r' hr' hr hl h1 h2
            (fun k hk hn hne => h3 k ((hfe k).2 (.inr (hsub1 k hk))) hn hne) h4
            (fun hne => h3 g1 hfg1 (fun h' => hfi1 (F.sub g1 h')) (Ne.symm hne))
            (fun k hk hk2 => h6 k hk ((hfe k).2 (.inr (hsub1 k hk2)))) h7
            (fun h' => hfi1 (F.sub g1 (h6 g1 h' hfg1)))
           have k1':CRep Z2 w2 e (hs ▸ r'.x) cs3 f3:=by
            cases r' with | mk rsh rx => subst hs; exact k1
           obtain ⟨f4,hrr4,hf4⟩:=hput1 (CRep Z2 w2 e) (hs ▸ r'.x) cs3 f3 k1'
            (fun k hk hk2 => by
             rcases (k2 k).1 hk with ⟨hk,_⟩ | hk
             ·exact hk
             ·exact F.sub k (h6 k hk ((hfe k).2 (.inr hk2))))
            (fun y cs g' hg' hy => CRep.same h1 h2 (fun k hk => h3 k ((hfe k).2 (.inr (hg' k hk).1)) (fun h' => (hg' k hk).2 (F.sub k h')) (fun e => by
             subst e
             rcases F.where_ with rfl | hg
             ·exact hfd k hob (hg' k hk).1
             ·exact (hg' k hk).2 hg)) hy)
           have hnf4:¬ f4 g1:=by
            intro h'
            rcases (hf4 g1).1 h' with ⟨h',_⟩ | h'
            ·exact hfd g1 hob h'
            ·rcases (k2 g1).1 h' with ⟨h',_⟩ | h'
             ·exact hfi1 h'
             ·exact hfi1 (F.sub g1 (h6 g1 h' hfg1))
           refine ⟨fun k => k=g1∨f4 k,?_,?_⟩
           ·refine ⟨_,c1 ++ cs3 ++ c2,f4,rfl,hrr4,?_,?_,?_⟩
            ·refine ⟨?_,.inr ⟨g1,cap,(c1 ++ cs3 ++ (c2 ++ cur.toList.drop inner.length)).toArray,?_,Nat.zero_le _,k4,?_,hcm,?_,?_⟩⟩
             ·have hh1:=hlen; rw [hin] at hh1; simp only [List.length_append] at hh1; simp [k3]; omega
             ·simp
             ·simpa using hnc
             ·have:cur.size = (inner ++ cur.toList.drop inner.length).length:=by rw [← hcur]; simp
              rw [← hcs,this,hin]; simp [k3]
             ·have hh1:=hlen; rw [hin] at hh1; simp only [List.length_append] at hh1
              simp only [List.toList_toArray,List.length_set]
              rw [← List.append_assoc]
              rw [List.take_left' (by simp [k3]; omega)]
            ·intro k
             simp only [Value.ownBlock,Option.some.injEq]
             exact ⟨fun h => h.imp Eq.symm id,fun h => h.imp Eq.symm id⟩
            ·intro k hk
             simp only [Value.ownBlock,Option.some.injEq] at hk
             subst hk; exact hnf4
           ·intro k
            show k=g1∨f4 k↔_
            rw [hf4 k,k2 k,hfe k,hob]
            have e1:(some g1=some k)↔k=g1:=by simp [eq_comm]
            rw [e1]
            constructor
            ·rintro (h | ⟨h,hn⟩ | ⟨h,hn⟩ | h)
             ·exact .inl ⟨.inl h,fun h' => hfi1 (h ▸ F.sub k h')⟩
             ·exact .inl ⟨.inr h,fun h' => hn (F.sub k h')⟩
             ·exact .inl ⟨.inr (hsub1 k h),hn⟩
             ·exact .inr h
            ·rintro (⟨h | h,hn⟩ | h)
             ·exact .inl h
             ·by_cases hfi:fi k
              ·exact .inr (.inr (.inl ⟨hfi,hn⟩))
              ·exact .inr (.inl ⟨h,hfi⟩)
             ·exact .inr (.inr (.inr h))
     | fst => simp [okAt] at hok
     | snd => simp [okAt] at hok
     | der => simp [okAt] at hok
 | pt o te e =>
   intro x hv f v h hp hs hok hget
   cases p with
   | nil => exact absurd rfl hp
   | cons q p =>
     cases q with
     | der =>
       cases o with
       | false => simp [okAt] at hok
       | true =>
         cases x with
         | none => simp [okAt] at hok
         | some y =>
           have hok':okAt e y p:=by simpa [okAt] using hok
           have hget':getAt e y p=some v:=by simpa [getAt] using hget
           obtain ⟨hv',inner,fr,hvv,hre,g1,rfl,hg1,hfe,hfd⟩:=h
           obtain rfl:hv=.pointer (some ⟨g1,0,none⟩):=by simpa using hvv
           have hfg1:f g1:=(hfe g1).2 (.inl rfl)
           obtain ⟨g,t',pre',cs',post',f',F⟩:=focus p e y g1 te [] inner [] fr v hre (by simpa using hg1) hfd hok' hget'
           have hgf:f g:=by
            rcases F.where_ with rfl | hg
            ·exact hfg1
            ·exact (hfe g).2 (.inr hg)
           refine ⟨g,t',pre',cs',post',f',?_,fun w2 k1 => ?_,F.heap,F.rep,fun k hk => (hfe k).2 (.inr (F.sub k hk)),F.out,hgf,fun b hb hfb => hfd (F.sub g1 (by have hb':g1=b:=(by simpa [rootBlk] using hb); rw [hb']; exact hfb)),?_⟩
           ·have:=F.at_
            simp only [rootLoc]
            simpa using this
           ·have:=F.again w2 (fun k hk hn => k1 k ((hfe k).2 (.inr hk)) hn) (k1 g1 hfg1 (fun h' => hfd (F.sub g1 h')))
            simp only [rootLoc]
            simpa using this
           ·intro Z2 w2 v cs2 f2 r hu hr hl h1 h2 h3 h4 h6 h7
            have hu':∃ r',upd e y p v=some r'∧r=⟨.pt true te r'.sh,some r'.x⟩:=by
             cases hq:upd e y p v with
             | none => simp [upd,hq] at hu
             | some r' => exact ⟨r',rfl,by simp only [upd,Option.getD_some,hq,Option.some.injEq] at hu; exact hu.symm⟩
            obtain ⟨r',hr',rfl⟩:=hu'
            obtain ⟨cs3,f3,k1,k2,k3,k4⟩:=F.put Z2 w2 v cs2 f2 r' hr' hr hl h1 h2
             (fun k hk hn hne => h3 k ((hfe k).2 (.inr hk)) hn hne) h4
             (fun hne => h3 g1 hfg1 (fun h' => hfd (F.sub g1 h')) (Ne.symm hne))
             (fun k hk hk2 => h6 k hk ((hfe k).2 (.inr hk2))) h7
             (fun h' => hfd (F.sub g1 (h6 g1 h' hfg1)))
            have hnf3:¬ f3 g1:=by
             intro h'
             rcases (k2 g1).1 h' with ⟨h',_⟩ | h'
             ·exact hfd h'
             ·exact hfd (F.sub g1 (h6 g1 h' hfg1))
            refine ⟨fun k => k=g1∨f3 k,⟨_,cs3,f3,rfl,k1,g1,rfl,by simpa using k4,fun k => Iff.rfl,hnf3⟩,?_⟩
            ·intro k
             show k=g1∨f3 k↔_
             rw [k2 k,hfe k]
             constructor
             ·rintro (h | ⟨h,hn⟩ | h)
              ·exact .inl ⟨.inl h,fun h' => hfd (h ▸ F.sub k h')⟩
              ·exact .inl ⟨.inr h,hn⟩
              ·exact .inr h
             ·rintro (⟨h | h,hn⟩ | h)
              ·exact .inl h
              ·exact .inr (.inl ⟨h,hn⟩)
              ·exact .inr (.inr h)
     | fst => simp [okAt] at hok
     | snd => simp [okAt] at hok
     | idx i => simp [okAt] at hok
end Go.Vm
