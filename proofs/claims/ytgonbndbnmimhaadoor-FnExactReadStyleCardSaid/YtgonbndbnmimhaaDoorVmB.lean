/- Places in owned data: reading and writing at a path; freezing. -/
import Derived.Test.YtgonbndbnmimhaaDoorVmA
set_option linter.unusedVariables false
set_option linter.unusedSimpArgs false
namespace Go.Vm
open Go
structure TV where
 sh:Sh
 x:sh.den
inductive Step where
 | fst | snd | idx (i:Nat) | der
abbrev Path:=List Step
def getAt:(s:Sh)→s.den→Path→Option TV
 | s,x,[] => some ⟨s,x⟩
 | .st f,x,p => getAt f x p
 | .pair a _,x,.fst :: p => getAt a x.1 p
 | .pair _ b,x,.snd :: p => getAt b x.2 p
 | .sl _ _ e,xs,.idx i :: p => getAt e (List.getD xs i e.dflt) p
 | .pt _ _ e,x,.der :: p => getAt e (Option.getD x e.dflt) p
 | _,_,_ => none
def okAt:(s:Sh)→s.den→Path→Prop
 | _,_,[] => True
 | .st f,x,p => okAt f x p
 | .pair a _,x,.fst :: p => okAt a x.1 p
 | .pair _ b,x,.snd :: p => okAt b x.2 p
 | .sl true _ e,xs,.idx i :: p => i < List.length xs∧okAt e (List.getD xs i e.dflt) p
 | .pt true _ e,x,.der :: p => Option.isSome x=true∧okAt e (Option.getD x e.dflt) p
 | _,_,_ => False
def upd:(s:Sh)→s.den→Path→TV→Option TV
 | _,_,[],v => some v
 | .st f,x,p,v => match upd f x p v with
   | some r => some ⟨.st r.sh,r.x⟩
   | none => none
 | .pair a b,x,.fst :: p,v => match upd a x.1 p v with
   | some r => some ⟨.pair r.sh b,(r.x,x.2)⟩
   | none => none
 | .pair a b,x,.snd :: p,v => match upd b x.2 p v with
   | some r => some ⟨.pair a r.sh,(x.1,r.x)⟩
   | none => none
 | .sl o t e,xs,.idx i :: p,v => match upd e (List.getD xs i e.dflt) p v with
   | some r => if h:r.sh=e then some ⟨.sl o t e,List.set xs i (h ▸ r.x)⟩ else none
   | none => none
 | .pt o t e,x,.der :: p,v => match upd e (Option.getD x e.dflt) p v with
   | some r => some ⟨.pt o t r.sh,some r.x⟩
   | none => none
 | _,_,_,_ => none
def loc (w:World):Sh→Nat→Nat→Path→Option (Nat × Nat)
 | _,b,o,[] => some (b,o)
 | .st f,b,o,p => loc w f b o p
 | .pair a _,b,o,.fst :: p => loc w a b o p
 | .pair a c,b,o,.snd :: p => loc w c b (o+a.size) p
 | .sl _ _ e,b,o,.idx i :: p => match w.cell? ⟨b,o,none⟩ with
   | some (.slice (some ad) _ _) => loc w e ad.block (ad.off+i*e.size) p
   | _ => none
 | .pt _ _ e,b,o,.der :: p => match w.cell? ⟨b,o,none⟩ with
   | some (.pointer (some ad)) => loc w e ad.block ad.off p
   | _ => none
 | _,_,_,_ => none
def rootLoc (w:World):Sh→Value→Path→Option (Nat × Nat)
 | .sl _ _ e,.slice (some ad) _ _,.idx i :: p => loc w e ad.block (ad.off+i*e.size) p
 | .pt _ _ e,.pointer (some ad),.der :: p => loc w e ad.block ad.off p
 | _,_,_ => none
theorem RRep.focus {α:Type} {R:α→List Value→Fp→Prop} {size:Nat} (hR:∀ x cs f,R x cs f→cs.length=size) (d:α) :
 ∀ {xs:List α} {cs:List Value} {f:Fp} (i:Nat),i < xs.length→RRep R xs cs f →
   ∃ c1 c c2 fi,cs=c1 ++ c ++ c2∧c1.length=i*size∧R (xs.getD i d) c fi ∧ (∀ k,fi k→f k) ∧
     ∀ (R':α→List Value→Fp→Prop) (y:α) (c':List Value) (fi':Fp),R' y c' fi' → (∀ k,fi' k→f k→fi k) →
       (∀ x cs g,(∀ k,g k→f k∧¬ fi k)→R x cs g→R' x cs g) →
       ∃ f',RRep R' (xs.set i y) (c1 ++ c' ++ c2) f'∧∀ k,f' k ↔ (f k∧¬ fi k)∨fi' k
 | [],cs,f,i,hi,h => by simp at hi
 | x :: xs,cs,f,0,hi,h => by
   obtain ⟨c1,c2,f1,f2,rfl,hf,hd,h1,h2⟩:=h
   refine ⟨[],c1,c2,f1,by simp,by simp,by simpa using h1,fun k hk => (hf k).2 (.inl hk),?_⟩
   intro R' y c' fi' hy hdis hrest
   refine ⟨fun k => fi' k∨f2 k,?_,?_⟩
   ·refine ⟨c',c2,fi',f2,by simp,fun k => Iff.rfl,fun k hk hk2 => ?_,hy,?_⟩
    ·exact hd k (hdis k hk ((hf k).2 (.inr hk2))) hk2
    ·exact RRep.imp (P:=fun k => f k∧¬ f1 k) (fun k hk => ⟨(hf k).2 (.inr hk),fun h1' => hd k h1' hk⟩) (fun x cs g hg hr => hrest x cs g hg hr) h2
   ·intro k
    constructor
    ·rintro (hk | hk)
     ·exact .inr hk
     ·exact .inl ⟨(hf k).2 (.inr hk),fun h1' => hd k h1' hk⟩
    ·rintro (⟨hk,hn⟩ | hk)
     ·rcases (hf k).1 hk with h' | h'
      ·exact absurd h' hn
      ·exact .inr h'
     ·exact .inl hk
 | x :: xs,cs,f,i+1,hi,h => by
   obtain ⟨c1,c2,f1,f2,rfl,hf,hd,h1,h2⟩:=h
   obtain ⟨d1,c,d2,fi,rfl,hl,hget,hsub,hput⟩:=RRep.focus hR d i (by simpa using hi) h2
   refine ⟨c1 ++ d1,c,d2,fi,by simp,?_,by simpa using hget,fun k hk => (hf k).2 (.inr (hsub k hk)),?_⟩
   ·simp [hR _ _ _ h1,hl,Nat.add_mul,Nat.add_comm]
   ·intro R' y c' fi' hy hdis hrest
    obtain ⟨f',hr',hf'⟩:=hput R' y c' fi' hy (fun k hk hk2 => hdis k hk ((hf k).2 (.inr hk2))) (fun x cs g hg hr => hrest x cs g (fun k hk => ⟨(hf k).2 (.inr (hg k hk).1),(hg k hk).2⟩) hr)
    refine ⟨fun k => f1 k∨f' k,⟨c1,d1 ++ c' ++ d2,f1,f',by simp,fun k => Iff.rfl,fun k hk hk' => ?_,?_,hr'⟩,?_⟩
    ·rcases (hf' k).1 hk' with ⟨h2',_⟩ | h'
     ·exact hd k hk h2'
     ·have:=hdis k h' ((hf k).2 (.inl hk))
      exact hd k hk (hsub k this)
    ·exact hrest x c1 f1 (fun k hk => ⟨(hf k).2 (.inl hk),fun h' => hd k hk (hsub k h')⟩) h1
    ·intro k
     show f1 k∨f' k↔_
     rw [hf' k]
     constructor
     ·rintro (hk | ⟨hk,hn⟩ | hk)
      ·exact .inl ⟨(hf k).2 (.inl hk),fun h' => hd k hk (hsub k h')⟩
      ·exact .inl ⟨(hf k).2 (.inr hk),hn⟩
      ·exact .inr hk
     ·rintro (⟨hk,hn⟩ | hk)
      ·rcases (hf k).1 hk with h' | h'
       ·exact .inl h'
       ·exact .inr (.inl ⟨h',hn⟩)
      ·exact .inr (.inr hk)
theorem cells_get {w:World} {g t:Nat} {K:List Value} (h:w.heap[g]?=some (.cells K.toArray t)) (o:Nat):w.cell? ⟨g,o,none⟩=K[o]?:=by
 unfold World.cell?; simp [h]
theorem cells_mid {w:World} {g t:Nat} {pre cs post:List Value} (h:w.heap[g]?=some (.cells (pre ++ cs ++ post).toArray t)) (j:Nat) (hj:j < cs.length) :
 w.cell? ⟨g,pre.length+j,none⟩=cs[j]?:=by
 rw [cells_get h]
 rw [List.append_assoc,List.getElem?_append_right (by omega)]
 rw [List.getElem?_append_left (by omega)]
 congr 1; omega
structure Focus (Z:Fp) (w:World) (s:Sh) (x:s.den) (b t:Nat) (pre cs post:List Value) (f:Fp) (p:Path) (s':Sh) (x':s'.den)
 (g t':Nat) (pre' cs' post':List Value) (f':Fp):Prop where
 at_:loc w s b pre.length p=some (g,pre'.length)
 again:∀ w2:World,(∀ i,f i→¬ f' i→w2.heap[i]?=w.heap[i]?)→w2.heap[b]?=w.heap[b]?→loc w2 s b pre.length p=some (g,pre'.length)
 heap:w.heap[g]?=some (.cells (pre' ++ cs' ++ post').toArray t')
 rep:CRep Z w s' x' cs' f'
 sub:∀ i,f' i→f i
 out:¬ f' g
 where_:g=b∨f g
 put:∀ (Z2:Fp) (w2:World) (v:TV) (cs2:List Value) (f2:Fp) (r:TV),upd s x p v=some r→CRep Z2 w2 v.sh v.x cs2 f2→cs2.length=cs'.length →
  (∀ i,Z i→Z2 i) → (∀ i,Z i→w2.heap[i]?=w.heap[i]?) → (∀ i,f i→¬ f' i→i≠g→w2.heap[i]?=w.heap[i]?) →
  w2.heap[g]?=some (.cells (pre' ++ cs2 ++ post').toArray t') → (g≠b→w2.heap[b]?=w.heap[b]?) → (∀ i,f2 i→f i→f' i)→¬ f2 g→¬ f2 b →
  ∃ cs3 f3,CRep Z2 w2 r.sh r.x cs3 f3 ∧ (∀ i,f3 i ↔ (f i∧¬ f' i)∨f2 i)∧cs3.length=cs.length∧w2.heap[b]?=some (.cells (pre ++ cs3 ++ post).toArray t)
theorem focus {Z:Fp} {w:World}:∀ (p:Path) (s:Sh) (x:s.den) (b t:Nat) (pre cs post:List Value) (f:Fp) (v:TV),
 CRep Z w s x cs f→w.heap[b]?=some (.cells (pre ++ cs ++ post).toArray t)→¬ f b→okAt s x p→getAt s x p=some v →
 ∃ g t' pre' cs' post' f',Focus Z w s x b t pre cs post f p v.sh v.x g t' pre' cs' post' f':=by
 intro p s
 induction s generalizing p with
 | int k | bool | str | unit | any | raw | gh _ | mp mo mk mv _ _ | fn ff fc _ =>
   intro x b t pre cs post f v h hh hb hok hget
   cases p with
   | nil =>
     simp only [getAt,Option.some.injEq] at hget
     subst hget
     refine ⟨b,t,pre,cs,post,f,rfl,fun _ _ _ => rfl,hh,h,fun i hi => hi,hb,.inl rfl,?_⟩
     intro Z2 w2 v cs2 f2 r hu hr hl _ _ _ hg _ _ _ _
     simp only [upd,Option.some.injEq] at hu
     subst hu
     exact ⟨cs2,f2,hr,fun i => ⟨.inr,fun hi => hi.elim (fun hi => absurd hi.1 hi.2) id⟩,hl,hg⟩
   | cons q p => cases q <;> simp [okAt] at hok
 | st s ih =>
   intro x b t pre cs post f v h hh hb hok hget
   cases p with
   | nil =>
     simp only [getAt,Option.some.injEq] at hget
     subst hget
     refine ⟨b,t,pre,cs,post,f,rfl,fun _ _ _ => rfl,hh,h,fun i hi => hi,hb,.inl rfl,?_⟩
     intro Z2 w2 v cs2 f2 r hu hr hl _ _ _ hg _ _ _ _
     simp only [upd,Option.some.injEq] at hu
     subst hu
     exact ⟨cs2,f2,hr,fun i => ⟨.inr,fun hi => hi.elim (fun hi => absurd hi.1 hi.2) id⟩,hl,hg⟩
   | cons q p =>
     have hok':okAt s x (q :: p):=by cases q <;> simpa [okAt] using hok
     have hget':getAt s x (q :: p)=some v:=by cases q <;> simpa [getAt] using hget
     obtain ⟨g,t',pre',cs',post',f',F⟩:=ih (q :: p) x b t pre cs post f v h hh hb hok' hget'
     refine ⟨g,t',pre',cs',post',f',by have:=F.at_; cases q <;> simpa [loc] using this,fun w2 k1 k2 => by have:=F.again w2 k1 k2; cases q <;> simpa [loc] using this,F.heap,F.rep,F.sub,F.out,F.where_,?_⟩
     intro Z2 w2 v cs2 f2 r hu hr hl h1 h2 h3 h4 h5 h6 h7 h8
     have hu':∃ r',upd s x (q :: p) v=some r'∧r=⟨.st r'.sh,r'.x⟩:=by
      cases hq:upd s x (q :: p) v with
      | none => cases q <;> simp [upd,hq] at hu
      | some r' => refine ⟨r',rfl,?_⟩; cases q <;> · simp only [upd,hq,Option.some.injEq] at hu; exact hu.symm
     obtain ⟨r',hr',rfl⟩:=hu'
     exact F.put Z2 w2 v cs2 f2 r' hr' hr hl h1 h2 h3 h4 h5 h6 h7 h8
 | pair a c iha ihc =>
   intro x b t pre cs post f v h hh hb hok hget
   cases p with
   | nil =>
     simp only [getAt,Option.some.injEq] at hget
     subst hget
     refine ⟨b,t,pre,cs,post,f,rfl,fun _ _ _ => rfl,hh,h,fun i hi => hi,hb,.inl rfl,?_⟩
     intro Z2 w2 v cs2 f2 r hu hr hl _ _ _ hg _ _ _ _
     simp only [upd,Option.some.injEq] at hu
     subst hu
     exact ⟨cs2,f2,hr,fun i => ⟨.inr,fun hi => hi.elim (fun hi => absurd hi.1 hi.2) id⟩,hl,hg⟩
   | cons q p =>
     obtain ⟨ca,cc,fa,fc,rfl,hf,hd,ha,hc⟩:=h
     have hla:=CRep.length ha
     cases q with
     | fst =>
       have hok':okAt a x.1 p:=by simpa [okAt] using hok
       have hget':getAt a x.1 p=some v:=by simpa [getAt] using hget
       obtain ⟨g,t',pre',cs',post',f',F⟩:=iha p x.1 b t pre ca (cc ++ post) fa v ha (by rw [hh]; simp) (fun h => hb ((hf b).2 (.inl h))) hok' hget'
       refine ⟨g,t',pre',cs',post',f',by simpa [loc] using F.at_,fun w2 k1 k2 => by simpa [loc] using F.again w2 (fun i hi hn => k1 i ((hf i).2 (.inl hi)) hn) k2,F.heap,F.rep,fun i hi => (hf i).2 (.inl (F.sub i hi)),F.out,F.where_.imp id (fun h => (hf g).2 (.inl h)),?_⟩
       intro Z2 w2 v cs2 f2 r hu hr hl h1 h2 h3 h4 h5 h6 h7 h8
       have hu':∃ r',upd a x.1 p v=some r'∧r=⟨.pair r'.sh c,(r'.x,x.2)⟩:=by
        cases hq:upd a x.1 p v with
        | none => simp [upd,hq] at hu
        | some r' => exact ⟨r',rfl,by simp only [upd,hq,Option.some.injEq] at hu; exact hu.symm⟩
       obtain ⟨r',hr',rfl⟩:=hu'
       have hgc:¬ fc g:=by
        rcases F.where_ with rfl | hg
        ·exact fun h => hb ((hf g).2 (.inr h))
        ·exact hd g hg
       obtain ⟨cs3,f3,k1,k2,k3,k4⟩:=F.put Z2 w2 v cs2 f2 r' hr' hr hl h1 h2 (fun i hi => h3 i ((hf i).2 (.inl hi))) h4 h5 (fun i hi hi2 => h6 i hi ((hf i).2 (.inl hi2))) h7 h8
       have hc2:CRep Z2 w2 c x.2 cc fc:=CRep.same h1 h2 (fun i hi => h3 i ((hf i).2 (.inr hi)) (fun h' => hd i (F.sub i h') hi) (fun e => hgc (e ▸ hi))) hc
       refine ⟨cs3 ++ cc,fun i => f3 i∨fc i,⟨cs3,cc,f3,fc,rfl,fun i => Iff.rfl,fun i hi hi2 => ?_,k1,hc2⟩,fun i => ?_,by simp [k3],by rw [k4]; simp⟩
       ·rcases (k2 i).1 hi with ⟨hi,_⟩ | hi
        ·exact hd i hi hi2
        ·exact hd i (F.sub i (h6 i hi ((hf i).2 (.inr hi2)))) hi2
       ·show f3 i∨fc i↔_
        rw [k2 i,hf i]
        have:=hd i
        have:=F.sub i
        constructor
        ·rintro ((⟨h,h'⟩ | h) | h)
         ·exact .inl ⟨.inl h,h'⟩
         ·exact .inr h
         ·exact .inl ⟨.inr h,fun h' => hd i (F.sub i h') h⟩
        ·rintro (⟨h | h,h'⟩ | h)
         ·exact .inl (.inl ⟨h,h'⟩)
         ·exact .inr h
         ·exact .inl (.inr h)
     | snd =>
       have hok':okAt c x.2 p:=by simpa [okAt] using hok
       have hget':getAt c x.2 p=some v:=by simpa [getAt] using hget
       obtain ⟨g,t',pre',cs',post',f',F⟩:=ihc p x.2 b t (pre ++ ca) cc post fc v hc (by rw [hh]; simp) (fun h => hb ((hf b).2 (.inr h))) hok' hget'
       refine ⟨g,t',pre',cs',post',f',by have:=F.at_; simpa [loc,hla] using this,fun w2 k1 k2 => by have:=F.again w2 (fun i hi hn => k1 i ((hf i).2 (.inr hi)) hn) k2; simpa [loc,hla] using this,F.heap,F.rep,fun i hi => (hf i).2 (.inr (F.sub i hi)),F.out,F.where_.imp id (fun h => (hf g).2 (.inr h)),?_⟩
       intro Z2 w2 v cs2 f2 r hu hr hl h1 h2 h3 h4 h5 h6 h7 h8
       have hu':∃ r',upd c x.2 p v=some r'∧r=⟨.pair a r'.sh,(x.1,r'.x)⟩:=by
        cases hq:upd c x.2 p v with
        | none => simp [upd,hq] at hu
        | some r' => exact ⟨r',rfl,by simp only [upd,hq,Option.some.injEq] at hu; exact hu.symm⟩
       obtain ⟨r',hr',rfl⟩:=hu'
       have hga:¬ fa g:=by
        rcases F.where_ with rfl | hg
        ·exact fun h => hb ((hf g).2 (.inl h))
        ·exact fun h => hd g h hg
       obtain ⟨cs3,f3,k1,k2,k3,k4⟩:=F.put Z2 w2 v cs2 f2 r' hr' hr hl h1 h2 (fun i hi => h3 i ((hf i).2 (.inr hi))) h4 h5 (fun i hi hi2 => h6 i hi ((hf i).2 (.inr hi2))) h7 h8
       have ha2:CRep Z2 w2 a x.1 ca fa:=CRep.same h1 h2 (fun i hi => h3 i ((hf i).2 (.inl hi)) (fun h' => hd i hi (F.sub i h')) (fun e => hga (e ▸ hi))) ha
       refine ⟨ca ++ cs3,fun i => fa i∨f3 i,⟨ca,cs3,fa,f3,rfl,fun i => Iff.rfl,fun i hi hi2 => ?_,ha2,k1⟩,fun i => ?_,by simp [k3],by rw [k4]; simp⟩
       ·rcases (k2 i).1 hi2 with ⟨hi2,_⟩ | hi2
        ·exact hd i hi hi2
        ·exact hd i hi (F.sub i (h6 i hi2 ((hf i).2 (.inl hi))))
       ·show fa i∨f3 i↔_
        rw [k2 i,hf i]
        constructor
        ·rintro (h | ⟨h,h'⟩ | h)
         ·exact .inl ⟨.inl h,fun h' => hd i h (F.sub i h')⟩
         ·exact .inl ⟨.inr h,h'⟩
         ·exact .inr h
        ·rintro (⟨h | h,h'⟩ | h)
         ·exact .inl h
         ·exact .inr (.inl ⟨h,h'⟩)
         ·exact .inr (.inr h)
     | idx i => simp [okAt] at hok
     | der => simp [okAt] at hok
 | sl o te e ih =>
   intro x b t pre cs post f v h hh hb hok hget
   cases p with
   | nil =>
     simp only [getAt,Option.some.injEq] at hget
     subst hget
     refine ⟨b,t,pre,cs,post,f,rfl,fun _ _ _ => rfl,hh,h,fun i hi => hi,hb,.inl rfl,?_⟩
     intro Z2 w2 v cs2 f2 r hu hr hl _ _ _ hg _ _ _ _
     simp only [upd,Option.some.injEq] at hu
     subst hu
     exact ⟨cs2,f2,hr,fun i => ⟨.inr,fun hi => hi.elim (fun hi => absurd hi.1 hi.2) id⟩,hl,hg⟩
   | cons q p =>
     cases q with
     | idx i =>
       cases o with
       | false => simp [okAt] at hok
       | true =>
         obtain ⟨hi,hok'⟩:i < List.length x∧okAt e (List.getD x i e.dflt) p:=by simpa [okAt] using hok
         have hget':getAt e (List.getD x i e.dflt) p=some v:=by simpa [getAt] using hget
         obtain ⟨hv,inner,fr,rfl,hrr,ho,hfe,hfd⟩:=h
         obtain ⟨c1,c,c2,fi,hin,hl1,hget1,hsub1,hput1⟩:=RRep.focus (size:=e.size) (fun x cs f h => CRep.length h) e.dflt i hi hrr
         obtain ⟨hlen,hform⟩:=ho
         rcases hform with ⟨rfl,h0⟩ | ⟨g1,cap,cur,rfl,_,hg1,hnc,hcm,hcs,htake⟩
         ·omega
         ·have hcur:cur.toList=inner ++ cur.toList.drop inner.length:=by
           conv => lhs; rw [← List.take_append_drop (x.length*e.size) cur.toList]
           rw [htake,hlen]
          have hob:(Value.slice (some ⟨g1,0,none⟩) (List.length x) cap).ownBlock=some g1:=rfl
          have hfg1:f g1:=(hfe g1).2 (.inl hob)
          have hfi1:¬ fi g1:=fun h' => hfd g1 hob (hsub1 g1 h')
          have hheap1:w.heap[g1]?=some (.cells (c1 ++ c ++ (c2 ++ cur.toList.drop inner.length)).toArray te):=by
           rw [hg1]
           congr 2
           apply Array.toList_inj.1
           simp only [List.toList_toArray]
           rw [hcur,hin]; simp
          obtain ⟨g,t',pre',cs',post',f',F⟩:=ih p (List.getD x i e.dflt) g1 te c1 c (c2 ++ cur.toList.drop inner.length) fi v hget1 hheap1 hfi1 hok' hget'
          have hcell:w.cell? ⟨b,pre.length,none⟩=some (.slice (some ⟨g1,0,none⟩) (List.length x) cap):=by
           have:=cells_mid hh 0 (by simp)
           simpa using this
          have hgf:f g:=by
           rcases F.where_ with rfl | hg
           ·exact hfg1
           ·exact (hfe g).2 (.inr (hsub1 g hg))
          have hgb:g≠b:=fun e => hb (e ▸ hgf)
          refine ⟨g,t',pre',cs',post',f',?_,fun w2 k1 k2 => ?_,F.heap,F.rep,fun k hk => (hfe k).2 (.inr (hsub1 k (F.sub k hk))),F.out,.inr hgf,?_⟩
          ·have:=F.at_
           simp only [loc,hcell]
           simpa [hl1] using this
          ·have hcell2:w2.cell? ⟨b,pre.length,none⟩=some (.slice (some ⟨g1,0,none⟩) (List.length x) cap):=by rw [cell_same (w:=w) k2]; exact hcell
           have:=F.again w2 (fun k hk hn => k1 k ((hfe k).2 (.inr (hsub1 k hk))) hn) (k1 g1 hfg1 (fun h' => hfi1 (F.sub g1 h')))
           simp only [loc,hcell2]
           simpa [hl1] using this
          ·intro Z2 w2 v cs2 f2 r hu hr hl h1 h2 h3 h4 h5 h6 h7 h8
           have hu':∃ r',upd e (List.getD x i e.dflt) p v=some r'∧∃ hs:r'.sh=e,r=⟨.sl true te e,List.set x i (hs ▸ r'.x)⟩:=by
            cases hq:upd e (List.getD x i e.dflt) p v with
            | none => simp only [upd,hq] at hu; cases hu
            | some r' =>
              by_cases hs:r'.sh=e
              ·refine ⟨r',rfl,hs,?_⟩
               simp only [upd,hq,hs,dif_pos,Option.some.injEq] at hu
               exact hu.symm
              ·simp only [upd,hq,hs,dite_false] at hu; cases hu
           obtain ⟨r',hr',hs,rfl⟩:=hu'
           have hg1b:g1≠b:=fun e => hb (e ▸ hfg1)
           obtain ⟨cs3,f3,k1,k2,k3,k4⟩:=F.put Z2 w2 v cs2 f2 r' hr' hr hl h1 h2
            (fun k hk hn hne => h3 k ((hfe k).2 (.inr (hsub1 k hk))) hn hne) h4
            (fun hne => h3 g1 hfg1 (fun h' => hfi1 (F.sub g1 h')) (Ne.symm hne))
            (fun k hk hk2 => h6 k hk ((hfe k).2 (.inr (hsub1 k hk2)))) h7
            (fun h' => hfi1 (F.sub g1 (h6 g1 h' hfg1)))
           have k1':CRep Z2 w2 e (hs ▸ r'.x) cs3 f3:=by
            cases r' with | mk rsh rx => subst hs; exact k1
           obtain ⟨f4,hrr4,hf4⟩:=hput1 (CRep Z2 w2 e) (hs ▸ r'.x) cs3 f3 k1'
            (fun k hk hk2 => by
             rcases (k2 k).1 hk with ⟨hk,_⟩ | hk
             ·exact hk
             ·exact F.sub k (h6 k hk ((hfe k).2 (.inr hk2))))
            (fun y cs g' hg' hy => CRep.same h1 h2 (fun k hk => h3 k ((hfe k).2 (.inr (hg' k hk).1)) (fun h' => (hg' k hk).2 (F.sub k h')) (fun e => by
             subst e
             rcases F.where_ with rfl | hg
             ·exact hfd k hob (hg' k hk).1
             ·exact (hg' k hk).2 hg)) hy)
           have hnf4:¬ f4 g1:=by
            intro h'
            rcases (hf4 g1).1 h' with ⟨h',_⟩ | h'
            ·exact hfd g1 hob h'
            ·rcases (k2 g1).1 h' with ⟨h',_⟩ | h'
             ·exact hfi1 h'
             ·exact hfi1 (F.sub g1 (h6 g1 h' hfg1))
           refine ⟨[.slice (some ⟨g1,0,none⟩) (List.length x) cap],fun k => k=g1∨f4 k,?_,?_,rfl,?_⟩
           ·refine ⟨_,c1 ++ cs3 ++ c2,f4,rfl,hrr4,?_,?_,?_⟩
            ·refine ⟨?_,.inr ⟨g1,cap,(c1 ++ cs3 ++ (c2 ++ cur.toList.drop inner.length)).toArray,?_,Nat.zero_le _,k4,?_,hcm,?_,?_⟩⟩
             ·have hh1:=hlen; rw [hin] at hh1; simp only [List.length_append] at hh1; simp [k3]; omega
             ·simp
             ·simpa using hnc
             ·have:cur.size = (inner ++ cur.toList.drop inner.length).length:=by rw [← hcur]; simp
              rw [← hcs,this,hin]; simp [k3]
             ·have hh1:=hlen; rw [hin] at hh1; simp only [List.length_append] at hh1
              simp only [List.toList_toArray,List.length_set]
              rw [← List.append_assoc]
              rw [List.take_left' (by simp [k3]; omega)]
            ·intro k
             simp only [Value.ownBlock,Option.some.injEq]
             exact ⟨fun h => h.imp Eq.symm id,fun h => h.imp Eq.symm id⟩
            ·intro k hk
             simp only [Value.ownBlock,Option.some.injEq] at hk
             subst hk; exact hnf4
           ·intro k
            show k=g1∨f4 k↔_
            rw [hf4 k,k2 k,hfe k,hob]
            have e1:(some g1=some k)↔k=g1:=by simp [eq_comm]
            rw [e1]
            constructor
            ·rintro (h | ⟨h,hn⟩ | ⟨h,hn⟩ | h)
             ·exact .inl ⟨.inl h,fun h' => hfi1 (h ▸ F.sub k h')⟩
             ·exact .inl ⟨.inr h,fun h' => hn (F.sub k h')⟩
             ·exact .inl ⟨.inr (hsub1 k h),hn⟩
             ·exact .inr h
            ·rintro (⟨h | h,hn⟩ | h)
             ·exact .inl h
             ·by_cases hfi:fi k
              ·exact .inr (.inr (.inl ⟨hfi,hn⟩))
              ·exact .inr (.inl ⟨h,hfi⟩)
             ·exact .inr (.inr (.inr h))
           ·rw [h5 hgb]; exact hh
     | fst => simp [okAt] at hok
     | snd => simp [okAt] at hok
     | der => simp [okAt] at hok
 | pt o te e ih =>
   intro x b t pre cs post f v h hh hb hok hget
   cases p with
   | nil =>
     simp only [getAt,Option.some.injEq] at hget
     subst hget
     refine ⟨b,t,pre,cs,post,f,rfl,fun _ _ _ => rfl,hh,h,fun i hi => hi,hb,.inl rfl,?_⟩
     intro Z2 w2 v cs2 f2 r hu hr hl _ _ _ hg _ _ _ _
     simp only [upd,Option.some.injEq] at hu
     subst hu
     exact ⟨cs2,f2,hr,fun i => ⟨.inr,fun hi => hi.elim (fun hi => absurd hi.1 hi.2) id⟩,hl,hg⟩
   | cons q p =>
     cases q with
     | der =>
       cases o with
       | false => simp [okAt] at hok
       | true =>
         cases x with
         | none => simp [okAt] at hok
         | some y =>
           have hok':okAt e y p:=by simpa [okAt] using hok
           have hget':getAt e y p=some v:=by simpa [getAt] using hget
           obtain ⟨hv,inner,fr,rfl,hre,g1,rfl,hg1,hfe,hfd⟩:=h
           have hfg1:f g1:=(hfe g1).2 (.inl rfl)
           obtain ⟨g,t',pre',cs',post',f',F⟩:=ih p y g1 te [] inner [] fr v hre (by simpa using hg1) hfd hok' hget'
           have hcell:w.cell? ⟨b,pre.length,none⟩=some (.pointer (some ⟨g1,0,none⟩)):=by
            have:=cells_mid hh 0 (by simp)
            simpa using this
           have hgf:f g:=by
            rcases F.where_ with rfl | hg
            ·exact hfg1
            ·exact (hfe g).2 (.inr hg)
           have hgb:g≠b:=fun e => hb (e ▸ hgf)
           refine ⟨g,t',pre',cs',post',f',?_,fun w2 k1 k2 => ?_,F.heap,F.rep,fun k hk => (hfe k).2 (.inr (F.sub k hk)),F.out,.inr hgf,?_⟩
           ·have:=F.at_
            simp only [loc,hcell]
            simpa using this
           ·have hcell2:w2.cell? ⟨b,pre.length,none⟩=some (.pointer (some ⟨g1,0,none⟩)):=by rw [cell_same (w:=w) k2]; exact hcell
            have:=F.again w2 (fun k hk hn => k1 k ((hfe k).2 (.inr hk)) hn) (k1 g1 hfg1 (fun h' => hfd (F.sub g1 h')))
            simp only [loc,hcell2]
            simpa using this
           ·intro Z2 w2 v cs2 f2 r hu hr hl h1 h2 h3 h4 h5 h6 h7 h8
            have hu':∃ r',upd e y p v=some r'∧r=⟨.pt true te r'.sh,some r'.x⟩:=by
             cases hq:upd e y p v with
             | none => simp [upd,hq] at hu
             | some r' => exact ⟨r',rfl,by simp only [upd,Option.getD_some,hq,Option.some.injEq] at hu; exact hu.symm⟩
            obtain ⟨r',hr',rfl⟩:=hu'
            obtain ⟨cs3,f3,k1,k2,k3,k4⟩:=F.put Z2 w2 v cs2 f2 r' hr' hr hl h1 h2
             (fun k hk hn hne => h3 k ((hfe k).2 (.inr hk)) hn hne) h4
             (fun hne => h3 g1 hfg1 (fun h' => hfd (F.sub g1 h')) (Ne.symm hne))
             (fun k hk hk2 => h6 k hk ((hfe k).2 (.inr hk2))) h7
             (fun h' => hfd (F.sub g1 (h6 g1 h' hfg1)))
            have hnf3:¬ f3 g1:=by
             intro h'
             rcases (k2 g1).1 h' with ⟨h',_⟩ | h'
             ·exact hfd h'
             ·exact hfd (F.sub g1 (h6 g1 h' hfg1))
            refine ⟨[.pointer (some ⟨g1,0,none⟩)],fun k => k=g1∨f3 k,⟨_,cs3,f3,rfl,k1,g1,rfl,by simpa using k4,fun k => Iff.rfl,hnf3⟩,?_,rfl,?_⟩
            ·intro k
             show k=g1∨f3 k↔_
             rw [k2 k,hfe k]
             constructor
             ·rintro (h | ⟨h,hn⟩ | h)
              ·exact .inl ⟨.inl h,fun h' => hfd (h ▸ F.sub k h')⟩
              ·exact .inl ⟨.inr h,hn⟩
              ·exact .inr h
             ·rintro (⟨h | h,hn⟩ | h)
              ·exact .inl h
              ·exact .inr (.inl ⟨h,hn⟩)
              ·exact .inr (.inr h)
            ·rw [h5 hgb]; exact hh
     | fst => simp [okAt] at hok
     | snd => simp [okAt] at hok
     | idx i => simp [okAt] at hok
end Go.Vm
