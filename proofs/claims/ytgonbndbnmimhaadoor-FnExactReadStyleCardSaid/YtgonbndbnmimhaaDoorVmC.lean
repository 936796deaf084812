/- Places from a slot's value on; freezing; where places lie when nothing moved. -/
import Derived.Test.YtgonbndbnmimhaaDoorVmB
set_option linter.unusedVariables false
set_option linter.unusedSimpArgs false
namespace Go.Vm
open Go
def Sh.fz (s:Sh) (x:s.den):s.ro.den:=cast (Sh.den_ro s).symm x
theorem map_cast {α β:Type} (h:α=β) (xs:List α):List.map (cast h) xs=cast (congrArg List h) xs:=by
 subst h
 show List.map (fun x => x) xs=xs
 simp
theorem omap_cast {α β:Type} (h:α=β) (xs:Option α):Option.map (cast h) xs=cast (congrArg Option h) xs:=by
 subst h
 show Option.map (fun x => x) xs=xs
 simp
theorem pair_cast {α β γ δ:Type} (h:α=β) (k:γ=δ) (x:α × γ):(cast h x.1,cast k x.2)=cast (by rw [h,k]) x:=by
 subst h; subst k; rfl
theorem Sh.fz_pair (a b:Sh) (x:(Sh.pair a b).den):(Sh.pair a b).fz x = (a.fz x.1,b.fz x.2):=(pair_cast _ _ _).symm
theorem Sh.fz_sl (o:Bool) (t:Nat) (e:Sh) (x:(Sh.sl o t e).den):(Sh.sl o t e).fz x=List.map e.fz x:=(map_cast _ _).symm
theorem Sh.fz_some (o:Bool) (t:Nat) (e:Sh) (x:e.den):(Sh.pt o t e).fz (some x)=some (e.fz x):=(omap_cast _ (some x)).symm
theorem Sh.fz_mp (o:Bool) (k v:Sh) (x:(Sh.mp o k v).den):(Sh.mp o k v).fz x=x:=rfl
theorem Sh.fz_fn (g:Nat) (c:Sh) (x:(Sh.fn g c).den):(Sh.fn g c).fz x=c.fz x:=rfl
theorem Sh.fz_none (o:Bool) (t:Nat) (e:Sh):(Sh.pt o t e).fz none=none:=(omap_cast (Sh.den_ro e).symm none).symm
theorem RRep.map {α β:Type} {R:α→List Value→Fp→Prop} {R':β→List Value→Fp→Prop} {m:α→β} {N:Fp} (hN:∀ i,¬ N i) :
 ∀ {xs:List α} {cs:List Value} {f:Fp},(∀ x cs f',(∀ i,f' i→f i)→R x cs f'→R' (m x) cs N)→RRep R xs cs f→RRep R' (xs.map m) cs N
 | [],cs,f,_,h => ⟨h.1,hN⟩
 | x :: xs,cs,f,hR,h => by
   obtain ⟨c1,c2,f1,f2,rfl,hf,hd,h1,h2⟩:=h
   exact ⟨c1,c2,N,N,rfl,fun i => ⟨.inl,fun h => h.elim id id⟩,fun i h => absurd h (hN i),hR _ _ _ (fun i hi => (hf i).2 (.inl hi)) h1,RRep.map hN (fun x cs f' hs => hR x cs f' (fun i hi => (hf i).2 (.inr (hs i hi)))) h2⟩
theorem CRep.freeze {Z Z':Fp} {w:World} (hZ:∀ i,Z i→Z' i):∀ {s:Sh} {x:s.den} {cs:List Value} {f:Fp},(∀ i,f i→Z' i)→CRep Z w s x cs f→CRep Z' w s.ro (s.fz x) cs (fun _ => False)
 | .int k,x,cs,f,_,h => ⟨h.1,fun i => id⟩
 | .bool,x,cs,f,_,h => ⟨h.1,fun i => id⟩
 | .str,x,cs,f,_,h => ⟨h.1,fun i => id⟩
 | .unit,x,cs,f,_,h => ⟨h.1,fun i => id⟩
 | .any,x,cs,f,_,h => ⟨h.1,fun i => id⟩
 | .raw,x,cs,f,_,h => ⟨h.1,fun i => id⟩
 | .gh true,x,cs,f,hf,h => ⟨h.1,fun i => id,f,hf,h.2⟩
 | .gh false,x,cs,f,_,h => ⟨h.1,fun i => id,h.2.2.elim fun fg hg => ⟨fg,fun i hi => hZ i (hg.1 i hi),hg.2⟩⟩
 | .pair a b,x,cs,f,hf,h => by
   obtain ⟨c1,c2,f1,f2,rfl,he,hd,h1,h2⟩:=h
   rw [Sh.fz_pair]
   exact ⟨c1,c2,fun _ => False,fun _ => False,rfl,fun i => ⟨.inl,fun h => h.elim id id⟩,fun i h => h.elim,CRep.freeze hZ (fun i hi => hf i ((he i).2 (.inl hi))) h1,CRep.freeze hZ (fun i hi => hf i ((he i).2 (.inr hi))) h2⟩
 | .st s,x,cs,f,hf,h => CRep.freeze (s:=s) hZ hf h
 | .sl true t e,xs,cs,f,hf,h => by
   obtain ⟨v,inner,fr,rfl,hr,ho,he,hd⟩:=h
   rw [Sh.fz_sl]
   refine ⟨v,inner,fun _ => False,rfl,RRep.map (fun i => id) (fun x cs f' hs hx => CRep.freeze hZ (fun i hi => hf i ((he i).2 (.inr (hs i hi)))) hx) hr,fun i => id,fun i => id,?_⟩
   have hin:=RRep.length (size:=e.size) (fun x cs f h => CRep.length h) hr
   rcases ho.2 with ⟨rfl,h0⟩ | ⟨g,cap,cur,rfl,_,hg,hnc,hcm,hcs,htake⟩
   ·have:xs=[]:=List.eq_nil_of_length_eq_zero h0
    subst this
    have:inner=[]:=List.eq_nil_of_length_eq_zero (by simpa using hin)
    subst this
    exact ⟨none,0,by simp,by simp,by omega,by simp,by simp⟩
   ·refine ⟨some ⟨g,0,none⟩,cap,by simp,by simpa using hnc,by simpa [maxLen] using hcm,fun _ => ⟨_,rfl⟩,fun j u hu => ⟨_,rfl,hf g ((he g).2 (.inl rfl)),?_⟩⟩
    exact ho.cells (g:=g) rfl j u hu
 | .sl false t e,xs,cs,f,hf,h => by
   obtain ⟨v,inner,fr,rfl,hr,h0,h1,A,c,hv,hc,hm,hs,hread⟩:=h
   rw [Sh.fz_sl]
   refine ⟨v,inner,fun _ => False,rfl,RRep.map (fun i => id) (fun x cs f' hs' hx => CRep.freeze hZ (fun i hi => absurd (hs' i hi) (h1 i)) hx) hr,fun i => id,fun i => id,A,c,by simpa using hv,by simpa using hc,hm,by simpa using hs,fun j u hu => ?_⟩
   obtain ⟨ad,hA,hz,hcell⟩:=hread j u hu
   exact ⟨ad,hA,hZ _ hz,hcell⟩
 | .pt true _ _,none,cs,f,_,h => by rw [Sh.fz_none]; exact ⟨h.1,fun i => id⟩
 | .pt false _ _,none,cs,f,_,h => by rw [Sh.fz_none]; exact ⟨h.1,fun i => id⟩
 | .pt true t e,some y,cs,f,hf,h => by
   obtain ⟨v,inner,fr,rfl,hr,g,hv,hh,he,hd⟩:=h
   rw [Sh.fz_some]
   refine ⟨v,inner,fun _ => False,rfl,CRep.freeze hZ (fun i hi => hf i ((he i).2 (.inr hi))) hr,fun i => id,fun i => id,⟨g,0,none⟩,hv,fun j u hu => ⟨hf g ((he g).2 (.inl rfl)),?_⟩⟩
   have:(⟨g,0,none⟩:Addr).add j=⟨g,j,none⟩:=by unfold Addr.add; split <;> simp_all
   rw [this,cells_get hh]; exact hu
 | .pt false t e,some y,cs,f,hf,h => by
   obtain ⟨v,inner,fr,rfl,hr,h0,h1,ad,hv,hread⟩:=h
   rw [Sh.fz_some]
   refine ⟨v,inner,fun _ => False,rfl,CRep.freeze hZ (fun i hi => absurd hi (h1 i)) hr,fun i => id,fun i => id,ad,hv,fun j u hu => ?_⟩
   obtain ⟨hz,hcell⟩:=hread j u hu
   exact ⟨hZ _ hz,hcell⟩
 | .mp true _ _,none,cs,f,_,h => by rw [Sh.fz_mp]; exact ⟨h.1,fun i => id⟩
 | .mp false _ _,none,cs,f,_,h => by rw [Sh.fz_mp]; exact ⟨h.1,fun i => id⟩
 | .mp true k v,some l,cs,f,hf,h => by
   obtain ⟨g,es,clk,rfl,hg,hm,he⟩:=h
   rw [Sh.fz_mp]
   exact ⟨fun i => id,g,es,clk,rfl,hf g ((he g).2 rfl),hg,hm.imp (fun x cs hx => CRep.same hZ (fun i hi => rfl) (fun i hi => hi.elim) hx) (fun x cs hx => CRep.same hZ (fun i hi => rfl) (fun i hi => hi.elim) hx)⟩
 | .mp false k v,some l,cs,f,hf,h => by
   obtain ⟨h0,g,es,clk,rfl,hz,hg,hm⟩:=h
   rw [Sh.fz_mp]
   exact ⟨fun i => id,g,es,clk,rfl,hZ _ hz,hg,hm.imp (fun x cs hx => CRep.same hZ (fun i hi => rfl) (fun i hi => hi.elim) hx) (fun x cs hx => CRep.same hZ (fun i hi => rfl) (fun i hi => hi.elim) hx)⟩
 | .fn _ c,x,cs,f,hf,h => by
   obtain ⟨vs,rfl,hr⟩:=h
   exact ⟨vs,rfl,CRep.freeze (s:=c) hZ hf hr⟩
theorem loc_same {Z:Fp} {w w':World}:∀ (p:Path) (s:Sh) (x:s.den) (b o:Nat) (cs:List Value) (f:Fp),
 CRep Z w s x cs f→okAt s x p → (∀ j u,cs[j]?=some u→w.cell? ⟨b,o+j,none⟩=some u) → (∀ j u,cs[j]?=some u→w'.cell? ⟨b,o+j,none⟩=some u) →
 (∀ i,f i→w'.heap[i]?=w.heap[i]?)→loc w' s b o p=loc w s b o p:=by
 intro p s
 induction s generalizing p with
 | int k | bool | str | unit | any | raw | gh _ | mp mo mk mv _ _ | fn ff fc _ =>
   intro x b o cs f h hok h1 h2 h3
   cases p with
   | nil => rfl
   | cons q p => cases q <;> simp [okAt] at hok
 | st s ih =>
   intro x b o cs f h hok h1 h2 h3
   cases p with
   | nil => rfl
   | cons q p =>
     have hok':okAt s x (q :: p):=by cases q <;> simpa [okAt] using hok
     have:=ih (q :: p) x b o cs f h hok' h1 h2 h3
     cases q <;> simpa [loc] using this
 | pair a c iha ihc =>
   intro x b o cs f h hok h1 h2 h3
   cases p with
   | nil => rfl
   | cons q p =>
     obtain ⟨ca,cc,fa,fc,rfl,hf,hd,ha,hc⟩:=h
     have hla:=CRep.length ha
     cases q with
     | fst =>
       have hok':okAt a x.1 p:=by simpa [okAt] using hok
       have left:∀ j u,ca[j]?=some u → (ca ++ cc)[j]?=some u:=fun j u hu => by
        rw [List.getElem?_append_left (List.getElem?_eq_some_iff.1 hu).1]; exact hu
       have:=iha p x.1 b o ca fa ha hok' (fun j u hu => h1 j u (left j u hu)) (fun j u hu => h2 j u (left j u hu)) (fun i hi => h3 i ((hf i).2 (.inl hi)))
       simpa [loc] using this
     | snd =>
       have hok':okAt c x.2 p:=by simpa [okAt] using hok
       have right:∀ j u,cc[j]?=some u → (ca ++ cc)[a.size+j]?=some u:=fun j u hu => by
        rw [List.getElem?_append_right (by omega),hla]; simpa using hu
       have:=ihc p x.2 b (o+a.size) cc fc hc hok' (fun j u hu => by rw [Nat.add_assoc]; exact h1 _ u (right j u hu)) (fun j u hu => by rw [Nat.add_assoc]; exact h2 _ u (right j u hu)) (fun i hi => h3 i ((hf i).2 (.inr hi)))
       simpa [loc] using this
     | idx i => simp [okAt] at hok
     | der => simp [okAt] at hok
 | sl ow te e ih =>
   intro x b o cs f h hok h1 h2 h3
   cases p with
   | nil => rfl
   | cons q p =>
     cases q with
     | idx i =>
       cases ow with
       | false => simp [okAt] at hok
       | true =>
         obtain ⟨hi,hok'⟩:i < List.length x∧okAt e (List.getD x i e.dflt) p:=by simpa [okAt] using hok
         obtain ⟨hv,inner,fr,rfl,hrr,ho,hfe,hfd⟩:=h
         obtain ⟨c1,c,c2,fi,hin,hl1,hget1,hsub1,_⟩:=RRep.focus (size:=e.size) (fun x cs f h => CRep.length h) e.dflt i hi hrr
         rcases ho.2 with ⟨rfl,h0⟩ | ⟨g1,cap,cur,rfl,_,hg1,hnc,hcm,hcs,htake⟩
         ·omega
         ·have e1:w.cell? ⟨b,o,none⟩=some (.slice (some ⟨g1,0,none⟩) (List.length x) cap):=by simpa using h1 0 _ rfl
          have e2:w'.cell? ⟨b,o,none⟩=some (.slice (some ⟨g1,0,none⟩) (List.length x) cap):=by simpa using h2 0 _ rfl
          have hg1':w'.heap[g1]?=some (.cells cur te):=by rw [h3 g1 ((hfe g1).2 (.inl rfl))]; exact hg1
          have hcells:∀ j u,c[j]?=some u→cur[i*e.size+j]?=some u:=by
           intro j u hu
           have hj:=(List.getElem?_eq_some_iff.1 hu).1
           have:inner[i*e.size+j]?=some u:=by
            rw [hin,List.append_assoc,List.getElem?_append_right (by omega),hl1,List.getElem?_append_left (by omega)]
            simpa using hu
           rw [← htake,List.getElem?_take] at this
           split at this
           ·simpa using this
           ·cases this
          have:=ih p (List.getD x i e.dflt) g1 (i*e.size) c fi hget1 hok' (fun j u hu => by simp [World.cell?,hg1,hcells j u hu]) (fun j u hu => by simp [World.cell?,hg1',hcells j u hu]) (fun k hk => h3 k ((hfe k).2 (.inr (hsub1 k hk))))
          simp only [loc,e1,e2]
          simpa using this
     | fst => simp [okAt] at hok
     | snd => simp [okAt] at hok
     | der => simp [okAt] at hok
 | pt ow te e ih =>
   intro x b o cs f h hok h1 h2 h3
   cases p with
   | nil => rfl
   | cons q p =>
     cases q with
     | der =>
       cases ow with
       | false => simp [okAt] at hok
       | true =>
         cases x with
         | none => simp [okAt] at hok
         | some y =>
           have hok':okAt e y p:=by simpa [okAt] using hok
           obtain ⟨hv,inner,fr,rfl,hre,g1,rfl,hg1,hfe,hfd⟩:=h
           have e1:w.cell? ⟨b,o,none⟩=some (.pointer (some ⟨g1,0,none⟩)):=by simpa using h1 0 _ rfl
           have e2:w'.cell? ⟨b,o,none⟩=some (.pointer (some ⟨g1,0,none⟩)):=by simpa using h2 0 _ rfl
           have hg1':w'.heap[g1]?=some (.cells inner.toArray te):=by rw [h3 g1 ((hfe g1).2 (.inl rfl))]; exact hg1
           have:=ih p y g1 0 inner fr hre hok' (fun j u hu => by rw [cells_get hg1]; simpa using hu) (fun j u hu => by rw [cells_get hg1']; simpa using hu) (fun k hk => h3 k ((hfe k).2 (.inr hk)))
           simp only [loc,e1,e2]
           simpa using this
     | fst => simp [okAt] at hok
     | snd => simp [okAt] at hok
     | idx i => simp [okAt] at hok
end Go.Vm
