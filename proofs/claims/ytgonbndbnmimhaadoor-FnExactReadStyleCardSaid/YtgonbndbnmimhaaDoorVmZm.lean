/- Calls that change two arguments. -/
import Derived.Test.YtgonbndbnmimhaaDoorVmZv
set_option linter.unusedVariables false
set_option linter.unusedSimpArgs false
namespace Go.Vm
open Go
def argsM2 (T:Tbl) (S:SS) (ty:Nat):List Operand→Option (List TV × List (Nat × Nat))
 | [] => some ([],[])
 | X :: r => match opd T S ty X with
   | some (.copy k []) => match S.get k,argsM2 T S ty r with
     | some (.val s x),some (ts,l) => some (⟨s,x⟩ :: ts,(k,0) :: l.map fun q => (q.1,q.2+1))
     | _,_ => none
   | _ => match argO T S ty X,argsM2 T S ty r with
     | some (t,false),some (ts,l) => some (t :: ts,l.map fun q => (q.1,q.2+1))
     | _,_ => none
section
variable {P:Program} {T:Tbl} {Z:Fp} {F:Nat→Fp} {w0:World} {Wr Zi:Fp} {N:Fr} {S S' S1:SS} {a:Act} {w:World} {o:Oper}
theorem argsM2_rep (h:RelX Z F w0 Wr Zi N S a w) {ty:Nat}:∀ {l:List Operand} {ts:List TV} {m:List (Nat × Nat)},argsM2 T S ty l=some (ts,m) → (m.map (·.1)).Nodup →
 ∃ f,VReps Z w ts (l.map a.eval) f ∧ (∀ i,f i→∃ q ∈ m,F q.1 i)∧∀ q ∈ m,∃ v,a.tmps[q.1]?=some v ∧ (l.map a.eval)[q.2]?=some v
 | [],ts,m,ho,hn => by
   cases ho
   exact ⟨fun _ => False,⟨rfl,fun _ => id⟩,fun i hi => hi.elim,fun q hq => absurd hq List.not_mem_nil⟩
 | X :: r,ts,m,ho,hn => by
   simp only [argsM2] at ho
   split at ho
   ·rename_i k hX
    split at ho
    ·rename_i s x ts' l hg hr
     cases ho
     simp only [List.map_cons,List.map_map,List.nodup_cons] at hn
     obtain ⟨hn1,hn2⟩:=hn
     have hmap:(l.map ((fun x => x.1) ∘ fun q:Nat × Nat => (q.1,q.2+1)))=l.map (·.1):=List.map_congr_left fun _ _ => rfl
     rw [hmap] at hn1 hn2
     obtain ⟨f,q1,q2,q3⟩:=argsM2_rep h hr hn2
     obtain ⟨_,s',x',vh,hh,hor⟩:=opd_rep h hX
     have hv:a.eval X=vh:=by
      rcases hor with ⟨_,h1⟩ | ⟨g,oo,s3,x3,cs,hroot,hp,_⟩
      ·exact h1
      ·exact absurd rfl hp
     obtain ⟨v,hv1,hrep⟩:=h.rep k _ (SS.get_mem hg)
     obtain rfl:vh=v:=by have:=hh.tmp; rw [hv1] at this; simpa using this.symm
     refine ⟨fun i => F k i∨f i,⟨a.eval X,_,F k,f,rfl,fun i => Iff.rfl,fun i hi hi2 => ?_,by rw [hv]; exact hrep,q1⟩,?_,?_⟩
     ·obtain ⟨q,hq,hF⟩:=q2 i hi2
      have:=h.apart k q.1 i hi hF
      exact hn1 (by rw [this]; exact List.mem_map.2 ⟨q,hq,rfl⟩)
     ·rintro i (hi | hi)
      ·exact ⟨_,List.mem_cons_self,hi⟩
      ·obtain ⟨q,hq,hF⟩:=q2 i hi
       exact ⟨_,List.mem_cons_of_mem _ (List.mem_map.2 ⟨q,hq,rfl⟩),hF⟩
     ·intro q hq
      rcases List.mem_cons.1 hq with rfl | hq
      ·exact ⟨_,hv1,by simp [hv]⟩
      ·obtain ⟨q',hq',rfl⟩:=List.mem_map.1 hq
       obtain ⟨v,e1,e2⟩:=q3 q' hq'
       exact ⟨v,e1,by simpa using e2⟩
    ·cases ho
   ·split at ho
    ·rename_i t ts' l h1 hr
     cases ho
     have hmap:(List.map (fun x => x.1) (l.map fun q:Nat × Nat => (q.1,q.2+1)))=l.map (·.1):=by rw [List.map_map]; exact List.map_congr_left fun _ _ => rfl
     rw [hmap] at hn
     obtain ⟨f,q1,q2,q3⟩:=argsM2_rep h hr hn
     refine ⟨f,vreps_cons ((argO_rep h h1).2 rfl) q1,fun i hi => ?_,fun q hq => ?_⟩
     ·obtain ⟨q,hq,hF⟩:=q2 i hi
      exact ⟨_,List.mem_map.2 ⟨q,hq,rfl⟩,hF⟩
     ·obtain ⟨q',hq',rfl⟩:=List.mem_map.1 hq
      obtain ⟨v,e1,e2⟩:=q3 q' hq'
      exact ⟨v,e1,by simpa using e2⟩
    ·cases ho
theorem vreps_two {Z:Fp} {w:World}:∀ {ts:List TV} {vs:List Value} {f:Fp} {j1 j2:Nat} {t1 t2:TV},VReps Z w ts vs f→j1 < j2→ts[j1]?=some t1→ts[j2]?=some t2 →
 ∃ v1 v2 g1 g2,vs[j1]?=some v1∧vs[j2]?=some v2∧VRep Z w t1.sh t1.x v1 g1∧VRep Z w t2.sh t2.x v2 g2 ∧ (∀ i,g1 i→f i) ∧ (∀ i,g2 i→f i)∧∀ i,g1 i→¬ g2 i
 | [],vs,f,j1,j2,t1,t2,_,_,hj,_ => by simp at hj
 | u :: ts,vs,f,j1,j2,t1,t2,h,hlt,h1,h2 => by
   obtain ⟨v,vs',f1,f2,rfl,he,hd,r1,r2⟩:=h
   obtain ⟨j2,rfl⟩:∃ j,j2=j+1:=⟨j2 - 1,by omega⟩
   cases j1 with
   | zero =>
     simp only [List.getElem?_cons_zero,Option.some.injEq] at h1
     subst h1
     obtain ⟨v2,g2,q1,q2,q3⟩:=vreps_nth r2 (by simpa using h2)
     exact ⟨v,v2,f1,g2,rfl,by simpa using q1,r1,q2,fun i hi => (he i).2 (.inl hi),fun i hi => (he i).2 (.inr (q3 i hi)),fun i hi hi2 => hd i hi (q3 i hi2)⟩
   | succ j1 =>
     obtain ⟨v1,v2,g1,g2,q1,q2,q3,q4,q5,q6,q7⟩:=vreps_two r2 (show j1 < j2 by omega) (by simpa using h1) (by simpa using h2)
     exact ⟨v1,v2,g1,g2,by simpa using q1,by simpa using q2,q3,q4,fun i hi => (he i).2 (.inr (q5 i hi)),fun i hi => (he i).2 (.inr (q6 i hi)),q7⟩
theorem RelX.turnG (h:RelX Z F w0 Wr Zi N S a w) {k:Nat} {s:Sh} {x:s.den} {v:Value} {w':World} {f U Zn:Fp} (hv:a.tmps[k]?=some v) (hg:Grow U w w') (hU:∀ i,U i→¬ Z i ∧ (∀ t,t≠k→¬ F t i) ∧ (Wr i∨w0.heap.size≤i))
 (hz:∀ i,Zn i→w.heap.size≤i∧i < w'.heap.size) (hf:∀ i,f i→i < w'.heap.size ∧ (U i∨w.heap.size≤i)∧¬ Zn i) (hrep:VRep (fun i => Z i∨Zn i) w' s x v f) :
 RelX (fun i => Z i∨Zn i) (fun t => if t=k then f else F t) w0 Wr Zi N (S.put k (.val s x)) a w':=by
 have hlt:k < a.tmps.size:=(Array.getElem?_eq_some_iff.1 hv).1
 have hZ:∀ i,Z i→w'.heap[i]?=w.heap[i]?:=fun i hi => hg.block i (h.zlt i hi) (fun hu => (hU i hu).1 hi)
 have hF:∀ t,t≠k→∀ i,F t i→w'.heap[i]?=w.heap[i]?:=fun t ht i hi => hg.block i (h.lt t i hi) (fun hu => (hU i hu).2.1 t ht hi)
 refine ⟨h.tsize,h.pins,uniq_put h.uniq,?_,?_,?_,?_,?_,?_,?_,h.defers,?_⟩
 ·rintro i (hi | hi)
  ·exact Nat.lt_of_lt_of_le (h.zlt i hi) hg.size
  ·exact (hz i hi).2
 ·rintro i (hi | hi) hlt'
  ·exact h.zin i hi hlt'
  ·have:=(hz i hi).1; have:=h.grow.size; omega
 ·intro t i hi
  by_cases e:t=k
  ·simp only [e,if_true] at hi
   rcases (hf i hi).2.1 with h' | h'
   ·exact (hU i h').2.2
   ·exact .inr (Nat.le_trans h.grow.size h')
  ·simp only [e,if_false] at hi; exact h.wr t i hi
 ·intro t i hi hzz
  by_cases e:t=k
  ·simp only [e,if_true] at hi
   rcases hzz with hzz | hzz
   ·rcases (hf i hi).2.1 with h' | h'
    ·exact (hU i h').1 hzz
    ·have:=h.zlt i hzz; omega
   ·exact (hf i hi).2.2 hzz
  ·simp only [e,if_false] at hi
   rcases hzz with hzz | hzz
   ·exact h.nz t i hi hzz
   ·have:=h.lt t i hi; have:=(hz i hzz).1; omega
 ·intro t i hi
  by_cases e:t=k
  ·simp only [e,if_true] at hi; exact (hf i hi).1
  ·simp only [e,if_false] at hi; exact Nat.lt_of_lt_of_le (h.lt t i hi) hg.size
 ·intro t u i ht hu
  by_cases e1:t=k <;> by_cases e2:u=k <;> simp only [e1,e2,if_true,if_false] at ht hu
  ·rw [e1,e2]
  ·exfalso
   rcases (hf i ht).2.1 with h' | h'
   ·exact (hU i h').2.1 u e2 hu
   ·have:=h.lt u i hu; omega
  ·exfalso
   rcases (hf i hu).2.1 with h' | h'
   ·exact (hU i h').2.1 t e1 ht
   ·have:=h.lt t i ht; omega
  ·exact h.apart t u i ht hu
 ·exact h.grow.step hg (fun i hi => (hU i hi).2.2)
 ·intro t sv' hm
  rcases SS.mem_put.1 hm with he | ⟨hm,hne,hr,ht⟩
  ·simp only [Prod.mk.injEq] at he
   obtain ⟨rfl,rfl⟩:=he
   refine ⟨v,hv,?_⟩
   simp only [if_true]
   exact hrep
  ·obtain ⟨v',hv',hrep'⟩:=h.rep t sv' hm
   simp only at hne hr ht
   refine ⟨v',hv',?_⟩
   simp only [hne,if_false]
   refine SV.rep_turn (Z:=Z) (fun i => .inl) hZ (hF t hne) ?_ (fun g hg => rfl) hrep'
   intro q hq s1 x1 vh hh
   have hkd:q≠k:=fun e => by rw [e,hr] at hq; cases hq
   refine ⟨⟨SS.mem_put.2 (.inr ⟨hh.get,hkd,rfl,rfl⟩),hh.tmp⟩,fun hs => ?_⟩
   obtain ⟨v1,hv1,hr1⟩:=h.rep q _ hh.get
   rw [hh.tmp] at hv1
   obtain rfl:vh=v1:=by simpa using hv1
   exact ⟨F q,root_cells hs hr1,hF q hkd⟩
def twoS (S:SS) (k1 k2:Nat) (fin1 fin2:TV):SS:=((S.kill k2).put k1 (.val fin1.sh fin1.x)).put k2 (.val fin2.sh fin2.x)
theorem callM2_ok (h:RelX Z F w0 Wr Zi N S a w) {f:Nat} {xs:Array Operand} {tys:Array TypeId} {ins fins:List TV} {k1 k2 j1 j2:Nat} {fin1 fin2:TV} (ho:o.op=.call { callee:=.value (.func f),args:=xs,argTypes:=tys }) (hp:(o.dst=none∧S'=twoS S k1 k2 fin1 fin2)∨putS N (twoS S k1 k2 fin1 fin2) o.dst (retS [])=some S')
 (hx:argsM2 T S o.type xs.toList=some (ins,[(k1,j1),(k2,j2)])) (hk:k1≠k2) (hj:j1 < j2) (hf1:fins[j1]?=some fin1) (hf2:fins[j2]?=some fin2) (hg2:∃ s x,S.get k2=some (.val s x)) (hc:PMut P f ins [] fins) :
 Does P o a w (Rel w0 Wr Zi N S'):=by
 intro K Q hK
 obtain ⟨⟨fn,hfn,hname,hbody⟩,hcall⟩:=hc
 obtain ⟨f0,hargs,hf0,hvals⟩:=argsM2_rep h hx (by simp [hk])
 obtain ⟨v1,hv1,ha1⟩:=hvals (k1,j1) List.mem_cons_self
 obtain ⟨v2,hv2,ha2⟩:=hvals (k2,j2) (List.mem_cons_of_mem _ List.mem_cons_self)
 have hf0':∀ i,f0 i→F k1 i∨F k2 i:=fun i hi => by
  obtain ⟨q,hq,hF⟩:=hf0 i hi
  rcases List.mem_cons.1 hq with rfl | hq
  ·exact .inl hF
  ·rcases List.mem_cons.1 hq with rfl | hq
   ·exact .inr hF
   ·cases hq
 have hnz:∀ i,f0 i→¬ Z i:=fun i hi hz => (hf0' i hi).elim (fun h' => h.nz k1 i h' hz) (fun h' => h.nz k2 i h' hz)
 have hev:a.eval (.func f)=.func (.func f) #[] #[]:=rfl
 have hrun:(execOp a.eval o).run P w=.ok (.enter f (xs.toList.map a.eval).toArray) w:=by
  have:(xs.map a.eval) = (xs.toList.map a.eval).toArray:=by apply Array.toList_inj.1; simp
  have hname' : ¬ fn.name = "runtime.NumGoroutine" := by simpa using hname
  have hbody':¬ fn.body=none:=by intro e; rw [e] at hbody; cases hbody
  simp [execOp,ho,resolve,hev,Deferred.ofValue,invoke,callFunc,hfn,hname',hbody',this]
 unfold Oper.wp
 rw [hrun,Oper.upon_enter]
 refine (hcall Z w _ f0 h.zlt hargs hnz).mono ?_
 rintro e w' ⟨vs,Fr,f1,Zn,rfl,hzn,hvs,hfr',hfs,hf1',hgr⟩
 refine hK _ _ ?_
 obtain ⟨u1,u2,g1,g2,e1,e2,r1,r2,s1,s2,s3⟩:=vreps_two hfs hj hf1 hf2
 rw [ha1] at e1
 rw [ha2] at e2
 obtain rfl:v1=u1:=by simpa using e1
 obtain rfl:v2=u2:=by simpa using e2
 let Zx:Fp:=fun i => Zn i∧w.heap.size≤i
 have hZx:∀ i,Zn i→Z i∨Zx i:=fun i hi => by
  by_cases hlt:i < w.heap.size
  ·exact .inl ((hzn i hi).2 hlt)
  ·exact .inr ⟨hi,by omega⟩
 obtain ⟨sg,xg,hg2⟩:=hg2
 obtain ⟨_,_,_,h1,hh⟩:=h.take (SS.get_mem hg2)
 have hF1:∀ t i,(if t=k2 then (fun _ => False) else F t:Fp) i→t≠k2∧F t i:=fun t i hi => by
  by_cases e:t=k2
  ·simp [e] at hi
  ·exact ⟨e,by simpa [e] using hi⟩
 have h2:=h1.turnG (Zn:=Zx) (f:=g1) (U:=f0) (k:=k1) hv1 hgr (fun i hi => ⟨hnz i hi,fun t ht hF => ?_,?_⟩) (fun i hi => ⟨hi.2,(hzn i hi.1).1⟩)
  (fun i hi => ⟨VRep.lt r1 i hi,(hf1' i (s1 i hi)).1,fun hz => (hf1' i (s1 i hi)).2 hz.1⟩) (VRep.same hZx (fun i _ => rfl) (fun i _ => rfl) r1)
 ·have h3:=h2.putG (d:=k2) (sv:=.val fin2.sh fin2.x) (v:=v2) (f:=g2) (U:=fun _ => False) (w':=w') (Array.getElem?_eq_some_iff.1 hv2).1 (fun _ => hv2) (Grow.refl _ _) (fun i hi => hi.elim)
   (fun i hi => ⟨VRep.lt r2 i hi,.inr ⟨?_,fun t ht hF => ?_,?_⟩⟩) (VRep.same hZx (fun i _ => rfl) (fun i _ => rfl) r2)
  ·rw [put_idem hv2] at h3
   rcases hp with ⟨hd,rfl⟩ | hp
   ·rw [hd]; exact ⟨_,_,h3⟩
   ·obtain ⟨d,hd,hlt,hrd,htd,rfl⟩:=putS_some hp
    rw [hd]
    obtain ⟨rfl,hfr0⟩:=hvs
    exact ⟨_,_,h3.putR (d:=d) (sv:=retS []) (v:=RetV []) (by rw [h.tsize]; exact hlt.1) (fun hm => absurd hm hlt.2) (retS_rep (outs:=[]) (vs:=[]) (Fr:=fun _ => False) ⟨rfl,fun _ => id⟩) hrd htd⟩
  ·rintro (hz | hz)
   ·rcases (hf1' i (s2 i hi)).1 with h' | h'
    ·exact hnz i h' hz
    ·have:=h.zlt i hz; omega
   ·exact (hf1' i (s2 i hi)).2 hz.1
  ·by_cases e:t=k1
   ·simp only [e,if_true] at hF
    exact s3 i hF hi
   ·simp only [e,if_false] at hF
    obtain ⟨_,hF⟩:=hF1 t i hF
    rcases (hf1' i (s2 i hi)).1 with h' | h'
    ·rcases hf0' i h' with h'' | h''
     ·exact e (h.apart t k1 i hF h'')
     ·exact ht (h.apart t k2 i hF h'')
    ·have:=h.lt t i hF; omega
  ·rcases (hf1' i (s2 i hi)).1 with h' | h'
   ·rcases hf0' i h' with h'' | h''
    ·exact h.wr k1 i h''
    ·exact h.wr k2 i h''
   ·exact .inr (Nat.le_trans h.grow.size h')
 ·obtain ⟨h9,hF⟩:=hF1 t i hF
  rcases hf0' i hi with h'' | h''
  ·exact ht (h.apart t k1 i hF h'')
  ·exact h9 (h.apart t k2 i hF h'')
 ·rcases hf0' i hi with h'' | h''
  ·exact h.wr k1 i h''
  ·exact h.wr k2 i h''
end
section
variable {P:Program} {T:Tbl} {w0:World} {Wr Zi:Fp} {N:Fr} {S S' S1:SS} {a:Act} {w:World} {Q:Exit→Act→World→Prop}
theorem steps_then (hT:TOk P T) {orc:Nat→List TV} {ops:Array Oper} {l2:List Oper}:∀ {l:List Oper} {S S':SS} {c:List Prop} {a:Act} {w:World},Rel w0 Wr Zi N S a w→steps T P N orc ops l S=some (S',c)→AllP c → (∀ a' w',Rel w0 Wr Zi N S' a' w'→wpList P ops Q l2 a' w')→wpList P ops Q (l ++ l2) a w
 | [],S,S',c,a,w,h,hs,hc,hQ => by cases hs; exact hQ a w h
 | o :: r,S,S',c,a,w,h,hs,hc,hQ => by
   simp only [steps] at hs
   split at hs
   ·rename_i S1 c1 h1
    split at hs
    ·rename_i S2 c2 h2
     cases hs
     obtain ⟨Z,F,hX⟩:=h
     rw [List.cons_append]
     refine wpList_step fun K hK => ?_
     exact stepG_ok hT hX h1 hc.left.right hc.left.left K Q (fun a' w' hr => hK a' w' (steps_then hT hr h2 hc.right hQ))
    ·cases hs
   ·cases hs
def lastM (T:Tbl) (P:Program) (N:Fr) (S:SS) (o:Oper) (fin1 fin2:TV):SP:=match o.op,o.guard with
 | .call c,none => match c.callee with
   | .value (.func f) => match argsM2 T S o.type c.args.toList with
     | some (ins,[(k1,j1),(k2,j2)]) => match S.get k2 with
       | some (.val _ _) => if k1≠k2∧j1 < j2∧j2 < ins.length then (match o.dst with
         | none => some (twoS S k1 k2 fin1 fin2,[PMut P f ins [] ((ins.set j1 fin1).set j2 fin2)])
         | some d => outS N (twoS S k1 k2 fin1 fin2) (some d) (retS []) [PMut P f ins [] ((ins.set j1 fin1).set j2 fin2)]) else none
       | _ => none
     | _ => none
   | _ => none
 | _,_ => none
def regM (T:Tbl) (P:Program) (N:Fr) (orc:Nat→List TV) (ops:Array Oper) (p:Nat) (fin1 fin2:TV) (S:SS):SP:=match steps T P N orc ops (ops.toList.take p) S,ops.toList.drop p with
 | some (S1,c1),[o] => match lastM T P N S1 o fin1 fin2 with
   | some (S2,c2) => some (S2,c1 ++ c2)
   | none => none
 | _,_ => none
def regMS (T:Tbl) (P:Program) (N:Fr) (orc:Nat→List TV) (ops:Array Oper) (p:Nat) (fin1 fin2:TV) (S:SS):SS:=match regM T P N orc ops p fin1 fin2 S with
 | some r => r.1
 | none => []
theorem lastM_ok {o:Oper} {ops:Array Oper} {fin1 fin2:TV} {c:List Prop} (h:Rel w0 Wr Zi N S a w) (hl:lastM T P N S o fin1 fin2=some (S',c)) (hc:AllP c):DoesG P ops o a w (Rel w0 Wr Zi N S'):=by
 unfold lastM at hl
 split at hl
 ·rename_i c0 hop hgd
  split at hl
  ·rename_i f hcal
   split at hl
   ·rename_i ins k1 j1 k2 j2 hx
    split at hl
    ·rename_i s x hg
     split at hl
     ·rename_i hcond
      obtain ⟨Z,F,hX⟩:=h
      obtain ⟨c1,xs,tys⟩:=c0
      simp only at hcal hx
      subst hcal
      have key:((o.dst=none∧S'=twoS S k1 k2 fin1 fin2)∨putS N (twoS S k1 k2 fin1 fin2) o.dst (retS [])=some S')∧c=[PMut P f ins [] ((ins.set j1 fin1).set j2 fin2)]:=by
       split at hl
       ·rename_i hd
        cases hl
        exact ⟨.inl ⟨hd,rfl⟩,rfl⟩
       ·rename_i d hd
        obtain ⟨hp,rfl⟩:=outS_some hl
        exact ⟨.inr (by rw [hd]; exact hp),rfl⟩
      obtain ⟨hp,rfl⟩:=key
      intro K Q hK
      rw [if_pos (by simp [Region.wanted,hgd])]
      refine callM2_ok hX hop hp hx hcond.1 hcond.2.1 (fin1:=fin1) (fin2:=fin2) ?_ ?_ ⟨s,x,hg⟩ hc.1 K Q hK
      ·have hlt:j1 < ins.length:=by omega
       rw [List.getElem?_set_ne (by omega)]
       simp [hlt]
      ·simp [hcond.2.2]
     ·cases hl
    ·cases hl
   ·cases hl
  ·cases hl
 ·cases hl
theorem wp_regm (hT:TOk P T) {id:Nat} {ops:Array Oper} {orc:Nat→List TV} {c:List Prop} (p:Nat) (fin1 fin2:TV) (h:Rel w0 Wr Zi N S a w) (hcq:(regM T P N orc ops p fin1 fin2 S).map (·.2)=some c) (hc:AllP c)
 (hrest:∀ a' w',Rel w0 Wr Zi N (regMS T P N orc ops p fin1 fin2 S) a' w'→Q .normal a' w'):(Code.region id ops false).wp P Q a w:=by
 obtain ⟨r,hr,rfl⟩:=Option.map_eq_some_iff.1 hcq
 obtain ⟨S2,c2⟩:=r
 have hS:regMS T P N orc ops p fin1 fin2 S=S2:=by unfold regMS; rw [hr]
 rw [hS] at hrest
 unfold regM at hr
 split at hr
 ·rename_i S1 c1 o hs hdrop
  split at hr
  ·rename_i S3 c3 hl
   cases hr
   refine wp_region_list ?_
   rw [← List.take_append_drop p ops.toList,hdrop]
   refine steps_then hT h hs hc.left (fun a' w' h' => ?_)
   refine wpList_step fun K hK => ?_
   exact lastM_ok h' hl hc.right K Q (fun a'' w'' h'' => hK a'' w'' (hrest a'' w'' h''))
  ·cases hr
 ·cases hr
theorem wp_regm_seq (hT:TOk P T) {id:Nat} {ops:Array Oper} {rest:Code} {orc:Nat→List TV} {c:List Prop} (p:Nat) (fin1 fin2:TV) (h:Rel w0 Wr Zi N S a w) (hcq:(regM T P N orc ops p fin1 fin2 S).map (·.2)=some c) (hc:AllP c)
 (hrest:∀ a' w',Rel w0 Wr Zi N (regMS T P N orc ops p fin1 fin2 S) a' w'→rest.wp P Q a' w'):((Code.region id ops false).seq rest).wp P Q a w :=
 wp_seq (wp_regm hT p fin1 fin2 h hcq hc hrest)
end
end Go.Vm
