/- Calls that write through one of their arguments. -/
import Derived.Test.YtgonbndbnmimhaaDoorVmMa
import Derived.Laws.BytesArg
set_option linter.unusedVariables false
set_option linter.unusedSimpArgs false
namespace Go.Vm
open Go
def PMut (P:Program) (f:Nat) (ins outs fins:List TV):Prop :=
 (∃ fn, P.funcs[f]? = some fn ∧ (fn.name == "runtime.NumGoroutine") = false ∧ fn.body.isNone = false) ∧
 ∀ (Z:Fp) (w:World) (args:List Value) (f0:Fp),(∀ i,Z i→i < w.heap.size)→VReps Z w ins args f0 → (∀ i,f0 i→¬ Z i) →
   Calls P f args.toArray w fun e w' => ∃ vs Fr f1 Zn,e=.returned (RetV vs) ∧ (∀ i,Zn i→i < w'.heap.size ∧ (i < w.heap.size→Z i))∧VReps Zn w' outs vs Fr ∧ (∀ i,Fr i→w.heap.size≤i∧¬ Zn i∧¬ f1 i) ∧
    VReps Zn w' fins args f1 ∧ (∀ i,f1 i → (f0 i∨w.heap.size≤i)∧¬ Zn i)∧Grow f0 w w'
section
variable {P:Program} {T:Tbl} {Z:Fp} {F:Nat→Fp} {w0:World} {Wr Zi:Fp} {N:Fr} {S S' S1:SS} {a:Act} {w:World} {o:Oper}
theorem RelX.turn (h:RelX Z F w0 Wr Zi N S a w) {k:Nat} {s:Sh} {x:s.den} {v:Value} {w':World} {f U Zn:Fp} (hv:a.tmps[k]?=some v) (hg:Grow U w w') (hU:∀ i,U i→F k i)
 (hz:∀ i,Zn i→w.heap.size≤i∧i < w'.heap.size) (hf:∀ i,f i→i < w'.heap.size ∧ (F k i∨w.heap.size≤i)∧¬ Zn i) (hrep:VRep (fun i => Z i∨Zn i) w' s x v f) :
 RelX (fun i => Z i∨Zn i) (fun t => if t=k then f else F t) w0 Wr Zi N (S.put k (.val s x)) a w':=by
 have hlt:k < a.tmps.size:=(Array.getElem?_eq_some_iff.1 hv).1
 have hZ:∀ i,Z i→w'.heap[i]?=w.heap[i]?:=fun i hi => hg.block i (h.zlt i hi) (fun hu => h.nz k i (hU i hu) hi)
 have hF:∀ t,t≠k→∀ i,F t i→w'.heap[i]?=w.heap[i]?:=fun t ht i hi => hg.block i (h.lt t i hi) (fun hu => ht (h.apart t k i hi (hU i hu)))
 refine ⟨h.tsize,h.pins,uniq_put h.uniq,?_,?_,?_,?_,?_,?_,?_,h.defers,?_⟩
 ·rintro i (hi | hi)
  ·exact Nat.lt_of_lt_of_le (h.zlt i hi) hg.size
  ·exact (hz i hi).2
 ·rintro i (hi | hi) hlt'
  ·exact h.zin i hi hlt'
  ·have:=(hz i hi).1; have:=h.grow.size; omega
 ·intro t i hi
  by_cases e:t=k
  ·simp only [e,if_true] at hi
   rcases (hf i hi).2.1 with h' | h'
   ·exact h.wr k i h'
   ·exact .inr (Nat.le_trans h.grow.size h')
  ·simp only [e,if_false] at hi; exact h.wr t i hi
 ·intro t i hi hzz
  by_cases e:t=k
  ·simp only [e,if_true] at hi
   rcases hzz with hzz | hzz
   ·rcases (hf i hi).2.1 with h' | h'
    ·exact h.nz k i h' hzz
    ·have:=h.zlt i hzz; omega
   ·exact (hf i hi).2.2 hzz
  ·simp only [e,if_false] at hi
   rcases hzz with hzz | hzz
   ·exact h.nz t i hi hzz
   ·have:=h.lt t i hi; have:=(hz i hzz).1; omega
 ·intro t i hi
  by_cases e:t=k
  ·simp only [e,if_true] at hi; exact (hf i hi).1
  ·simp only [e,if_false] at hi; exact Nat.lt_of_lt_of_le (h.lt t i hi) hg.size
 ·intro t u i ht hu
  by_cases e1:t=k <;> by_cases e2:u=k <;> simp only [e1,e2,if_true,if_false] at ht hu
  ·rw [e1,e2]
  ·exfalso
   rcases (hf i ht).2.1 with h' | h'
   ·exact e2 (h.apart u k i hu h')
   ·have:=h.lt u i hu; omega
  ·exfalso
   rcases (hf i hu).2.1 with h' | h'
   ·exact e1 (h.apart t k i ht h')
   ·have:=h.lt t i ht; omega
  ·exact h.apart t u i ht hu
 ·exact h.grow.step hg (fun i hi => h.wr k i (hU i hi))
 ·intro t sv' hm
  rcases SS.mem_put.1 hm with he | ⟨hm,hne,hr,ht⟩
  ·simp only [Prod.mk.injEq] at he
   obtain ⟨rfl,rfl⟩:=he
   refine ⟨v,hv,?_⟩
   simp only [if_true]
   exact hrep
  ·obtain ⟨v',hv',hrep'⟩:=h.rep t sv' hm
   simp only at hne hr ht
   refine ⟨v',hv',?_⟩
   simp only [hne,if_false]
   refine SV.rep_turn (Z:=Z) (fun i => .inl) hZ (hF t hne) ?_ (fun g hg => rfl) hrep'
   intro q hq s1 x1 vh hh
   have hkd:q≠k:=fun e => by rw [e,hr] at hq; cases hq
   refine ⟨⟨SS.mem_put.2 (.inr ⟨hh.get,hkd,rfl,rfl⟩),hh.tmp⟩,fun hs => ?_⟩
   obtain ⟨v1,hv1,hr1⟩:=h.rep q _ hh.get
   rw [hh.tmp] at hv1
   obtain rfl:vh=v1:=by simpa using hv1
   exact ⟨F q,root_cells hs hr1,hF q hkd⟩
def argsM (T:Tbl) (S:SS) (ty:Nat):List Operand→Option (List TV × Option (Nat × Path × Nat))
 | [] => some ([],none)
 | X :: r => match opd T S ty X with
   | some (.copy k p) => match placeOf S k p,argsM T S ty r with
     | some tv,some (ts,none) => some (tv :: ts,some (k,p,0))
     | _,_ => none
   | _ => match argO T S ty X,argsM T S ty r with
     | some (t,false),some (ts,l) => some (t :: ts,l.map fun q => (q.1,q.2.1,q.2.2+1))
     | _,_ => none
theorem vreps_cons {Z:Fp} {w:World} {t:TV} {ts:List TV} {v:Value} {vs:List Value} {f:Fp} (h1:VRep Z w t.sh t.x v (fun _ => False)) (h2:VReps Z w ts vs f):VReps Z w (t :: ts) (v :: vs) f :=
 ⟨v,vs,fun _ => False,f,rfl,fun i => ⟨.inr,fun h => h.elim False.elim id⟩,fun i h => h.elim,h1,h2⟩
theorem vreps_head {Z:Fp} {w:World} {t:TV} {ts:List TV} {v:Value} {vs:List Value} {f:Fp} (h1:VRep Z w t.sh t.x v f) (h2:VReps Z w ts vs (fun _ => False)):VReps Z w (t :: ts) (v :: vs) f :=
 ⟨v,vs,f,fun _ => False,rfl,fun i => ⟨.inl,fun h => h.elim id False.elim⟩,fun i _ h => h.elim,h1,h2⟩
theorem argsM_none (h:RelX Z F w0 Wr Zi N S a w) {ty:Nat}:∀ {l:List Operand} {ts:List TV},argsM T S ty l=some (ts,none)→VReps Z w ts (l.map a.eval) (fun _ => False)
 | [],ts,ho => by cases ho; exact ⟨rfl,fun _ => id⟩
 | X :: r,ts,ho => by
   simp only [argsM] at ho
   split at ho
   ·split at ho <;> cases ho
   ·split at ho
    ·rename_i t ts' l h1 h2
     cases l with
     | none =>
       cases ho
       exact vreps_cons ((argO_rep h h1).2 rfl) (argsM_none h h2)
     | some q => cases ho
    ·cases ho
theorem argsM_some (h:RelX Z F w0 Wr Zi N S a w) {ty:Nat}:∀ {l:List Operand} {ts:List TV} {k:Nat} {p:Path} {j:Nat},argsM T S ty l=some (ts,some (k,p,j)) →
 ∃ X tv,l[j]?=some X∧opd T S ty X=some (.copy k p)∧placeOf S k p=some tv∧ts[j]?=some tv∧∀ f,VRep Z w tv.sh tv.x (a.eval X) f→VReps Z w ts (l.map a.eval) f
 | [],ts,k,p,j,ho => by cases ho
 | X :: r,ts,k,p,j,ho => by
   simp only [argsM] at ho
   split at ho
   ·rename_i k' p' hX
    split at ho
    ·rename_i tv ts' h1 h2
     cases ho
     exact ⟨X,tv,rfl,hX,h1,rfl,fun f hf => vreps_head hf (argsM_none h h2)⟩
    ·cases ho
   ·split at ho
    ·rename_i t ts' l h1 h2
     cases l with
     | none => cases ho
     | some q =>
       cases ho
       obtain ⟨X',tv,q1,q2,q3,q4,q5⟩:=argsM_some h h2
       exact ⟨X',tv,by simpa using q1,q2,q3,by simpa using q4,fun f hf => vreps_cons ((argO_rep h h1).2 rfl) (q5 f hf)⟩
    ·cases ho
theorem vreps_nth {Z:Fp} {w:World}:∀ {ts:List TV} {vs:List Value} {f:Fp} {j:Nat} {t:TV},VReps Z w ts vs f→ts[j]?=some t→∃ v fj,vs[j]?=some v∧VRep Z w t.sh t.x v fj∧∀ i,fj i→f i
 | [],vs,f,j,t,_,hj => by simp at hj
 | u :: ts,vs,f,j,t,h,hj => by
   obtain ⟨v,vs',f1,f2,rfl,he,hd,h1,h2⟩:=h
   cases j with
   | zero =>
     simp only [List.getElem?_cons_zero,Option.some.injEq] at hj
     subst hj
     exact ⟨v,f1,rfl,h1,fun i hi => (he i).2 (.inl hi)⟩
   | succ j =>
     obtain ⟨v',fj,q1,q2,q3⟩:=vreps_nth h2 (by simpa using hj)
     exact ⟨v',fj,by simpa using q1,q2,fun i hi => (he i).2 (.inr (q3 i hi))⟩
theorem upd_root {s:Sh} {x:s.den} {p:Path} {v r:TV} (hs:IsRoot s) (hp:p≠[]) (hu:upd s x p v=some r):IsRoot r.sh:=by
 cases p with
 | nil => exact absurd rfl hp
 | cons q p =>
   cases s with
   | sl ow te e =>
     cases ow with
     | false => exact hs.elim
     | true =>
       cases q <;> simp only [upd] at hu
       ·cases hu
       ·cases hu
       ·split at hu
        ·split at hu
         ·cases hu; trivial
         ·cases hu
        ·cases hu
       ·cases hu
   | pt ow te e =>
     cases ow with
     | false => exact hs.elim
     | true =>
       cases q <;> simp only [upd] at hu
       ·cases hu
       ·cases hu
       ·cases hu
       ·split at hu
        ·cases hu; trivial
        ·cases hu
   | mp ow mk mv => cases q <;> simp [upd] at hu
   | _ => exact hs.elim
theorem root_val {s:Sh} (hs:IsRoot s) (v:Value):ValOf s v [v]:=by
 cases s <;> first | exact hs.elim | rfl
def lendOk (s s':Sh):Bool:=(s.isRoot && s'.isRoot) || (s.isSt && s'.isSt)
theorem lend_root {s s':Sh} (h:lendOk s s'=true) (hs:IsRoot s):IsRoot s':=by
 unfold lendOk at h
 simp only [Bool.or_eq_true,Bool.and_eq_true] at h
 rcases h with h | h
 ·exact Sh.isRoot_iff h.2
 ·exfalso; cases s <;> first | exact hs.elim | simp [Sh.isSt] at h
theorem lend_cells {s s':Sh} {v:Value} {c c':List Value} (h:lendOk s s'=true) (h1:ValOf s v c) (h2:ValOf s' v c'):c=c':=by
 unfold lendOk at h
 simp only [Bool.or_eq_true,Bool.and_eq_true] at h
 rcases h with h | h
 ·have e1:c=[v]:=by cases s <;> first | exact (Sh.isRoot_iff h.1).elim | exact h1
  have e2:c'=[v]:=by cases s' <;> first | exact (Sh.isRoot_iff h.2).elim | exact h2
  rw [e1,e2]
 ·have e1:v=.agg c.toArray:=by cases s <;> first | exact h1 | simp [Sh.isSt] at h
  have e2:v=.agg c'.toArray:=by cases s' <;> first | exact h2 | simp [Sh.isSt] at h
  rw [e1] at e2
  simpa using e2
theorem copy_put (h:RelX Z F w0 Wr Zi N S a w) {k:Nat} {p:Path} {v:Value} {tv r fin:TV} (hr:CopyRep S w a.tmps k p v) (hpl:placeOf S k p=some tv) (hlend:lendOk tv.sh fin.sh=true) {s:Sh} {x:s.den} (hg:S.get k=some (.val s x)) (hu:upd s x p fin=some r) :
 ∃ vh f',a.tmps[k]?=some vh∧VRep Z w tv.sh tv.x v f' ∧ (∀ i,f' i→F k i) ∧ (p≠[]→∀ b,rootBlk vh=some b→¬ f' b)∧∀ (Z2:Fp) (w2:World) (f2:Fp),(∀ i,Z i→Z2 i)→Grow f' w w2→VRep Z2 w2 fin.sh fin.x v f2 → (∀ i,f2 i→f' i∨w.heap.size≤i) →
   ∃ f3,VRep Z2 w2 r.sh r.x vh f3∧∀ i,f3 i→F k i∨f2 i:=by
 obtain ⟨s0,x0,hg0,hroot0,hat⟩:=placeOf_some hpl
 rw [hg] at hg0
 simp only [Option.some.injEq,SV.val.injEq] at hg0
 obtain ⟨rfl,hx0⟩:=hg0
 obtain rfl:=eq_of_heq hx0
 obtain ⟨s',x',vh,hhome,hpp⟩:=hr
 have heq:=home_is h hhome hg
 simp only [TV.mk.injEq] at heq
 obtain ⟨rfl,heq⟩:=heq
 obtain rfl:=eq_of_heq heq
 have hcr:=root_cells hroot0 (home_rep h hhome)
 rcases hpp with ⟨rfl,hv⟩ | ⟨gg,oo,s1,x1,cs,_,hpn,hok,hat2,hl,hlen,hcells,hvo⟩
 ·simp only [getAt,Option.some.injEq] at hat
  subst hat
  simp only [upd,Option.some.injEq] at hu
  subst hu
  subst hv
  exact ⟨v,F k,hhome.tmp,⟨[v],hcr,root_val hroot0 v⟩,fun i => id,fun hp => absurd rfl hp,fun Z2 w2 f2 _ _ hc _ => ⟨f2,hc,fun i => .inr⟩⟩
 ·rw [hat] at hat2
  simp only [Option.some.injEq] at hat2
  subst hat2
  obtain ⟨g',t',pre',cs',post',f',R⟩:=rfocus p s' x' vh (F k) ⟨s1,x1⟩ hcr hpn (by cases s' <;> first | exact hroot0.elim | trivial | exact absurd (mp_path hok) (by assumption)) hok hat
  have hgo:=R.at_
  rw [hl] at hgo
  simp only [Option.some.injEq,Prod.mk.injEq] at hgo
  obtain ⟨rfl,rfl⟩:=hgo
  have hcs:cs=cs':=by
   have hl1:=CRep.length R.rep
   apply List.ext_getElem?
   intro j
   by_cases hj:j < cs.length
   ·have h1:=hcells j cs[j] (by simp [hj])
    simp only [World.cell?,R.heap] at h1
    have hj':j < cs'.length:=by simp only at hl1 hlen; omega
    simp only [List.append_assoc,List.getElem?_toArray] at h1
    rw [List.getElem?_append_right (by omega),Nat.add_sub_cancel_left,List.getElem?_append_left hj'] at h1
    rw [List.getElem?_eq_getElem hj]
    simpa using h1.symm
   ·have hj':¬ j < cs'.length:=by simp only at hl1 hlen; omega
    rw [List.getElem?_eq_none (by omega),List.getElem?_eq_none (by omega)]
  subst hcs
  refine ⟨vh,f',hhome.tmp,⟨cs,R.rep,hvo⟩,R.sub,fun _ => R.root,fun Z2 w2 f2 hZ2 hgr hc0 hf2 => ?_⟩
  ·obtain ⟨c2,hc,hv2⟩:=hc0
   obtain rfl:=lend_cells hlend hvo hv2
   have hfg:F k gg:=R.in_
   have hnew:∀ i,w.heap.size≤i→¬ F k i:=fun i hi hF => by have:=h.lt k i hF; omega
   obtain ⟨f3,q1,q2⟩:=R.put Z2 w2 fin cs f2 r hu hc rfl hZ2 (fun i hi => hgr.block i (h.zlt i hi) (fun hh => h.nz k i (R.sub i hh) hi))
    (fun i hi hn _ => hgr.block i (h.lt k i hi) hn) (by rw [hgr.block gg (h.lt k gg hfg) R.out,R.heap]) (fun i hi hF => by
     rcases hf2 i hi with h' | h'
     ·exact h'
     ·exact absurd hF (hnew i h')) (fun hh => by
     rcases hf2 gg hh with h' | h'
     ·exact R.out h'
     ·exact hnew gg h' hfg)
   refine ⟨f3,⟨[vh],q1,?_⟩,fun i hi => ?_⟩
   ·exact root_val (upd_root hroot0 hpn hu) vh
   ·rcases (q2 i).1 hi with ⟨h1,_⟩ | h1
    ·exact .inl h1
    ·exact .inr h1
def lentS (S:SS) (k:Nat) (p:Path) (fin:TV):Option SS :=
 match S.get k with
 | some (.val s x) => match upd s x p fin with
   | some r => some (S.put k (.val r.sh r.x))
   | none => none
 | _ => none
theorem home_block (h:RelX Z F w0 Wr Zi N S a w) {k:Nat} {p:Path} {s:Sh} {x:s.den} {fin r:TV} (hg:S.get k=some (.val s x)) (hu:upd s x p fin=some r) (hp:p≠[]) {vh:Value} (hvh:a.tmps[k]?=some vh) {b:Nat} (hb:rootBlk vh=some b) (hroot:IsRoot s):F k b:=by
 obtain ⟨v,hv,hr⟩:=h.rep k _ (SS.get_mem hg)
 rw [hvh] at hv
 obtain rfl:vh=v:=by simpa using hv
 have hc:=root_cells hroot hr
 cases s with
 | sl o t e =>
   cases o with
   | false => exact hroot.elim
   | true =>
     obtain ⟨v',inner,fr,hvv,hrr,ho,hfe,hfd⟩:=hc
     obtain rfl:vh=v':=by simpa using hvv
     refine (hfe b).2 (.inl ?_)
     rcases ho.2 with ⟨rfl,_⟩ | ⟨g,cap,cur,rfl,_⟩
     ·simp [rootBlk] at hb
     ·simpa [rootBlk,Value.ownBlock] using hb
 | pt o t e =>
   cases o with
   | false => exact hroot.elim
   | true =>
     cases x with
     | none => obtain ⟨e1,_⟩:=hc; obtain rfl:vh=.pointer none:=by simpa using e1
               simp [rootBlk] at hb
     | some y =>
       obtain ⟨v',inner,fr,hvv,hre,g,rfl,hh,hfe,hfd⟩:=hc
       obtain rfl:vh=.pointer (some ⟨g,0,none⟩):=by simpa using hvv
       exact (hfe b).2 (.inl (by simpa [rootBlk] using hb.symm))
 | mp o k v => exact absurd (by cases p with | nil => rfl | cons q p => cases q <;> simp [upd] at hu) hp
 | _ => exact hroot.elim
def keepS (N:Fr) (S:SS) (k:Nat) (p:Path) (S1:SS):SS :=
 match N.keep,p with
 | [q],.der :: _ => match S.get q,S.get k,S1.get k with
   | some (.copy k' [.der]),some (.val (.pt true _ e) _),some (.val (.pt true _ e2) (some _)) => if k'=k∧q≠k∧e.isSt=true∧e2.isSt=true∧e2.size=e.size then S1.put q (.copy k [.der]) else S1
   | _,_,_ => S1
 | _,_ => S1
theorem keepS_ok {Z2:Fp} {F2:Nat→Fp} {w':World} (h:RelX Z F w0 Wr Zi N S a w) (h2:RelX Z2 F2 w0 Wr Zi N S1 a w') {k:Nat} {p:Path} {vh:Value} (hvh:a.tmps[k]?=some vh) (hb:∀ b,rootBlk vh=some b→w'.heap[b]?=w.heap[b]?) :
 ∃ F3,RelX Z2 F3 w0 Wr Zi N (keepS N S k p S1) a w'∧∀ t i,F3 t i→F2 t i:=by
 unfold keepS
 split
 ·rename_i q p' hkeep
  split
  ·rename_i k' t e x t2 e2 y2 hq hk hk2
   split
   ·rename_i hcond
    obtain ⟨rfl,hqk,he,he2,hsz⟩:=hcond
    obtain ⟨v0,hv0,_,s,xs,vh',hh,hor⟩:=h.rep q _ (SS.get_mem hq)
    rcases hor with ⟨hp,_⟩ | ⟨g,oo,s',x',cs,hroot,_,hok,hat,hl,hlen,hcells,hvo⟩
    ·cases hp
    ·have heq:=home_is h hh hk
     simp only [TV.mk.injEq] at heq
     obtain ⟨rfl,heq⟩:=heq
     obtain rfl:=eq_of_heq heq
     have hvv:vh'=vh:=by have:=hh.tmp; rw [hvh] at this; simpa using this.symm
     subst hvv
     obtain ⟨ad,rfl⟩:∃ ad,vh'=.pointer (some ad):=by
      cases vh' with
      | pointer A => cases A with
        | some ad => exact ⟨ad,rfl⟩
        | none => simp [rootLoc] at hl
      | _ => simp [rootLoc] at hl
     have hgo:ad.block=g∧ad.off=oo:=by simpa [rootLoc,loc] using hl
     obtain ⟨rfl,rfl⟩:=hgo
     cases xs with
     | none => simp [okAt] at hok
     | some y =>
       have hs':(⟨e,y⟩:TV)=⟨s',x'⟩:=by simpa [getAt] using hat
       simp only [TV.mk.injEq] at hs'
       obtain ⟨rfl,hs'⟩:=hs'
       have hblk:=hb ad.block rfl
       have hva:v0=.agg cs.toArray:=by cases e <;> first | exact hvo | simp [Sh.isSt] at he
       have hrep:(SV.copy k' [.der]).rep Z2 S1 w' a.tmps v0 (fun _ => False):=by
        refine ⟨fun _ => id,.pt true t2 e2,some y2,.pointer (some ad),⟨SS.get_mem hk2,hh.tmp⟩,.inr ⟨ad.block,ad.off,e2,y2,cs,trivial,by simp,by simp [okAt],by simp [getAt],by simp [rootLoc,loc],by rw [hlen,hsz],fun j u hu => ?_,?_⟩⟩
        ·rw [cell_same (w:=w) (a:=⟨ad.block,ad.off+j,none⟩) hblk]; exact hcells j u hu
        ·rw [hva]; cases e2 <;> first | rfl | simp [Sh.isSt] at he2
       have hlt:q < a.tmps.size:=(Array.getElem?_eq_some_iff.1 hv0).1
       have:=h2.putR (d:=q) (sv:=.copy k' [.der]) (v:=v0) hlt (fun _ => hv0) hrep (by simp only [SV.refs]; simpa using Ne.symm hqk) rfl
       rw [put_idem hv0] at this
       refine ⟨_,this,fun t i hi => ?_⟩
       by_cases e:t=q
       ·simp [e] at hi
       ·simpa [e] using hi
   ·exact ⟨F2,h2,fun _ _ => id⟩
  ·exact ⟨F2,h2,fun _ _ => id⟩
 ·exact ⟨F2,h2,fun _ _ => id⟩
theorem callM_ok (h:RelX Z F w0 Wr Zi N S a w) {f:Nat} {xs:Array Operand} {tys:Array TypeId} {ins outs fins:List TV} {k j:Nat} {p:Path} {fin:TV} (ho:o.op=.call { callee:=.value (.func f),args:=xs,argTypes:=tys })
 (hx:argsM T S o.type xs.toList=some (ins,some (k,p,j))) (hfin:fins[j]?=some fin) (hc:PMut P f ins outs fins) (hl:lentS S k p fin=some S1)
 (hp:(o.dst=none∧outs=[]∧S'=keepS N S k p S1)∨putS N (keepS N S k p S1) o.dst (retS outs)=some S') (hroot:∃ tv,placeOf S k p=some tv∧lendOk tv.sh fin.sh=true):Does P o a w (Rel w0 Wr Zi N S'):=by
 intro K Q hK
 obtain ⟨⟨fn,hfn,hname,hbody⟩,hcall⟩:=hc
 obtain ⟨X,tv,q1,q2,q3,q4,q5⟩:=argsM_some h hx
 obtain ⟨tv',e1,e2⟩:=hroot
 rw [q3] at e1
 cases e1
 unfold lentS at hl
 split at hl
 ·rename_i s x hg
  split at hl
  ·rename_i r hu
   cases hl
   have hev:a.eval (.func f)=.func (.func f) #[] #[]:=rfl
   have hrun:(execOp a.eval o).run P w=.ok (.enter f (xs.toList.map a.eval).toArray) w:=by
    have:(xs.map a.eval) = (xs.toList.map a.eval).toArray:=by apply Array.toList_inj.1; simp
    have hname' : ¬ fn.name = "runtime.NumGoroutine" := by simpa using hname
    have hbody':¬ fn.body=none:=by intro e; rw [e] at hbody; cases hbody
    simp [execOp,ho,resolve,hev,Deferred.ofValue,invoke,callFunc,hfn,hname',hbody',this]
   unfold Oper.wp
   rw [hrun,Oper.upon_enter]
   obtain ⟨vh,f',hvh,hplace,hsub,hblk,hput⟩:=copy_put h (opd_rep h q2).2 q3 e2 hg hu
   refine (hcall Z w _ f' h.zlt (q5 f' hplace) (fun i hi hz => h.nz k i (hsub i hi) hz)).mono ?_
   rintro e w' ⟨vs,Fr,f1,Zn,rfl,hzn,hvs,hfr',hfs,hf1,hgr⟩
   refine hK _ _ ?_
   obtain ⟨vj,fj,r1,r2,r3⟩:=vreps_nth hfs hfin
   have hvj:vj=a.eval X:=by
    rw [List.getElem?_map,q1] at r1
    simpa using r1.symm
   subst hvj
   let Zx:Fp:=fun i => Zn i∧w.heap.size≤i
   have hZx:∀ i,Zn i→Z i∨Zx i:=fun i hi => by
    by_cases hlt:i < w.heap.size
    ·exact .inl ((hzn i hi).2 hlt)
    ·exact .inr ⟨hi,by omega⟩
   have hsame:∀ i,Zn i→w'.heap[i]?=w'.heap[i]?:=fun i _ => rfl
   obtain ⟨f3,hr3,hf3⟩:=hput (fun i => Z i∨Zx i) w' fj (fun i => .inl) hgr (VRep.same hZx hsame (fun i _ => rfl) r2) (fun i hi => (hf1 i (r3 i hi)).1)
   have h2':=h.turn (Zn:=Zx) (f:=f3) (U:=f') hvh hgr hsub (fun i hi => ⟨hi.2,(hzn i hi.1).1⟩) (fun i hi => ?_) hr3
   ·have hF0:∃ F3,RelX (fun i => Z i∨Zx i) F3 w0 Wr Zi N (keepS N S k p (S.put k (.val r.sh r.x))) a w'∧∀ t i,F3 t i → (fun t => if t=k then f3 else F t) t i:=by
     by_cases hpn:p=[]
     ·subst hpn
      have:keepS N S k [] (S.put k (.val r.sh r.x))=S.put k (.val r.sh r.x):=by
       unfold keepS; split
       ·rename_i e1 e2; cases e2
       ·rfl
      rw [this]
      exact ⟨_,h2',fun _ _ => id⟩
     ·refine keepS_ok h h2' hvh (fun b hb => ?_)
      by_cases hlt:b < w.heap.size
      ·exact hgr.block b hlt (hblk hpn b hb)
      ·have hFk:=home_block h hg hu hpn hvh hb (by obtain ⟨s9,x9,hg9,hr9,_⟩:=placeOf_some q3; rw [hg] at hg9; cases hg9; exact hr9)
       exact absurd (h.lt k b hFk) hlt
    obtain ⟨F3,h2,hF3⟩:=hF0
    rcases hp with ⟨hd,ho',rfl⟩ | hp
    ·rw [hd]
     exact ⟨_,_,h2⟩
    ·obtain ⟨d,hd,hlt,hrd,htd,rfl⟩:=putS_some hp
     rw [hd]
     have hnz:∀ i,Fr i→¬ (Z i∨Zx i):=fun i hi hz => by
      rcases hz with hz | hz
      ·have:=h.zlt i hz; have:=(hfr' i hi).1; omega
      ·exact (hfr' i hi).2.1 hz.1
     have hvs':VReps (fun i => Z i∨Zx i) w' outs vs Fr:=VReps.same (Z:=Zn) hZx (fun i _ => rfl) (fun i _ => rfl) hvs
     refine ⟨_,_,h2.putG (d:=d) (sv:=retS outs) (v:=RetV vs) (f:=Fr) (U:=fun _ => False) (by rw [h.tsize]; exact hlt.1) (fun hm => absurd hm hlt.2) (Grow.refl _ _) (fun i hi => hi.elim) (fun i hi => ⟨VReps.lt hvs' i hi,.inr ⟨hnz i hi,fun t _ ht => ?_,.inr (Nat.le_trans h.grow.size (hfr' i hi).1)⟩⟩) ?_⟩
     ·have ht:=hF3 t i ht
      by_cases e:t=k
      ·simp only [e,if_true] at ht
       rcases hf3 i ht with h' | h'
       ·have:=h.lt k i h'; have:=(hfr' i hi).1; omega
       ·exact (hfr' i hi).2.2 (r3 i h')
      ·simp only [e,if_false] at ht
       have:=h.lt t i ht; have:=(hfr' i hi).1; omega
     ·match outs,vs,hvs' with
      | [],vs,hv =>
        obtain ⟨rfl,h0⟩:=hv
        exact ⟨[],rfl,rfl,h0⟩
      | [t],vs,hv =>
        obtain ⟨v,vs',f1,f2,rfl,he,hdd,q1,rfl,q2⟩:=hv
        have:f1=Fr:=funext fun i => propext ⟨fun h => (he i).2 (.inl h),fun h => ((he i).1 h).elim id (fun h => absurd h (q2 i))⟩
        subst this
        exact q1
      | t :: u :: ts,vs,hv =>
        have hv':=hv
        obtain ⟨v,vs',f1,f2,rfl,he,hdd,q1,v2,vs2,g1,g2,rfl,_⟩:=hv
        exact ⟨_,rfl,hv'⟩
   ·rcases hf3 i hi with h' | h'
    ·refine ⟨Nat.lt_of_lt_of_le (h.lt k i h') hgr.size,.inl h',fun hz => ?_⟩
     have:=h.lt k i h'; have:=hz.2; omega
    ·have hlt':=VRep.lt r2 i h'
     refine ⟨hlt',?_,fun hz => (hf1 i (r3 i h')).2 hz.1⟩
     rcases (hf1 i (r3 i h')).1 with h'' | h''
     ·exact .inl (hsub i h'')
     ·exact .inr h''
  ·cases hl
 ·cases hl
def PCons (P:Program) (f:Nat) (ins outs:List TV):Prop :=
 (∃ fn, P.funcs[f]? = some fn ∧ (fn.name == "runtime.NumGoroutine") = false ∧ fn.body.isNone = false) ∧
 ∀ (Z:Fp) (w:World) (args:List Value) (f0:Fp),(∀ i,Z i→i < w.heap.size)→VReps Z w ins args f0 → (∀ i,f0 i→¬ Z i) →
   Calls P f args.toArray w fun e w' => ∃ vs Fr Zn,e=.returned (RetV vs) ∧ (∀ i,Zn i→i < w'.heap.size ∧ (i < w.heap.size→Z i))∧VReps Zn w' outs vs Fr ∧ (∀ i,Fr i → (f0 i∨w.heap.size≤i)∧¬ Zn i)∧Grow f0 w w'
def argsC (T:Tbl) (S:SS) (ty:Nat):List Operand→Option (List TV × Option SS)
 | [] => some ([],none)
 | X :: r => match argO T S ty X with
   | some (t,false) => match argsC T S ty r with
     | some (ts,l) => some (t :: ts,l)
     | none => none
   | _ => match takeO T S ty X,argsC T S ty r with
     | some (tv,S1),some (ts,none) => some (tv :: ts,some S1)
     | _,_ => none
theorem argsC_none (h:RelX Z F w0 Wr Zi N S a w) {ty:Nat}:∀ {l:List Operand} {ts:List TV},argsC T S ty l=some (ts,none)→VReps Z w ts (l.map a.eval) (fun _ => False)
 | [],ts,ho => by cases ho; exact ⟨rfl,fun _ => id⟩
 | X :: r,ts,ho => by
   simp only [argsC] at ho
   split at ho
   ·rename_i t h1
    split at ho
    ·rename_i ts' l h2
     cases ho
     exact vreps_cons ((argO_rep h h1).2 rfl) (argsC_none h h2)
    ·cases ho
   ·split at ho <;> cases ho
theorem argsC_some (h:RelX Z F w0 Wr Zi N S a w) {ty:Nat}:∀ {l:List Operand} {ts:List TV} {S1:SS},argsC T S ty l=some (ts,some S1) →
 ∃ F1 f,VReps Z w ts (l.map a.eval) f∧RelX Z F1 w0 Wr Zi N S1 a w∧Held Z F1 w0 Wr w f
 | [],ts,S1,ho => by cases ho
 | X :: r,ts,S1,ho => by
   simp only [argsC] at ho
   split at ho
   ·rename_i t h1
    split at ho
    ·rename_i ts' l h2
     cases ho
     obtain ⟨F1,f,q1,q2,q3⟩:=argsC_some h h2
     exact ⟨F1,f,vreps_cons ((argO_rep h h1).2 rfl) q1,q2,q3⟩
    ·cases ho
   ·split at ho
    ·rename_i tv S2 ts' h1 h2
     cases ho
     obtain ⟨F1,f,q1,q2,q3,_⟩:=takeO_rep h h1
     exact ⟨F1,f,vreps_head q1 (argsC_none h h2),q2,q3⟩
    ·cases ho
theorem RelX.grownU (h:RelX Z F w0 Wr Zi N S a w) {w':World} {U:Fp} (hg:Grow U w w') (hU:∀ i,U i→i < w.heap.size→¬ Z i ∧ (∀ s,¬ F s i) ∧ (Wr i∨w0.heap.size≤i)) (Zn:Fp) (hz:∀ i,Zn i→w.heap.size≤i∧i < w'.heap.size):RelX (fun i => Z i∨Zn i) F w0 Wr Zi N S a w' where
 tsize:=h.tsize
 pins:=h.pins
 uniq:=h.uniq
 zlt i hi:=by
  rcases hi with hi | hi
  ·exact Nat.lt_of_lt_of_le (h.zlt i hi) hg.size
  ·exact (hz i hi).2
 zin i hi hlt:=by
  rcases hi with hi | hi
  ·exact h.zin i hi hlt
  ·have:=(hz i hi).1; have:=h.grow.size; omega
 wr:=h.wr
 nz s i hi hzz:=by
  rcases hzz with hzz | hzz
  ·exact h.nz s i hi hzz
  ·have:=h.lt s i hi; have:=(hz i hzz).1; omega
 lt s i hi:=Nat.lt_of_lt_of_le (h.lt s i hi) hg.size
 apart:=h.apart
 grow:=⟨hg.os.trans h.grow.os,hg.tape.trans h.grow.tape,hg.output.trans h.grow.output,Nat.le_trans h.grow.size hg.size,fun i hi hn => by
  rw [hg.block i (Nat.lt_of_lt_of_le hi h.grow.size) (fun hu => by
   rcases (hU i hu (Nat.lt_of_lt_of_le hi h.grow.size)).2.2 with h' | h'
   ·exact hn h'
   ·omega)]
  exact h.grow.block i hi hn⟩
 defers:=h.defers
 rep s sv hm:=by
  have hZ:∀ i,Z i→w'.heap[i]?=w.heap[i]?:=fun i hi => hg.block i (h.zlt i hi) (fun hu => (hU i hu (h.zlt i hi)).1 hi)
  have hF:∀ t i,F t i→w'.heap[i]?=w.heap[i]?:=fun t i hi => hg.block i (h.lt t i hi) (fun hu => (hU i hu (h.lt t i hi)).2.1 t hi)
  obtain ⟨v,hv,hr⟩:=h.rep s sv hm
  refine ⟨v,hv,SV.rep_turn (Z:=Z) (fun i => .inl) hZ (hF s) ?_ (fun g hg => rfl) hr⟩
  intro k hk s1 x1 vh hh
  refine ⟨hh,fun hs => ?_⟩
  obtain ⟨v1,hv1,hr1⟩:=h.rep k _ hh.get
  rw [hh.tmp] at hv1
  obtain rfl:vh=v1:=by simpa using hv1
  exact ⟨F k,root_cells hs hr1,hF k⟩
theorem retS_rep {Z:Fp} {w:World} {S:SS} {tmps:Array Value}:∀ {outs:List TV} {vs:List Value} {Fr:Fp},VReps Z w outs vs Fr → (retS outs).rep Z S w tmps (RetV vs) Fr
 | [],vs,Fr,hv => by
   obtain ⟨rfl,h0⟩:=hv
   exact ⟨[],rfl,rfl,h0⟩
 | [t],vs,Fr,hv => by
   obtain ⟨v,vs',f1,f2,rfl,he,hdd,q1,rfl,q2⟩:=hv
   have:f1=Fr:=funext fun i => propext ⟨fun h => (he i).2 (.inl h),fun h => ((he i).1 h).elim id (fun h => absurd h (q2 i))⟩
   subst this
   exact q1
 | t :: u :: ts,vs,Fr,hv => by
   have hv':=hv
   obtain ⟨v,vs',f1,f2,rfl,he,hdd,q1,v2,vs2,g1,g2,rfl,_⟩:=hv
   exact ⟨_,rfl,hv'⟩
theorem callC_ok (h:RelX Z F w0 Wr Zi N S a w) {f:Nat} {xs:Array Operand} {tys:Array TypeId} {ins outs:List TV} (ho:o.op=.call { callee:=.value (.func f),args:=xs,argTypes:=tys })
 (hx:argsC T S o.type xs.toList=some (ins,some S1)) (hc:PCons P f ins outs) (hp:putS N S1 o.dst (retS outs)=some S'):Does P o a w (Rel w0 Wr Zi N S'):=by
 intro K Q hK
 obtain ⟨d,hd,hlt,hrd,htd,rfl⟩:=putS_some hp
 obtain ⟨⟨fn,hfn,hname,hbody⟩,hcall⟩:=hc
 obtain ⟨F1,f',hargs,h1,hh⟩:=argsC_some h hx
 have hev:a.eval (.func f)=.func (.func f) #[] #[]:=rfl
 have hrun:(execOp a.eval o).run P w=.ok (.enter f (xs.toList.map a.eval).toArray) w:=by
  have:(xs.map a.eval) = (xs.toList.map a.eval).toArray:=by apply Array.toList_inj.1; simp
  have hname' : ¬ fn.name = "runtime.NumGoroutine" := by simpa using hname
  have hbody':¬ fn.body=none:=by intro e; rw [e] at hbody; cases hbody
  simp [execOp,ho,resolve,hev,Deferred.ofValue,invoke,callFunc,hfn,hname',hbody',this]
 unfold Oper.wp
 rw [hrun,Oper.upon_enter]
 refine (hcall Z w _ f' h1.zlt hargs (fun i hi => (hh i hi).2.1)).mono ?_
 rintro e w' ⟨vs,Fr,Zn,rfl,hzn,hvs,hfr,hgr⟩
 refine hK _ _ ?_
 rw [hd]
 let Zx:Fp:=fun i => Zn i∧w.heap.size≤i
 have hZx:∀ i,Zn i→Z i∨Zx i:=fun i hi => by
  by_cases hlt:i < w.heap.size
  ·exact .inl ((hzn i hi).2 hlt)
  ·exact .inr ⟨hi,by omega⟩
 have h2:=h1.grownU hgr (fun i hi _ => (hh i hi).2) Zx (fun i hi => ⟨hi.2,(hzn i hi.1).1⟩)
 have hvs':VReps (fun i => Z i∨Zx i) w' outs vs Fr:=VReps.same (Z:=Zn) hZx (fun i _ => rfl) (fun i _ => rfl) hvs
 have hnz:∀ i,Fr i→¬ (Z i∨Zx i):=fun i hi hz => by
  rcases hz with hz | hz
  ·rcases (hfr i hi).1 with h' | h'
   ·exact (hh i h').2.1 hz
   ·have:=h1.zlt i hz; omega
  ·exact (hfr i hi).2 hz.1
 refine ⟨_,_,h2.putG (d:=d) (sv:=retS outs) (v:=RetV vs) (f:=Fr) (U:=fun _ => False) (by rw [h1.tsize]; exact hlt.1) (fun hm => absurd hm hlt.2) (Grow.refl _ _) (fun i hi => hi.elim) (fun i hi => ⟨VReps.lt hvs' i hi,.inr ⟨hnz i hi,fun t _ ht => ?_,?_⟩⟩) (retS_rep hvs')⟩
 ·rcases (hfr i hi).1 with h' | h'
  ·exact (hh i h').2.2.1 t ht
  ·have:=h1.lt t i ht; omega
 ·rcases (hfr i hi).1 with h' | h'
  ·exact (hh i h').2.2.2
  ·exact .inr (Nat.le_trans h1.grow.size h')
def bytesT (T:Tbl) (src dst:Nat):Bool:=match T.find src,T.find dst with
 | some i,some j => match i.kd,j.kd with
   | .slice e,.string => match T.find e with
     | some q => match q.kd with
       | .int .u8 => true
       | _ => false
     | none => false
   | _,_ => false
 | _,_ => false
def bytesV (S:SS):SV→Option (List Int)
 | .copy k p => match placeOf S k p with
   | some ⟨.sl true _ (.int .u8),xs⟩ => some xs
   | _ => none
 | _ => none
theorem bytes_inner:∀ {xs:List Int} {inner:List Value} {f:Fp},RRep (CRep Z w (.int .u8)) xs inner f→inner=xs.map (Value.int .u8)
 | [],inner,f,h => h.1
 | x :: xs,inner,f,h => by
   obtain ⟨c1,c2,f1,f2,rfl,_,_,⟨rfl,_⟩,h2⟩:=h
   rw [bytes_inner h2]; rfl
theorem bytes_ok (hT:TOk P T) (h:RelX Z F w0 Wr Zi N S a w) {src dst:Nat} {X:Operand} {sv:SV} {xs:List Int} (ho:o.op=.convert src dst X) (ht:bytesT T src dst=true) (hx:opd T S src X=some sv) (hb:bytesV S sv=some xs)
 (hp:putS N S o.dst (.val .str (strOfNums xs))=some S'):Runs P o a w (Rel w0 Wr Zi N S'):=by
 unfold bytesV at hb
 split at hb
 ·rename_i k p
  split at hb
  ·rename_i t ys hpl
   cases hb
   obtain ⟨f',hrep,_⟩:=copy_rep h (opd_rep h hx).2 hpl
   have hcr:=root_cells (s:=.sl true t (.int .u8)) trivial hrep
   unfold bytesT at ht
   split at ht
   ·rename_i i j hi hj
    split at ht
    ·rename_i e hik hjk
     split at ht
     ·rename_i q hq
      split at ht
      ·rename_i hqk
       obtain ⟨ti,hti⟩:=hT.find hi
       obtain ⟨d1,hd1,hdk1⟩:=hti.desc
       obtain ⟨tj,htj⟩:=hT.find hj
       obtain ⟨d2,hd2,hdk2⟩:=htj.desc
       obtain ⟨tq,htq⟩:=hT.find hq
       obtain ⟨d3,hd3,hdk3⟩:=htq.desc
       rw [ti] at hd1
       rw [tj] at hd2
       rw [tq] at hd3
       rw [hik] at hdk1
       rw [hjk] at hdk2
       rw [hqk] at hdk3
       have e1:d1=.slice e:=by cases d1 <;> simp_all [kdOf]
       have e2:d2=.string:=by cases d2 <;> simp_all [kdOf]
       have e3:d3=.int .u8:=by cases d3 <;> simp_all [kdOf]
       subst e1; subst e2; subst e3
       refine Runs.read h hp (v:=.string (strOfNums xs)) ?_ ⟨_,⟨rfl,fun _ => id⟩,rfl⟩
       have hrun:(convert src dst (a.eval X)).run P w=.ok (.string (strOfNums xs)) w:=by
        obtain ⟨v',inner,fr,hvv,hrr,hown,_,_⟩:=hcr
        have hv:a.eval X=v':=by simpa using hvv
        rw [hv]
        rcases hown.2 with ⟨rfl,h0⟩ | ⟨g,cap,cur,rfl,_⟩
        ·have:xs=[]:=List.eq_nil_of_length_eq_zero h0
         subst this
         rw [run_convert_bytes_nil w src e hd1 hd3 _ _ dst hd2]
         rfl
        ·refine run_convert_bytes_arg w src e hd1 hd3 g 0 (List.length xs) cap xs rfl (fun i hi => ?_) dst hd2
         have hin:=bytes_inner hrr
         have:=hown.cells (g:=g) rfl i (.int .u8 (xs.getD i 0)) (by rw [hin,List.getElem?_map,List.getD_eq_getElem?_getD,List.getElem?_eq_getElem hi]; rfl)
         have hadd:(⟨g,0,none⟩:Addr).add i=⟨g,0+i,none⟩:=by unfold Addr.add; split <;> simp_all
         rw [hadd] at this
         exact this
       simp only [execOp,ho,Sem.run_bind,hrun,Result.andThen_ok,Sem.run_pure]
      ·cases ht
     ·cases ht
    ·cases ht
   ·cases ht
  ·cases hb
 ·cases hb
theorem append_keep {t te:Nat} {e:Sh} {info:TypeInfo} {z:Value} (hd:P.underlying t=some (.slice te)) (hinfo:P.info? te=some info) (hz:info.zero=some z) (hsz:info.size=e.size) (hpos:0 < e.size) (hbp:0 < info.bytes)
 {xs ys:List e.den} {vx vy:Value} {f fr:Fp} (hn:e.noOwn=true) (hx:CRep Z w (.sl true te e) xs [vx] f) (hy:SrcRep Z w e ys vy fr) (hZ:∀ i,Z i→¬ f i) (hZs:∀ i,Z i→i < w.heap.size) (hb:(xs.length+ys.length)*info.bytes≤140737488355328) {ty:Nat} {v':Value} {w':World}
 (hrun:(Builtin.append_ #[t,t] ty #[vx,vy]).run P w=.ok v' w'):CRep Z w' (.sl true te e) xs [vx] f:=by
 have hlt0:=CRep.lt hx
 have hx0:=hx
 obtain ⟨v1,inner,fx,hvv,hrr,ho,hfe,hfd⟩:=hx
 obtain rfl:vx=v1:=by simpa using hvv
 obtain ⟨A,c,news,rfl,hry,hread⟩:=hy
 have hln:=RRep.length (size:=e.size) (fun x cs f h => CRep.length h) hry
 have hfx:=RRep.none_ (fun x cs f hx => CRep.noOwn hn hx) hrr
 have hbb:xs.length+ys.length≤140737488355328:=Nat.le_trans (Nat.le_mul_of_pos_right _ hbp) hb
 cases A with
 | none =>
   have h0:news=[]:=by
    match news,hread with
    | [],_ => rfl
    | u :: r,hread => (obtain ⟨ad,hA,_⟩:=hread 0 u rfl); cases hA
   subst h0
   have hy0:ys.length=0:=by
    have:ys.length*e.size=0:=by rw [← hln]; rfl
    exact (Nat.mul_eq_zero.1 this).resolve_right (by omega)
   have hww:w'=w:=by
    rcases ho.2 with ⟨rfl,hn0⟩ | ⟨g,cap,cur,rfl,_,hgc,hnc,_⟩
    ·simp [Builtin.append_,run_underlying hd,Go.sizeOf,typeInfo,hinfo,Builtin.lenOf,Builtin.firstCells,hy0] at hrun
     exact hrun.2.symm
    ·simp [Builtin.append_,run_underlying hd,Go.sizeOf,typeInfo,hinfo,Builtin.lenOf,Builtin.firstCells,hnc,storeCells,hy0] at hrun
     exact hrun.2.symm
   rw [hww]; exact hx0
 | some ad =>
   have hnews:∀ j u,news[j]?=some u→w.cell? (ad.add j)=some u:=fun j u hu => by
    obtain ⟨ad',hA,hc⟩:=hread j u hu
    obtain rfl:ad=ad':=by simpa using hA
    exact hc
   rcases ho.2 with ⟨rfl,hn0⟩ | ⟨g,cap,cur,rfl,hbg,hg,hnc,hcm,hcs,htake⟩
   ·have hxe:xs=[]:=List.eq_nil_of_length_eq_zero hn0
    subst hxe
    have hie:inner=[]:=by
     have:=RRep.length (size:=e.size) (fun x cs f h => CRep.length h) hrr
     exact List.eq_nil_of_length_eq_zero (by simpa using this)
    subst hie
    exact ⟨_,[],fx,rfl,⟨rfl,hfx⟩,⟨by simp,.inl ⟨rfl,rfl⟩⟩,hfe,hfd⟩
   ·have hgf:f g:=(hfe g).2 (.inl rfl)
    by_cases hroom:xs.length+ys.length≤cap
    ·have hfit:xs.length*info.size+news.length≤cur.size:=by rw [hln,hsz,hcs,← Nat.add_mul]; exact Nat.mul_le_mul_right _ hroom
     rw [run_append_room (P:=P) w t ty te info hd hinfo g xs.length cap cur hg ad ys.length c news (by rw [hsz]; exact hln) hnews (RRep.one (fun x cs f h => CRep.one h) hry) hroom hfit] at hrun
     cases hrun
     have hsame:∀ i,Z i → (w.setRow g (cur.toList.take (xs.length*info.size) ++ news ++ cur.toList.drop (xs.length*info.size+news.length)).toArray).heap[i]?=w.heap[i]?:=fun i hi => setRow_other w g i _ (fun e => hZ i hi (e ▸ hgf))
     refine ⟨_,inner,fx,rfl,RRep.imp (P:=fun _ => True) (fun i hi => trivial) (fun x cs f' _ hx => CRep.same (fun _ => id) hsame (fun i hi => absurd hi (CRep.noOwn hn hx i)) hx) hrr,⟨ho.1,.inr ⟨g,cap,_,rfl,hbg,setRow_heap w g cur _ te _ hg,hnc,hcm,?_,?_⟩⟩,hfe,hfd⟩
     ·rw [← hcs]
      simp only [List.size_toArray,List.length_append,List.length_take,List.length_drop,Array.length_toList]
      omega
     ·simp only [List.toList_toArray,List.append_assoc]
      rw [hsz] at hfit ⊢
      rw [List.take_append_of_le_length (by simp; omega),List.take_take,Nat.min_self]
      exact htake
    ·have hgrow:∀ i,i < w.heap.size→w'.heap[i]?=w.heap[i]?:=by
      rw [run_append_grow (P:=P) w t ty te info z hd hinfo hz ⟨g,0,none⟩ xs.length cap inner (by rw [hsz]; exact ho.1) (ho.cells (g:=g) rfl) ad ys.length c news (by rw [hsz]; exact hln) hnews (by omega) (by omega) (growslice_fits (by omega) hb)] at hrun
      cases hrun
      intro i hi
      exact heap_alloc_old w.drew _ hi
     exact CRep.same (fun _ => id) (fun i hi => hgrow i (hZs i hi)) (fun i hi => hgrow i (hlt0 i hi)) hx0
def SV.pathTo (p:Path):SV→Path
 | .copy _ q => q
 | .addr _ q => q
 | _ => p ++ [.der]
def PrefL (l:List Path) (p:Path):Prop:=l=l.map fun q => p.take q.length
theorem PrefL.mk {l:List Path} {p:Path} (h:l=l.map fun q => p.take q.length):PrefL l p:=h
def PrefOk (S:SS) (h:Nat) (p:Path):Prop:=PrefL ((S.filter fun e => e.2.refs h).map fun e => e.2.pathTo p) p
theorem PrefOk.mono {S V:SS} {h:Nat} {p:Path} (hp:PrefOk S h p) (hs:∀ e,e ∈ V→e ∈ S):PrefOk V h p:=by
 unfold PrefOk PrefL at hp ⊢
 rw [List.map_map] at hp ⊢
 refine List.map_inj_left.2 fun e he => ?_
 obtain ⟨h1,h2⟩:=List.mem_filter.1 he
 exact List.map_inj_left.1 hp e (List.mem_filter.2 ⟨hs e h1,h2⟩)
theorem PrefOk.of {h:Nat} {p:Path} (hp:PrefOk S h p) {k:Nat} {sv:SV} (hm:(k,sv) ∈ S) (hr:sv.refs h=true):∃ q r,(sv=.copy h q∨sv=.addr h q)∧p=q ++ r:=by
 unfold PrefOk PrefL at hp
 rw [List.map_map] at hp
 have:=List.map_inj_left.1 hp (k,sv) (List.mem_filter.2 ⟨hm,hr⟩)
 simp only [Function.comp] at this
 have hl:(sv.pathTo p).length≤p.length:=by rw [this,List.length_take]; omega
 cases sv with
 | copy k' q =>
   have hk:k'=h:=by simpa [SV.refs] using hr
   subst hk
   simp only [SV.pathTo] at this
   exact ⟨q,p.drop q.length,.inl rfl,by have e:=List.take_append_drop q.length p; rw [← this] at e; exact e.symm⟩
 | addr k' q =>
   have hk:k'=h:=by simpa [SV.refs] using hr
   subst hk
   simp only [SV.pathTo] at this
   exact ⟨q,p.drop q.length,.inr rfl,by have e:=List.take_append_drop q.length p; rw [← this] at e; exact e.symm⟩
 | _ =>
   simp only [SV.pathTo,List.length_append,List.length_singleton] at hl
   omega
theorem okAt_suffix:∀ (p:Path) (s:Sh) (x:s.den) (s1:Sh) (x1:s1.den) (q:Path),getAt s x p=some ⟨s1,x1⟩→okAt s x (p ++ q)→okAt s1 x1 q:=by
 intro p s
 induction s generalizing p with
 | int k | bool | str | unit | any | raw | gh _ | mp mo mk mv _ _ | fn ff fc _ =>
   intro x s1 x1 q hg hok
   cases p with
   | nil =>
     simp only [getAt,Option.some.injEq,TV.mk.injEq] at hg
     obtain ⟨rfl,hx⟩:=hg
     obtain rfl:=eq_of_heq hx
     simpa using hok
   | cons c p => cases c <;> simp [getAt] at hg
 | st f ih =>
   intro x s1 x1 q hg hok
   cases p with
   | nil =>
     simp only [getAt,Option.some.injEq,TV.mk.injEq] at hg
     obtain ⟨rfl,hx⟩:=hg
     obtain rfl:=eq_of_heq hx
     simpa using hok
   | cons c p => exact ih (c :: p) x s1 x1 q (by rw [← getAt_st_cons]; exact hg) (by rw [List.cons_append] at hok ⊢; rw [← okAt_st_cons]; exact hok)
 | pair a b iha ihb =>
   intro x s1 x1 q hg hok
   cases p with
   | nil =>
     simp only [getAt,Option.some.injEq,TV.mk.injEq] at hg
     obtain ⟨rfl,hx⟩:=hg
     obtain rfl:=eq_of_heq hx
     simpa using hok
   | cons c p =>
     cases c with
     | fst => exact iha p x.1 s1 x1 q (by simpa [getAt] using hg) (by simpa [okAt] using hok)
     | snd => exact ihb p x.2 s1 x1 q (by simpa [getAt] using hg) (by simpa [okAt] using hok)
     | idx i => simp [getAt] at hg
     | der => simp [getAt] at hg
 | sl o t e ih =>
   intro x s1 x1 q hg hok
   cases p with
   | nil =>
     simp only [getAt,Option.some.injEq,TV.mk.injEq] at hg
     obtain ⟨rfl,hx⟩:=hg
     obtain rfl:=eq_of_heq hx
     simpa using hok
   | cons c p =>
     cases c with
     | idx i =>
       cases o with
       | false => simp [okAt] at hok
       | true => exact ih p (List.getD x i e.dflt) s1 x1 q (by simpa only [getAt] using hg) (by simp only [List.cons_append,okAt] at hok; exact hok.2)
     | fst => simp [getAt] at hg
     | snd => simp [getAt] at hg
     | der => simp [getAt] at hg
 | pt o t e ih =>
   intro x s1 x1 q hg hok
   cases p with
   | nil =>
     simp only [getAt,Option.some.injEq,TV.mk.injEq] at hg
     obtain ⟨rfl,hx⟩:=hg
     obtain rfl:=eq_of_heq hx
     simpa using hok
   | cons c p =>
     cases c with
     | der =>
       cases o with
       | false => simp [okAt] at hok
       | true => exact ih p (Option.getD x e.dflt) s1 x1 q (by simpa only [getAt] using hg) (by simp only [List.cons_append,okAt] at hok; exact hok.2)
     | fst => simp [getAt] at hg
     | snd => simp [getAt] at hg
     | idx i => simp [getAt] at hg
theorem above_row {s:Sh} {x:s.den} {vh vold:Value} {f:Fp} {q r:Path} {g o t:Nat} {e:Sh} {xs:List e.den} (hroot:IsRoot s) (hc:CRep Z w s x [vh] f) (hq:q≠[]) (hok:okAt s x (q ++ r)) (hokq:okAt s x q) (hn:e.noOwn=true)
 (hg:getAt s x (q ++ r)=some ⟨.sl true t e,xs⟩) (hl:rootLoc w s vh (q ++ r)=some (g,o)) (hcell:w.cell? ⟨g,o,none⟩=some vold) :
 ∃ s1 x1 g1 o1,getAt s x q=some ⟨s1,x1⟩∧rootLoc w s vh q=some (g1,o1) ∧ (∀ w2:World,(∀ i,vold.ownBlock≠some i→i < w.heap.size→w2.heap[i]?=w.heap[i]?)→rootLoc w2 s vh q=some (g1,o1)∧w2.heap[g1]?=w.heap[g1]?):=by
 obtain ⟨⟨s1,x1⟩,hg1⟩:=okAt_get q s x hokq
 obtain ⟨g1,t1,pre,cs,post,f1,R⟩:=rfocus q s x vh f ⟨s1,x1⟩ hc hq (by cases s <;> first | exact hroot.elim | trivial | exact absurd (mp_path hokq) (by assumption)) hokq hg1
 obtain ⟨k1,k2,k3⟩:=path_append q s x s1 x1 r hg1
 have hg2:getAt s1 x1 r=some ⟨.sl true t e,xs⟩:=by rw [← k1]; exact hg
 have hok2:=okAt_suffix q s x s1 x1 r hg1 hok
 have hl2:loc w s1 g1 pre.length r=some (g,o):=by rw [← rootLoc_append hq hg1 R.at_]; exact hl
 obtain ⟨g2,t2,pre2,cs2,post2,f2,R2⟩:=focus r s1 x1 g1 t1 pre cs post f1 _ R.rep R.heap R.out hok2 hg2
 have:=R2.at_
 rw [hl2] at this
 simp only [Option.some.injEq,Prod.mk.injEq] at this
 obtain ⟨rfl,rfl⟩:=this
 have hl1:cs2.length=1:=CRep.length R2.rep
 have hcs2:cs2=[vold]:=by
  have h0:=cells_mid R2.heap 0 (by omega)
  rw [Nat.add_zero,hcell] at h0
  match cs2,hl1,h0 with
  | [u],_,h0 => simp at h0; rw [h0]
 have hrep2:=R2.rep
 rw [hcs2] at hrep2
 have hiff:=own_iff hn hrep2
 have hlt:=CRep.lt hc
 refine ⟨s1,x1,g1,pre.length,hg1,R.at_,fun w2 hw2 => ⟨R.again w2 (fun i hi hn' => hw2 i (fun e => hn' (R2.sub i ((hiff i).2 e))) (hlt i hi)),?_⟩⟩
 refine hw2 g1 (fun e => R.out (R2.sub g1 ((hiff g1).2 e))) (hlt g1 R.in_)
theorem upd_same:∀ (p:Path) (s:Sh) (x:s.den) (v:TV),okAt s x p→getAt s x p=some v→upd s x p v=some ⟨s,x⟩:=by
 intro p s
 induction s generalizing p with
 | int k | bool | str | unit | any | raw | gh _ | mp mo mk mv _ _ | fn ff fc _ =>
   intro x v hok hg
   cases p with
   | nil => simp only [getAt,Option.some.injEq] at hg; subst hg; rfl
   | cons c p => cases c <;> simp [getAt] at hg
 | st f ih =>
   intro x v hok hg
   cases p with
   | nil => simp only [getAt,Option.some.injEq] at hg; subst hg; rfl
   | cons c p =>
     have h:=ih (c :: p) x v (by rw [← okAt_st_cons]; exact hok) (by rw [← getAt_st_cons]; exact hg)
     cases c <;> simp only [upd,h]
 | pair a b iha ihb =>
   intro x v hok hg
   cases p with
   | nil => simp only [getAt,Option.some.injEq] at hg; subst hg; rfl
   | cons c p =>
     cases c with
     | fst =>
       have h:=iha p x.1 v (by simpa [okAt] using hok) (by simpa [getAt] using hg)
       simp only [upd,h]
     | snd =>
       have h:=ihb p x.2 v (by simpa [okAt] using hok) (by simpa [getAt] using hg)
       simp only [upd,h]
     | idx i => simp [getAt] at hg
     | der => simp [getAt] at hg
 | sl o t e ih =>
   intro x v hok hg
   cases p with
   | nil => simp only [getAt,Option.some.injEq] at hg; subst hg; rfl
   | cons c p =>
     cases c with
     | idx i =>
       cases o with
       | false => simp [okAt] at hok
       | true =>
         have h:=ih p (List.getD x i e.dflt) v (by simp only [okAt] at hok; exact hok.2) (by simpa only [getAt] using hg)
         simp only [upd,h,dite_true]
         have hi:i < List.length x:=by simp only [okAt] at hok; exact hok.1
         congr 2
         apply List.ext_getElem?
         intro j
         rw [List.getElem?_set]
         by_cases hj:i=j
         ·subst hj
          simp [hi,List.getD_eq_getElem?_getD]
         ·simp [hj]
     | fst => simp [getAt] at hg
     | snd => simp [getAt] at hg
     | der => simp [getAt] at hg
 | pt o t e ih =>
   intro x v hok hg
   cases p with
   | nil => simp only [getAt,Option.some.injEq] at hg; subst hg; rfl
   | cons c p =>
     cases c with
     | der =>
       cases o with
       | false => simp [okAt] at hok
       | true =>
         cases x with
         | none => simp [okAt] at hok
         | some y =>
           have h:=ih p y v (by simpa [okAt] using hok) (by simpa [getAt] using hg)
           simp only [upd,Option.getD_some,h]
     | fst => simp [getAt] at hg
     | snd => simp [getAt] at hg
     | idx i => simp [getAt] at hg
theorem RelX.dead (h:RelX Z F w0 Wr Zi N S a w) {k:Nat} {p:Path} {s:Sh} {x:s.den} {vh vold:Value} {g o t:Nat} {e:Sh} {xs:List e.den} {w':World} (hh:Home S a.tmps k s x vh) (hroot:IsRoot s) (hp:p≠[]) (hok:okAt s x p)
 (hat:getAt s x p=some ⟨.sl true t e,xs⟩) (hn:e.noOwn=true) (hl:rootLoc w s vh p=some (g,o)) (hcell:w.cell? ⟨g,o,none⟩=some vold) (hpref:PrefOk S k p) (hgr:Grow (fun i => vold.ownBlock=some i) w w')
 (hkeep:∀ f,(∀ i,f i→F k i)→CRep Z w (.sl true t e) xs [vold] f→CRep Z w' (.sl true t e) xs [vold] f):RelX Z F w0 Wr Zi N S a w':=by
 have hcr:=root_cells hroot (home_rep h hh)
 obtain ⟨t',pre',post',f',R,ho⟩:=place_row hroot hcr hok hp hat hl hcell
 have hiff:=own_iff hn R.rep
 have hUF:∀ i,vold.ownBlock=some i→F k i:=fun i hi => R.sub i ((hiff i).2 hi)
 have hsame:∀ i,i < w.heap.size→vold.ownBlock≠some i→w'.heap[i]?=w.heap[i]?:=fun i hi hne => hgr.block i hi hne
 have hZ:∀ i,Z i→w'.heap[i]?=w.heap[i]?:=fun i hi => hsame i (h.zlt i hi) (fun e => h.nz k i (hUF i e) hi)
 have hF:∀ q,q≠k→∀ i,F q i→w'.heap[i]?=w.heap[i]?:=fun q hq i hi => hsame i (h.lt q i hi) (fun e => hq (h.apart q k i hi (hUF i e)))
 refine ⟨h.tsize,h.pins,h.uniq,fun i hi => Nat.lt_of_lt_of_le (h.zlt i hi) hgr.size,h.zin,h.wr,h.nz,fun s i hi => Nat.lt_of_lt_of_le (h.lt s i hi) hgr.size,h.apart,h.grow.step hgr (fun i hi => h.wr k i (hUF i hi)),h.defers,?_⟩
 intro q sv hm
 obtain ⟨v,hv,hrep⟩:=h.rep q sv hm
 refine ⟨v,hv,?_⟩
 by_cases hr:sv.refs k=true
 ·obtain ⟨q1,r,hsv,rfl⟩:=hpref.of hm hr
  rcases hsv with rfl | rfl
  ·obtain ⟨h0,s0,x0,vh0,hh0,hrest⟩:=hrep
   obtain rfl:vh=vh0:=by have:=hh.tmp; rw [hh0.tmp] at this; simpa using this.symm
   have heq:=h.uniq k _ _ hh0.get hh.get
   simp only [SV.val.injEq] at heq
   obtain ⟨rfl,heq⟩:=heq
   obtain rfl:=eq_of_heq heq
   refine ⟨h0,s0,x0,vh,hh,?_⟩
   rcases hrest with hrest | ⟨g2,o2,s2,x2,cs,k1,k2,k3,k4,k5,k6,k7,k8⟩
   ·exact .inl hrest
   ·obtain ⟨s1,x1,g1,o1,a1,a2,a3⟩:=above_row hroot hcr k2 hok k3 hn hat hl hcell
    rw [k5] at a2
    simp only [Option.some.injEq,Prod.mk.injEq] at a2
    obtain ⟨rfl,rfl⟩:=a2
    obtain ⟨b1,b2⟩:=a3 w' (fun i hne hi => hsame i hi hne)
    exact .inr ⟨g2,o2,s2,x2,cs,k1,k2,k3,k4,b1,k6,fun j u hu => by rw [cell_same (w:=w) b2]; exact k7 j u hu,k8⟩
  ·obtain ⟨h0,s0,x0,vh0,g2,o2,hh0,k1,k2,k3,k5,k8⟩:=hrep
   obtain rfl:vh=vh0:=by have:=hh.tmp; rw [hh0.tmp] at this; simpa using this.symm
   have heq:=h.uniq k _ _ hh0.get hh.get
   simp only [SV.val.injEq] at heq
   obtain ⟨rfl,heq⟩:=heq
   obtain rfl:=eq_of_heq heq
   obtain ⟨s1,x1,g1,o1,a1,a2,a3⟩:=above_row hroot hcr k2 hok k3 hn hat hl hcell
   rw [k5] at a2
   simp only [Option.some.injEq,Prod.mk.injEq] at a2
   obtain ⟨rfl,rfl⟩:=a2
   obtain ⟨b1,b2⟩:=a3 w' (fun i hne hi => hsame i hi hne)
   exact ⟨h0,s0,x0,vh,g2,o2,hh,k1,k2,k3,b1,k8⟩
 ·by_cases hqk:q=k
  ·subst hqk
   have:=h.uniq q _ _ hm hh.get
   subst this
   obtain rfl:v=vh:=by have:=hh.tmp; rw [hv] at this; simpa using this
   obtain ⟨f3,c1,c2⟩:=R.put Z w' ⟨.sl true t e,xs⟩ [vold] f' ⟨s,x⟩ (upd_same p s x _ hok hat) (hkeep f' R.sub R.rep) rfl (fun _ => id) hZ (fun i hi hn' _ => hsame i (h.lt q i hi) (fun e => hn' ((hiff i).2 e)))
    (by rw [hsame g (h.lt q g R.in_) (fun e => R.out ((hiff g).2 e))]; exact R.heap) (fun i hi _ => hi) R.out
   refine ⟨[v],CRep.ext (fun i => ?_) c1,root_val hroot v⟩
   rw [c2 i]
   constructor
   ·intro hi
    by_cases hfi:f' i
    ·exact .inr hfi
    ·exact .inl ⟨hi,hfi⟩
   ·rintro (⟨hi,_⟩ | hi)
    ·exact hi
    ·exact R.sub i hi
  ·refine SV.rep_turn (Z:=Z) (fun i => id) hZ (hF q hqk) ?_ (fun g hg => rfl) hrep
   intro q2 hq2 s1 x1 vh1 hh1
   have hne:q2≠k:=fun e => hr (by rw [← e]; exact hq2)
   refine ⟨hh1,fun hs => ?_⟩
   obtain ⟨v1,hv1,hr1⟩:=h.rep q2 _ hh1.get
   rw [hh1.tmp] at hv1
   obtain rfl:vh1=v1:=by simpa using hv1
   exact ⟨F q2,root_cells hs hr1,hF q2 hne⟩
def appG (T:Tbl) (S:SS) (t:Nat) (X Y:Operand):Option (Nat × Path × TV × List Prop) :=
 match opd T S t X with
 | some (.copy k (q :: p)) => match placeOf S k (q :: p) with
   | some ⟨.sl true te e,xs⟩ => if e.noOwn then match appT T t te e with
     | some b => match srcO S e Y with
       | some (ys,_) => some (k,q :: p,⟨.sl true te e,List.append xs ys⟩,[(List.length xs+List.length ys)*b≤140737488355328])
       | none => none
     | none => none
     else none
   | _ => none
 | _ => none
theorem srcO_plain {e:Sh} (hn:e.noOwn=true) {X:Operand} {ys:List e.den} (hs:srcO S e X=some (ys,S1)):S1=S:=by
 unfold srcO at hs
 split at hs
 ·split at hs
  ·split at hs
   ·rename_i he; subst he; cases hs; rfl
   ·cases hs
  ·split at hs
   ·rename_i he
    subst he
    simp only [hn,if_true,Option.some.injEq,Prod.mk.injEq] at hs
    exact hs.2.symm
   ·cases hs
  ·split at hs
   ·split at hs
    ·rename_i he; subst he
     first
      | (cases hs; rfl)
      | (simp only [hn,if_true,Option.some.injEq,Prod.mk.injEq] at hs; exact hs.2.symm)
    ·cases hs
   ·cases hs
  ·cases hs
 ·cases hs
theorem appendG_ok (hT:TOk P T) (h:RelX Z F w0 Wr Zi N S a w) {t k:Nat} {X Y:Operand} {p:Path} {tv:TV} {c:List Prop} (ho:o.op=.call { callee:=.builtin .append,args:=#[X,Y],argTypes:=#[t,t] })
 (hr:appG T S t X Y=some (k,p,tv,c)) (hc:AllP c) (hpref:PrefOk S k p) (hp:putS N S o.dst (.grown k p tv)=some S'):Runs P o a w (Rel w0 Wr Zi N S'):=by
 unfold appG at hr
 split at hr
 ·rename_i k' q0 p0 hX
  split at hr
  ·rename_i te e xs hpl
   split at hr
   ·rename_i hn
    split at hr
    ·rename_i b hb
     split at hr
     ·rename_i ys S2 hsrc
      cases hr
      obtain ⟨s,x,hg,hroot,hat⟩:=placeOf_some hpl
      obtain ⟨_,s',x',vh,hh,hrest⟩:=opd_rep h hX
      have heq:=home_is h hh hg
      simp only [TV.mk.injEq] at heq
      obtain ⟨rfl,heq⟩:=heq
      obtain rfl:=eq_of_heq heq
      have hcr:=root_cells hroot (home_rep h hh)
      rcases hrest with ⟨hpe,_⟩ | ⟨g,oo,s1,x1,cs,_,hpn,hok,hat2,hl,hlen,hcells,hvo⟩
      ·cases hpe
      ·rw [hat] at hat2
       simp only [Option.some.injEq,TV.mk.injEq] at hat2
       obtain ⟨rfl,hx1⟩:=hat2
       obtain rfl:=eq_of_heq hx1
       have hcs:cs=[a.eval X]:=by simpa [ValOf] using hvo
       subst hcs
       have hcell:w.cell? ⟨g,oo,none⟩=some (a.eval X):=by simpa using hcells 0 _ rfl
       obtain ⟨t',pre',post',f',R,hoo⟩:=place_row hroot hcr hok hpn hat hl hcell
       have hiff:=own_iff hn R.rep
       obtain rfl:=srcO_plain hn hsrc
       obtain ⟨F2,fr,hs,_,_,_,_⟩:=srcO_rep h hsrc
       have hfr:∀ i,¬ fr i:=by
        obtain ⟨A,c,inner,_,hrr,_⟩:=hs
        exact RRep.none_ (fun x cs f hx => CRep.noOwn hn hx) hrr
       unfold appT at hb
       split at hb
       ·rename_i i hi
        split at hb
        ·rename_i te' hk
         split at hb
         ·rename_i hte
          subst hte
          split at hb
          ·rename_i ie hie
           split at hb
           ·rename_i hf
            cases hb
            simp only [Bool.and_eq_true,decide_eq_true_eq,beq_iff_eq] at hf
            obtain ⟨⟨⟨hf1,hf2⟩,hf3⟩,hf4⟩:=hf
            obtain ⟨ht,hty⟩:=hT.find hi
            obtain ⟨d,hd,hdk⟩:=hty.desc
            rw [ht] at hd
            rw [hk] at hdk
            have:d=.slice te':=by cases d <;> simp_all [kdOf]
            subst this
            obtain ⟨hte,htye⟩:=hT.find hie
            obtain ⟨info,hinfo,hsz,hby,hz⟩:=htye.info
            rw [hte] at hinfo
            have hzs:ie.zero.zeroV.cells.size=e.size:=by
             rw [← Array.length_toList,zero_cells ie hf1,CRep.length (Sh.zeros_rep Z w ie.zero)]
             simp only [fits,Bool.and_eq_true,beq_iff_eq] at hf1
             omega
            have hZf:∀ i,Z i→¬ f' i:=fun i hi hfi => h.nz k i (R.sub i hfi) hi
            have hbb:(xs.length+ys.length)*info.bytes≤140737488355328:=by rw [hby]; exact hc.1
            obtain ⟨v',w',f2,hrun,hcr2,hg2,hf2'⟩:=append_run (Z:=Z) hd hinfo hz (by rw [hsz,hf2]) hzs hf3 (by rw [hby]; exact hf4) R.rep hs (fun i hi => absurd hi (hfr i)) (fun i hi => absurd hi (hfr i)) hZf h.zlt hbb o.type
            have hkeep:=append_keep hd hinfo hz (by rw [hsz,hf2]) hf3 (by rw [hby]; exact hf4) hn R.rep hs hZf h.zlt hbb hrun
            have h2:=h.dead hh hroot hpn hok hat hn hl hcell hpref hg2 (fun f hfk hcf => append_keep hd hinfo hz (by rw [hsz,hf2]) hf3 (by rw [hby]; exact hf4) hn hcf hs (fun i hi hfi => h.nz k i (hfk i hfi) hi) h.zlt hbb hrun)
            obtain ⟨d,hd',hlt,hrd,htd,rfl⟩:=putS_some hp
            have hkd:k≠d:=by
             intro e
             simp [SV.refs,e] at hrd
            have hiff2:=own_iff hn hcr2
            obtain ⟨_,_,g1,o1,_,b2,b3⟩:=above_row (r:=[]) hroot hcr hpn (by simpa using hok) hok hn (by simpa using hat) (by simpa using hl) hcell
            rw [hl] at b2
            simp only [Option.some.injEq,Prod.mk.injEq] at b2
            obtain ⟨rfl,rfl⟩:=b2
            obtain ⟨c1,c2⟩:=b3 w' (fun i hne hi => hg2.block i hi hne)
            refine ⟨.value v',v',w',?_,.inl rfl,?_⟩
            ·simp [execOp,ho,resolve,invoke,builtin,hrun]
            ·rw [hd']
             refine ⟨Z,_,h2.putG (d:=d) (sv:=.grown k (q0 :: p0) ⟨.sl true te' e,List.append xs ys⟩) (v:=v') (f:=fun i => f2 i∧w.heap.size≤i) (U:=fun _ => False) (by rw [h.tsize]; exact hlt.1) (fun hm => absurd hm hlt.2) (Grow.refl _ _) (fun i hi => hi.elim) (fun i hi => ⟨(hf2' i hi.1).1,.inr ⟨fun hz => ?_,fun s _ hs => ?_,.inr (Nat.le_trans h.grow.size hi.2)⟩⟩) ?_⟩
             ·have:=h.zlt i hz; have:=hi.2; omega
             ·have:=h.lt s i hs; have:=hi.2; omega
             ·refine ⟨s',x',vh,g,oo,a.eval X,te',e,xs,f2,⟨SS.mem_put.2 (.inr ⟨hh.get,hkd,rfl,rfl⟩),by rw [put_other a d k v' hkd]; exact hh.tmp⟩,hroot,hpn,hok,hat,hn,c1,by rw [cell_same (w:=w) c2]; exact hcell,rfl,hcr2,fun i hi => ?_⟩
              rcases (hf2' i hi).2 with h' | h' | h'
              ·exact .inl ⟨hi,h'⟩
              ·exact .inr ((hiff i).1 h')
              ·exact absurd h' (hfr i)
           ·cases hb
          ·cases hb
         ·cases hb
        ·cases hb
       ·cases hb
     ·cases hr
    ·cases hr
   ·cases hr
  ·cases hr
 ·cases hr
theorem RelX.drop (h:RelX Z F w0 Wr Zi N S a w) (y:Nat):RelX Z (fun t => if t=y then (fun _ => False) else F t) w0 Wr Zi N (S.kill y) a w∧Held Z (fun t => if t=y then (fun _ => False) else F t) w0 Wr w (F y):=by
 refine ⟨⟨h.tsize,h.pins,fun k v1 v2 h1 h2 => h.uniq k v1 v2 (SS.mem_kill.1 h1).1 (SS.mem_kill.1 h2).1,h.zlt,h.zin,?_,?_,?_,?_,h.grow,h.defers,?_⟩,?_⟩
 ·intro t i hi
  by_cases e:t=y
  ·simp [e] at hi
  ·simp only [e,if_false] at hi; exact h.wr t i hi
 ·intro t i hi
  by_cases e:t=y
  ·simp [e] at hi
  ·simp only [e,if_false] at hi; exact h.nz t i hi
 ·intro t i hi
  by_cases e:t=y
  ·simp [e] at hi
  ·simp only [e,if_false] at hi; exact h.lt t i hi
 ·intro t u i hi hi2
  by_cases e:t=y
  ·simp [e] at hi
  ·by_cases e2:u=y
   ·simp [e2] at hi2
   ·simp only [e,if_false] at hi; simp only [e2,if_false] at hi2; exact h.apart t u i hi hi2
 ·intro t sv hm'
  obtain ⟨hm',hne,hrf,hts⟩:=SS.mem_kill.1 hm'
  simp only at hne hrf hts
  obtain ⟨v',hv',hr'⟩:=h.rep t sv hm'
  refine ⟨v',hv',?_⟩
  simp only [hne,if_false]
  refine SV.rep_turn (Z:=Z) (fun i hi => hi) (fun i hi => rfl) (fun i hi => rfl) ?_ (fun g hg => rfl) hr'
  intro k hk s1 x1 vh hh
  have hkd:k≠y:=fun e => by rw [e,hrf] at hk; cases hk
  refine ⟨⟨SS.mem_kill.2 ⟨hh.get,hkd,rfl,rfl⟩,hh.tmp⟩,fun hs => ?_⟩
  obtain ⟨v1,hv1,hr1⟩:=h.rep k _ hh.get
  rw [hh.tmp] at hv1
  obtain rfl:vh=v1:=by simpa using hv1
  exact ⟨F k,root_cells hs hr1,fun i hi => rfl⟩
 ·intro i hi
  refine ⟨h.lt y i hi,h.nz y i hi,fun t ht => ?_,h.wr y i hi⟩
  by_cases e:t=y
  ·simp [e] at ht
  ·simp only [e,if_false] at ht; exact e (h.apart t y i ht hi)
def storeG (T:Tbl) (S:SS) (t y:Nat) (X:Operand):Option (SS × List Prop) :=
 match S.get y,(opd T S t X).map (derefV S) with
 | some (.grown k p tv),some (.addr k' p') => if k'=k then match S.get k with
   | some (.val s x) => if s.isRoot && !(Nat.beq k y) then match T.find t,upd s x p tv with
     | some i,some r => if fits i tv.sh then some ((S.kill y).put k (.val r.sh r.x),[p'=p]) else none
     | _,_ => none
     else none
   | _ => none
   else none
 | _,_ => none
theorem storeG_ok (hT:TOk P T) (h:RelX Z F w0 Wr Zi N S a w) {t y:Nat} {X:Operand} {c:List Prop} (ho:o.op=.store t X (.tmp y)) (hd:o.dst=none) (hr:storeG T S t y X=some (S',c)) (hc:AllP c):Runs P o a w (Rel w0 Wr Zi N S'):=by
 unfold storeG at hr
 split at hr
 ·rename_i k p tv k' p' hgy hX
  split at hr
  ·rename_i hkk
   subst hkk
   split at hr
   ·rename_i s x hgk
    split at hr
    ·rename_i hroot
     simp only [Bool.and_eq_true,Bool.not_eq_true'] at hroot
     obtain ⟨hroot,hky⟩:=hroot
     have hroot:=Sh.isRoot_iff hroot
     have hky':k'≠y:=fun e => by rw [e] at hky; simp at hky
     split at hr
     ·rename_i i r hi hu
      split at hr
      ·rename_i hfit
       cases hr
       obtain rfl:p'=p:=hc.1
       obtain ⟨v,hv,hrep⟩:=h.rep y _ (SS.get_mem hgy)
       obtain ⟨s1,x1,vh,g,oo,vold,te,e,xs,f2,hh,_,hpn,hok,hat,hn,hl,hcell,htv,hc2,hf2⟩:=hrep
       have heq:=home_is h hh hgk
       simp only [TV.mk.injEq] at heq
       obtain ⟨rfl,heq⟩:=heq
       obtain rfl:=eq_of_heq heq
       obtain ⟨sv0,hX0,hXe⟩:=Option.map_eq_some_iff.1 hX
       have hXr:=derefV_rep h (opd_rep h hX0)
       rw [hXe] at hXr
       obtain ⟨_,s2,x2,vh2,g2,o2,hh2,_,_,_,hl2,hax⟩:=hXr
       have heq2:=h.uniq k' _ _ hh2.get hh.get
       simp only [SV.val.injEq] at heq2
       obtain ⟨rfl,heq2⟩:=heq2
       obtain rfl:=eq_of_heq heq2
       obtain rfl:vh=vh2:=by have:=hh.tmp; rw [hh2.tmp] at this; simpa using this.symm
       rw [hl] at hl2
       simp only [Option.some.injEq,Prod.mk.injEq] at hl2
       obtain ⟨rfl,rfl⟩:=hl2
       have hcr:=root_cells hroot (home_rep h hh)
       obtain ⟨t',pre',post',f',R,rfl⟩:=place_row hroot hcr hok hpn hat hl hcell
       have hiff:=own_iff hn R.rep
       obtain ⟨ht,hty⟩:=hT.find hi
       obtain ⟨info,hinfo,hisz,_⟩:=hty.info
       rw [ht] at hinfo
       simp only [fits,Bool.and_eq_true,beq_iff_eq] at hfit
       have hone:v.oneCell'=true:=CRep.one hc2 v (by simp)
       have hvc:v.cells.toList=[v]:=one_cells hone
       have hst:=run_storeCells_at (P:=P) g pre'.length t' [v] 0 (pre' ++ [vold] ++ post').toArray w R.heap (by simp) (fun u hu => by simp only [List.mem_singleton] at hu; rw [hu]; exact hone)
       have hnew:(((pre' ++ [vold] ++ post').toArray.toList.take (pre'.length+0) ++ [v] ++ (pre' ++ [vold] ++ post').toArray.toList.drop (pre'.length+0+[v].length)):List Value)=pre' ++ [v] ++ post':=by
        simp only [Nat.add_zero,List.append_assoc,List.take_left',List.drop_append]
        simp
       rw [hnew] at hst
       have hcs:v.cells.size=info.size:=by
        rw [← Array.length_toList,hvc,hisz,hfit.1.1,htv]; rfl
       have hrun:(execOp a.eval o).run P w=.ok .skip (w.setRow g (pre' ++ [v] ++ post').toArray):=by
        simp [execOp,ho,hax,eval_of hv,Instr.storeAt,Instr.sureAddr,storeVar,Go.sizeOf,typeInfo,hinfo,hcs,hvc,hst]
       obtain ⟨h1,hheld⟩:=h.drop y
       have hsame:∀ j,j≠g → (w.setRow g (pre' ++ [v] ++ post').toArray).heap[j]?=w.heap[j]?:=fun j hj => setRow_other w g j _ (fun e => hj e)
       have hfkg:F k' g:=R.in_
       have hzg:∀ j,Z j→j≠g:=fun j hj e => h.nz k' g hfkg (e ▸ hj)
       have hf2g:∀ j,f2 j→j≠g:=fun j hj e => by
        rcases hf2 j hj with h' | h'
        ·exact hky' (h.apart k' y g hfkg (e ▸ h'))
        ·exact R.out (by rw [← e]; exact (hiff j).2 h')
       obtain ⟨f3,hc3,hf3⟩:=R.put Z (w.setRow g (pre' ++ [v] ++ post').toArray) tv [v] f2 r hu (CRep.same (fun _ => id) (fun j hj => hsame j (hzg j hj)) (fun j hj => hsame j (hf2g j hj)) hc2) rfl (fun _ => id) (fun j hj => hsame j (hzg j hj)) (fun j _ _ hne => hsame j hne) (setRow_heap w g _ _ _ _ R.heap)
        (fun j hj hj2 => by
         rcases hf2 j hj with h' | h'
         ·exact absurd (h.apart k' y j hj2 h') hky'
         ·exact (hiff j).2 h') (fun hj => hf2g g hj rfl)
       have hgsz:(w.setRow g (pre' ++ [v] ++ post').toArray).heap.size=w.heap.size:=by simp [World.setRow]
       refine ⟨.skip,undef,_,hrun,.inr ⟨rfl,rfl⟩,?_⟩
       have hFk:∀ j,(if k'=y then (fun _ => False) else F k') j↔F k' j:=fun j => by simp [hky']
       have:=h1.putG (d:=k') (sv:=.val r.sh r.x) (v:=vh) (f:=f3) (U:=fun j => j=g) (w':=w.setRow g (pre' ++ [v] ++ post').toArray) (Array.getElem?_eq_some_iff.1 hh.tmp).1 (fun _ => hh.tmp)
        (Grow.mk rfl rfl rfl (by rw [hgsz]; exact Nat.le_refl _) (fun j _ hj => hsame j hj))
        (fun j hj _ => by
         subst hj
         refine ⟨fun hz => h.nz k' j hfkg hz,fun q hq hf => ?_,h.wr k' j hfkg⟩
         by_cases e:q=y
         ·simp [e] at hf
         ·simp only [e,if_false] at hf; exact hq (h.apart q k' j hf hfkg))
        (fun j hj => by
         rw [hgsz]
         rcases (hf3 j).1 hj with ⟨hj,_⟩ | hj
         ·refine ⟨h.lt k' j hj,.inr ⟨h.nz k' j hj,fun q hq hf => ?_,h.wr k' j hj⟩⟩
          by_cases e:q=y
          ·simp [e] at hf
          ·simp only [e,if_false] at hf; exact hq (h.apart q k' j hf hj)
         ·rcases hf2 j hj with h' | h'
          ·obtain ⟨a1,a2,a3,a4⟩:=hheld j h'
           exact ⟨a1,.inr ⟨a2,fun q _ => a3 q,a4⟩⟩
          ·have hj':F k' j:=R.sub j ((hiff j).2 h')
           refine ⟨h.lt k' j hj',.inr ⟨h.nz k' j hj',fun q hq hf => ?_,h.wr k' j hj'⟩⟩
           by_cases e:q=y
           ·simp [e] at hf
           ·simp only [e,if_false] at hf; exact hq (h.apart q k' j hf hj'))
        ⟨[vh],hc3,root_val (upd_root hroot hpn hu) vh⟩
       rw [put_idem hh.tmp] at this
       rw [hd]
       exact ⟨Z,_,this⟩
      ·cases hr
     ·cases hr
    ·cases hr
   ·cases hr
  ·cases hr
 ·cases hr
end
end Go.Vm
