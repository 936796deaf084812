/- A field of a struct's value; a struct's value that came in lent, in its box. -/
import Derived.Test.YtgonbndbnmimhaaDoorVmMb
set_option linter.unusedVariables false
set_option linter.unusedSimpArgs false
namespace Go.Vm
open Go
section
variable {P:Program} {T:Tbl} {Z:Fp} {F:Nat→Fp} {w0:World} {Wr Zi:Fp} {N:Fr} {S S' S1:SS} {a:Act} {w:World} {o:Oper}
theorem part_fit (hT:TOk P T) {t:Nat} {i:TI} (hi:T.find t=some i) {s:Sh} (hf:fits i s=true) {c:List Value} (hl:c.length=s.size) {cs:Array Value} {off:Nat} {pre post:List Value} (hcs:cs.toList=pre ++ c ++ post) (hp:pre.length=off) (w1:World) :
 ∃ v,(part t cs off).run P w1=.ok v w1∧ValOf s v c:=by
 simp only [fits,Bool.and_eq_true,beq_iff_eq,Bool.or_eq_true] at hf
 obtain ⟨⟨hs,ha⟩,h1⟩:=hf
 obtain ⟨ht,hty⟩:=hT.find hi
 obtain ⟨d,hd,hdk⟩:=hty.desc
 obtain ⟨info,hinfo,hsz,_⟩:=hty.info
 rw [ht] at hd hinfo
 obtain ⟨v,hv,e1,e2⟩:=ValOf.mk (s:=s) (cs:=c) (fun h => by rcases h1 with h1 | h1; rw [h1] at h; cases h; omega)
 refine ⟨v,?_,hv⟩
 have hagg:=agg_run (t:=t) hd w1
 by_cases hst:s.isSt=true
 ·rw [e1 hst]
  have hex:cs.extract off (off+info.size)=c.toArray:=by
   apply Array.toList_inj.1
   rw [Array.toList_extract,hcs]
   simp only [List.extract_eq_take_drop,List.toList_toArray]
   rw [hsz,hs,← hl,List.append_assoc,List.drop_append_of_le_length (by omega),List.drop_eq_nil_of_le (by omega),List.nil_append,List.take_append_of_le_length (by omega),List.take_of_length_le (by omega)]
  simp [part,hagg,hdk,ha,hst,Go.sizeOf,typeInfo,hinfo,hex,Result.andThen]
 ·simp only [Bool.not_eq_true] at hst
  have:=e2 hst
  subst this
  have hx:cs[off]?=some v:=by
   rw [← Array.getElem?_toList,hcs,List.append_assoc,List.getElem?_append_right (by omega)]
   simp [hp]
  simp [part,hagg,hdk,ha,hst,hx,Result.andThen]
def fieldV (T:Tbl) (st j:Nat) (tv:TV):Option TV :=
 match T.find st with
 | some i => match i.kd with
   | .struct fs => match fs[j]? with
     | some (ft,off) => match T.find ft,fOff tv.sh tv.x (fpath fs.length j) with
       | some fi,some (v,off') => if off=off'∧fits fi v.sh=true∧tv.sh.isSt=true then some v else none
       | _,_ => none
     | none => none
   | _ => none
 | none => none
theorem field_ok (hT:TOk P T) (h:RelX Z F w0 Wr Zi N S a w) {st j:Nat} {X:Operand} {tv v:TV} (ho:o.op=.field st X j) (hx:takeO T S st X=some (tv,S1)) (hv:fieldV T st j tv=some v)
 (hp:putS N S1 o.dst (.val v.sh v.x)=some S'):Runs P o a w (Rel w0 Wr Zi N S'):=by
 obtain ⟨F1,f,⟨cs,hc,hval⟩,h1,hh,_⟩:=takeO_rep h hx
 unfold fieldV at hv
 split at hv
 ·rename_i i hi
  split at hv
  ·rename_i fs hk
   split at hv
   ·rename_i ft off hj
    split at hv
    ·rename_i fi v' off' hfi hfo
     split at hv
     ·rename_i hcond
      obtain ⟨rfl,hfit,hst⟩:=hcond
      cases hv
      obtain ⟨c1,c,c2,f',rfl,hl,hcv,hsub⟩:=fOff_cells _ _ _ _ _ hfo cs f hc
      have hagg:a.eval X=.agg (c1 ++ c ++ c2).toArray:=by
       obtain ⟨sh,x⟩:=tv
       cases sh <;> first | exact hval | cases hst
      obtain ⟨ht,hty⟩:=hT.find hi
      obtain ⟨d,hd,hdk⟩:=hty.desc
      rw [ht] at hd
      rw [hk] at hdk
      obtain ⟨u,hu,huv⟩:=part_fit hT hfi hfit (CRep.length hcv) (cs:=(c1 ++ c ++ c2).toArray) (pre:=c1) (post:=c2) (by simp) hl w
      have hft:=(hT.find hfi).1
      cases d with
      | struct fields =>
        simp only [kdOf,KD.struct.injEq] at hdk
        rw [← hdk] at hj
        simp only [List.getElem?_map,Array.getElem?_toList,Option.map_eq_some_iff,Prod.mk.injEq] at hj
        obtain ⟨fd,hf,rfl,rfl⟩:=hj
        refine Runs.make (U:=fun _ => False) (f:=f') h1 hp (v:=u) ?_ (Grow.refl _ _) (fun i hi => hi.elim) (fun i hi => ?_) ⟨c,hcv,huv⟩
        ·simp [execOp,ho,hagg,Instr.field,Sem.run_bind,run_underlying hd,hf,asAgg]
         have hu2:(part fd.type (c1 ++ (c ++ c2)).toArray fd.offset).run P w=.ok u w:=by simpa using hu
         rw [hu2]; rfl
        ·obtain ⟨q1,q2,q3,q4⟩:=hh i (hsub i hi)
         exact ⟨q1,.inr ⟨q2,q3,q4⟩⟩
      | _ => simp [kdOf] at hdk
     ·cases hv
    ·cases hv
   ·cases hv
  ·cases hv
 ·cases hv
def keepBox (N:Fr) (S:SS):Operand→Bool
 | .tmp s => (N.keep.any fun q => Nat.beq q s) && (match S.get s with
   | some (.val sh _) => sh.isSt && !sh.noOwn
   | _ => false)
 | _ => false
def boxK (N:Fr) (S:SS) (t:Nat) (X:Operand) (dst:Option Nat):Option SS :=
 match X,dst with
 | .tmp s,some d => match S.get s with
   | some (.val sh x) => if s≠d∧sh.isSt=true then match putS N (S.kill s) (some d) (.val (.pt true t sh) (some x)) with
     | some S' => some (S'.put s (.copy d [.der]))
     | none => none
     else none
   | _ => none
 | _,_ => none
theorem boxK_ok (h:RelX Z F w0 Wr Zi N S a w) {t:Nat} {X:Operand} (ho:o.op=.box t X) (hb:boxK N S t X o.dst=some S'):Runs P o a w (Rel w0 Wr Zi N S'):=by
 unfold boxK at hb
 split at hb
 ·rename_i s d hd
  split at hb
  ·rename_i sh x hg
   split at hb
   ·rename_i hcond
    obtain ⟨hne,hst⟩:=hcond
    split at hb
    ·rename_i S2 hp
     cases hb
     obtain ⟨d',hd',hlt,h1,h2,rfl⟩:=putS_some hp
     cases hd'
     obtain ⟨v,hv,⟨cs,hcr,hval⟩,hk,hh⟩:=h.take (SS.get_mem hg)
     have hva:v=.agg cs.toArray:=by cases sh <;> first | exact hval | simp [Sh.isSt] at hst
     have hc:v.cells=cs.toArray:=by rw [hva]; rfl
     have hrun:(execOp a.eval o).run P w=.ok (.value (.pointer (some ⟨w.heap.size,0,none⟩))) (w.alloc (.cells cs.toArray t)):=by
      simp [execOp,ho,eval_of hv,Instr.box,Go.newVar,Go.newRow,hc]
     have hput:=hk.putG (d:=d) (sv:=.val (.pt true t sh) (some x)) (v:=.pointer (some ⟨w.heap.size,0,none⟩)) (w':=w.alloc (.cells cs.toArray t)) (f:=fun i => i=w.heap.size∨F s i) (U:=fun _ => False)
      (by rw [h.tsize]; exact hlt.1) (fun hm => absurd hm hlt.2) (Grow.alloc w _) (fun i hi => hi.elim) (by
       rintro i (rfl | hi)
       ·exact ⟨by simp,.inl (Nat.le_refl _)⟩
       ·obtain ⟨q1,q2,q3,q4⟩:=hh i hi
        exact ⟨by simp; omega,.inr ⟨q2,fun s' _ => q3 s',q4⟩⟩) (by
       refine ⟨_,⟨_,cs,F s,rfl,CRep.same (fun _ => id) (fun i hi => alloc_old w _ i (h.zlt i hi)) (fun i hi => alloc_old w _ i (hh i hi).1) hcr,w.heap.size,rfl,alloc_new w _,fun _ => Iff.rfl,fun hx => ?_⟩,rfl⟩
       exact absurd (hh _ hx).1 (Nat.lt_irrefl _))
     have hvs:(a.put (some d) (.pointer (some ⟨w.heap.size,0,none⟩))).tmps[s]?=some v:=by rw [put_other a d s _ hne]; exact hv
     have hlts:s < (a.put (some d) (.pointer (some ⟨w.heap.size,0,none⟩))).tmps.size:=(Array.getElem?_eq_some_iff.1 hvs).1
     have hcopy:=hput.putR (d:=s) (sv:=.copy d [.der]) (v:=v) hlts (fun _ => hvs) (by
      refine ⟨fun _ => id,.pt true t sh,some x,.pointer (some ⟨w.heap.size,0,none⟩),⟨SS.mem_put.2 (.inl rfl),put_same a d _ (by rw [h.tsize]; exact hlt.1)⟩,.inr ⟨w.heap.size,0,sh,x,cs,trivial,by simp,by simp [okAt],by simp [getAt],by simp [rootLoc,loc],CRep.length hcr,fun j u hu => ?_,hval⟩⟩
      unfold World.cell?
      simp only [alloc_new]
      simpa using hu) (by simp only [SV.refs]; simpa using Ne.symm hne) rfl
     rw [put_idem hvs] at hcopy
     refine ⟨_,_,_,hrun,.inl rfl,?_⟩
     rw [hd]
     exact ⟨_,_,hcopy⟩
    ·cases hb
   ·cases hb
  ·cases hb
 ·cases hb
theorem upd_okAt:∀ (p:Path) (s:Sh) (x:s.den) (r:Path) (v rr:TV),okAt s x (p ++ r)→upd s x (p ++ r) v=some rr→okAt rr.sh rr.x p:=by
 intro p s
 induction s generalizing p with
 | int k | bool | str | unit | any | raw | gh _ | mp mo mk mv _ _ | fn ff fc _ =>
   intro x r v rr hok hu
   cases p with
   | nil => simp [okAt]
   | cons c p => cases c <;> simp [okAt] at hok
 | st f ih =>
   intro x r v rr hok hu
   cases p with
   | nil => simp [okAt]
   | cons c p =>
     have hok':okAt f x (c :: p ++ r):=by cases c <;> simpa [okAt] using hok
     have hu':∃ r',upd f x (c :: p ++ r) v=some r'∧rr=⟨.st r'.sh,r'.x⟩:=by
      cases hq:upd f x (c :: p ++ r) v with
      | none => cases c <;> simp [upd] at hu hq <;> simp [hq] at hu
      | some r' => refine ⟨r',rfl,?_⟩; cases c <;> (simp only [List.cons_append] at hq hu; simp only [upd,hq,Option.some.injEq] at hu; exact hu.symm)
     obtain ⟨r',hr',rfl⟩:=hu'
     have:=ih (c :: p) x r v r' hok' hr'
     cases c <;> simpa [okAt] using this
 | pair a b iha ihb =>
   intro x r v rr hok hu
   cases p with
   | nil => simp [okAt]
   | cons c p =>
     cases c with
     | fst =>
       simp only [List.cons_append,okAt] at hok
       simp only [List.cons_append,upd] at hu
       split at hu
       ·rename_i r' hq
        cases hu
        simpa [okAt] using iha p x.1 r v r' hok hq
       ·cases hu
     | snd =>
       simp only [List.cons_append,okAt] at hok
       simp only [List.cons_append,upd] at hu
       split at hu
       ·rename_i r' hq
        cases hu
        simpa [okAt] using ihb p x.2 r v r' hok hq
       ·cases hu
     | idx i => simp [okAt] at hok
     | der => simp [okAt] at hok
 | sl o t e ih =>
   intro x r v rr hok hu
   cases p with
   | nil => simp [okAt]
   | cons c p =>
     cases c with
     | idx i =>
       cases o with
       | false => simp [okAt] at hok
       | true =>
         simp only [List.cons_append,okAt] at hok
         simp only [List.cons_append,upd] at hu
         split at hu
         ·rename_i r' hq
          split at hu
          ·rename_i hs
           cases hu
           have h1:=ih p (List.getD x i e.dflt) r v r' hok.2 hq
           obtain ⟨rsh,rx⟩:=r'
           subst hs
           refine ⟨by simpa using hok.1,?_⟩
           have:List.getD (List.set x i rx) i (Sh.dflt rsh)=rx:=by
            simp [List.getD_eq_getElem?_getD,hok.1]
           simp only at h1 ⊢
           rw [this]; exact h1
          ·cases hu
         ·cases hu
     | fst => simp [okAt] at hok
     | snd => simp [okAt] at hok
     | der => simp [okAt] at hok
 | pt o t e ih =>
   intro x r v rr hok hu
   cases p with
   | nil => simp [okAt]
   | cons c p =>
     cases c with
     | der =>
       cases o with
       | false => simp [okAt] at hok
       | true =>
         simp only [List.cons_append,okAt] at hok
         simp only [List.cons_append,upd] at hu
         split at hu
         ·rename_i r' hq
          cases hu
          exact ⟨rfl,ih p (Option.getD x e.dflt) r v r' hok.2 hq⟩
         ·cases hu
     | fst => simp [okAt] at hok
     | snd => simp [okAt] at hok
     | idx i => simp [okAt] at hok
def prefB:Path→Path→Bool
 | [],_ :: _ => true
 | .fst :: p,.fst :: q => prefB p q
 | .snd :: p,.snd :: q => prefB p q
 | .der :: p,.der :: q => prefB p q
 | _,_ => false
theorem prefB_ok:∀ {p q:Path},prefB p q=true→∃ r,q=p ++ r∧r≠[]
 | [],_ :: _,_ => ⟨_,rfl,by simp⟩
 | .fst :: p,.fst :: q,h => by
   obtain ⟨r,rfl,hr⟩:=prefB_ok (p:=p) (q:=q) (by simpa [prefB] using h)
   exact ⟨r,rfl,hr⟩
 | .snd :: p,.snd :: q,h => by
   obtain ⟨r,rfl,hr⟩:=prefB_ok (p:=p) (q:=q) (by simpa [prefB] using h)
   exact ⟨r,rfl,hr⟩
 | .der :: p,.der :: q,h => by
   obtain ⟨r,rfl,hr⟩:=prefB_ok (p:=p) (q:=q) (by simpa [prefB] using h)
   exact ⟨r,rfl,hr⟩
theorem mem_getU:∀ {S:SS} {k:Nat} {v:SV},(∀ k v1 v2,(k,v1) ∈ S → (k,v2) ∈ S→v1=v2) → (k,v) ∈ S→S.get k=some v
 | [],k,v,_,hm => absurd hm List.not_mem_nil
 | (q,u) :: r,k,v,h,hm => by
   simp only [SS.get]
   split
   ·rename_i hq
    subst hq
    rw [h q v u hm List.mem_cons_self]
   ·rename_i hq
    rcases List.mem_cons.1 hm with e | hm
    ·simp only [Prod.mk.injEq] at e; exact absurd e.1.symm hq
    ·exact mem_getU (fun k v1 v2 h1 h2 => h k v1 v2 (List.mem_cons_of_mem _ h1) (List.mem_cons_of_mem _ h2)) hm
def rootAt (S:SS) (k:Nat) (p:Path):Bool:=match placeOf S k p with
 | some tv => tv.sh.isRoot
 | none => false
theorem rootAt_some {k:Nat} {p:Path} (h:rootAt S k p=true):∃ tv,placeOf S k p=some tv∧IsRoot tv.sh:=by
 unfold rootAt at h
 split at h
 ·exact ⟨_,‹_›,Sh.isRoot_iff h⟩
 ·cases h
def keptE (S1 S0:SS) (k:Nat) (p:Path) (e:Nat × SV):Bool:=match e.2 with
 | .copy k' p0 => Nat.beq k' k && !(Nat.beq e.1 k) && prefB p0 p && rootAt S1 k p0 && rootAt S0 k p0
 | _ => false
def keepL (S1 S0:SS) (k:Nat) (p:Path):List (Nat × SV)→SS→SS
 | [],acc => acc
 | e :: r,acc => keepL S1 S0 k p r (if keptE S1 S0 k p e then acc.put e.1 e.2 else acc)
theorem keptE_copy {S1 S0:SS} {k:Nat} {p:Path} {e:Nat × SV} (h:keptE S1 S0 k p e=true):∃ p0,e.2=.copy k p0∧e.1≠k∧prefB p0 p=true∧rootAt S1 k p0=true∧rootAt S0 k p0=true:=by
 unfold keptE at h
 split at h
 ·rename_i k' p0 he
  simp only [Bool.and_eq_true,Bool.not_eq_true'] at h
  obtain ⟨⟨⟨⟨c1,c2⟩,c3⟩,c4⟩,c5⟩:=h
  have e1:k'=k:=Nat.eq_of_beq_eq_true c1
  subst e1
  exact ⟨p0,he,fun e => by rw [e] at c2; simp at c2,c3,c4,c5⟩
 ·cases h
def keepC (S1 S0:SS) (k:Nat) (p:Path):SS:=match S1.get k,S0.get k with
 | some (.val s _),some (.val s' _) => if s'=s then keepL S1 S0 k p S1 S0 else S0
 | _,_ => S0
theorem keep_one {w':World} {F1 F':Nat→Fp} {k:Nat} {p:Path} {s:Sh} {x x':s.den} {tv:TV} {vh:Value} {g oo:Nat} (hroot:IsRoot s) (hok:okAt s x p) (hu:upd s x p tv=some ⟨s,x'⟩) (hg:S1.get k=some (.val s x)) (h1:RelX Z F1 w0 Wr Zi N S1 a w)
 (hvh:a.tmps[k]?=some vh) (hl:rootLoc w s vh p=some (g,oo)) (hw:∀ i,i≠g→w'.heap[i]?=w.heap[i]?) {S0 acc:SS} (h0:S0.get k=some (.val s x')) (hk:(k,SV.val s x') ∈ acc) (h:RelX Z F' w0 Wr Zi N acc a w') {q:Nat} {p0:Path} (hm:(q,SV.copy k p0) ∈ S1) (hqk:q≠k) (hpre:prefB p0 p=true) (hr1:rootAt S1 k p0=true) (hr0:rootAt S0 k p0=true) :
 (∃ F2,RelX Z F2 w0 Wr Zi N (acc.put q (.copy k p0)) a w') ∧ (k,SV.val s x') ∈ acc.put q (.copy k p0):=by
 refine ⟨?_,SS.mem_put.2 (.inr ⟨hk,fun e => hqk e.symm,rfl,rfl⟩)⟩
 obtain ⟨r,rfl,hrn⟩:=prefB_ok hpre
 obtain ⟨v0,hv0,_,s2,x2,vh2,hh,hor⟩:=h1.rep q _ hm
 have heq:=home_is h1 hh hg
 simp only [TV.mk.injEq] at heq
 obtain ⟨rfl,heq⟩:=heq
 obtain rfl:=eq_of_heq heq
 have hvv:vh2=vh:=by have:=hh.tmp; rw [hvh] at this; simpa using this.symm
 subst hvv
 have hlt:q < a.tmps.size:=(Array.getElem?_eq_some_iff.1 hv0).1
 have fin:(SV.copy k p0).rep Z acc w' a.tmps v0 (fun _ => False)→∃ F2,RelX Z F2 w0 Wr Zi N (acc.put q (.copy k p0)) a w':=fun hrep => by
  have:=h.putR (d:=q) (sv:=.copy k p0) (v:=v0) hlt (fun _ => hv0) hrep (by simp only [SV.refs]; simpa using Ne.symm hqk) rfl
  rw [put_idem hv0] at this
  exact ⟨_,this⟩
 rcases hor with ⟨rfl,rfl⟩ | ⟨g0,o0,s3,x3,cs,_,hp0,hok0,hat0,hl0,hlen,hcells,hvo⟩
 ·exact fin ⟨fun _ => id,s2,x',v0,⟨hk,hvh⟩,.inl ⟨rfl,rfl⟩⟩
 ·obtain ⟨tv1,e1,hrt1⟩:=rootAt_some hr1
  obtain ⟨s9,x9,hg9,_,hat9⟩:=placeOf_some e1
  rw [hg] at hg9
  simp only [Option.some.injEq,SV.val.injEq] at hg9
  obtain ⟨rfl,hx9⟩:=hg9
  obtain rfl:=eq_of_heq hx9
  rw [hat0] at hat9
  simp only [Option.some.injEq] at hat9
  subst hat9
  obtain ⟨tv2,e2,hrt2⟩:=rootAt_some hr0
  obtain ⟨s8,x8,hg8,_,hat8⟩:=placeOf_some e2
  rw [h0] at hg8
  simp only [Option.some.injEq,SV.val.injEq] at hg8
  obtain ⟨rfl,hx8⟩:=hg8
  obtain rfl:=eq_of_heq hx8
  have hhome:=root_cells hroot (home_rep h1 hh)
  obtain ⟨g',t',pre',cs',post',f',R⟩:=rfocus p0 s2 x2 vh2 (F1 k) ⟨s3,x3⟩ hhome hp0 (by cases s2 <;> first | exact hroot.elim | trivial | exact absurd (mp_path hok0) (by assumption)) hok0 hat0
  have hgo:=R.at_
  rw [hl0] at hgo
  simp only [Option.some.injEq,Prod.mk.injEq] at hgo
  obtain ⟨rfl,rfl⟩:=hgo
  have hcs:cs=[v0]:=by cases s3 <;> first | exact hrt1.elim | exact hvo
  subst hcs
  have hl1:cs'.length=1:=by rw [CRep.length R.rep]; cases s3 <;> first | exact hrt1.elim | rfl
  have hcell:w.cell? ⟨g0,pre'.length,none⟩=some v0:=by simpa using hcells 0 v0 rfl
  have hcs':cs'=[v0]:=by
   have hx:=cells_mid R.heap 0 (by omega)
   rw [Nat.add_zero,hcell] at hx
   match cs',hl1,hx with
   | [u],_,hx => simp at hx; rw [hx]
  have hrep:=R.rep
  rw [hcs'] at hrep
  have hokr:=okAt_suffix p0 s2 x2 s3 x3 r hat0 hok
  obtain ⟨tvr,hatr⟩:=okAt_get r s3 x3 hokr
  have hlr:rootLoc w s3 v0 r=some (g,oo):=by
   rw [← loc_header hrt1 hrn hcell,← rootLoc_append hp0 hat0 hl0]; exact hl
  have hgf:f' g:=place_in hrt1 hrep hokr hrn hatr hlr
  have hne:g0≠g:=fun e => R.out (e ▸ hgf)
  have hblk:=hw g0 hne
  have hcs2:ValOf tv2.sh v0 [v0]:=root_val hrt2 v0
  have hsz:([v0]:List Value).length=tv2.sh.size:=by cases ht:tv2.sh <;> rw [ht] at hrt2 <;> first | exact hrt2.elim | rfl
  refine fin ⟨fun _ => id,s2,x',vh2,⟨hk,hvh⟩,.inr ⟨g0,pre'.length,tv2.sh,tv2.x,[v0],hroot,hp0,upd_okAt p0 s2 x2 r tv ⟨s2,x'⟩ hok hu,hat8,?_,hsz,?_,hcs2⟩⟩
  ·exact R.again w' (fun i hi hn => hw i (fun e => hn (e ▸ hgf)))
  ·intro j u hj
   rw [cell_same (w:=w) (a:=⟨g0,pre'.length+j,none⟩) hblk]
   exact hcells j u hj
theorem keepL_ok {w':World} {F1:Nat→Fp} {k:Nat} {p:Path} {s:Sh} {x x':s.den} {tv:TV} {vh:Value} {g oo:Nat} (hroot:IsRoot s) (hok:okAt s x p) (hu:upd s x p tv=some ⟨s,x'⟩) (hg:S1.get k=some (.val s x)) (h1:RelX Z F1 w0 Wr Zi N S1 a w)
 (hvh:a.tmps[k]?=some vh) (hl:rootLoc w s vh p=some (g,oo)) (hw:∀ i,i≠g→w'.heap[i]?=w.heap[i]?) {S0:SS} (h0:S0.get k=some (.val s x')) :
 ∀ (l:List (Nat × SV)) (acc:SS) (F':Nat→Fp),(∀ e ∈ l,e ∈ S1) → (k,SV.val s x') ∈ acc→RelX Z F' w0 Wr Zi N acc a w'→∃ F2,RelX Z F2 w0 Wr Zi N (keepL S1 S0 k p l acc) a w'
 | [],acc,F',_,_,h => ⟨F',h⟩
 | (q,sv) :: r,acc,F',hm,hk,h => by
   simp only [keepL]
   have hr:∀ e ∈ r,e ∈ S1:=fun e he => hm e (List.mem_cons_of_mem _ he)
   split
   ·rename_i hc
    obtain ⟨p0,rfl,e2,c3,c4,c5⟩:=keptE_copy hc
    obtain ⟨⟨F2,h2⟩,hk2⟩:=keep_one hroot hok hu hg h1 hvh hl hw h0 hk h (hm _ List.mem_cons_self) e2 c3 c4 c5
    exact keepL_ok hroot hok hu hg h1 hvh hl hw h0 r _ F2 hr hk2 h2
   ·exact keepL_ok hroot hok hu hg h1 hvh hl hw h0 r _ F' hr hk h
theorem storeK_ok (hT:TOk P T) (h:RelX Z F w0 Wr Zi N S a w) {t:Nat} {X Y:Operand} {k:Nat} {p:Path} {tv:TV} (ho:o.op=.store t X Y) (hd:o.dst=none) (hy:takeO T S t Y=some (tv,S1)) (hx:(opd T S1 t X).map (derefV S1)=some (.addr k p))
 {S0:SS} (hr:storeV T S1 t tv (.addr k p)=some S0):Runs P o a w (Rel w0 Wr Zi N (keepC S1 S0 k p)):=by
 obtain ⟨w',F1,F',k',p',s,x,r,vh,g,oo,hrun,e1,hg,hroot,hok,hpn,hu,rfl,h1,h2,hvh,hc,hl,hw⟩:=store_main hT h ho hd hy hx hr
 cases e1
 refine ⟨_,undef,_,hrun,.inr ⟨rfl,rfl⟩,?_⟩
 rw [hd]
 have hget:(S1.put k (.val r.sh r.x)).get k=some (.val r.sh r.x):=mem_getU h2.uniq (SS.mem_put.2 (.inl rfl))
 unfold keepC
 rw [hg,hget]
 simp only
 split
 ·rename_i hs
  obtain ⟨rsh,rx⟩:=r
  simp only at hs
  subst hs
  obtain ⟨F2,h3⟩:=keepL_ok hroot hok hu hg h1 hvh hl hw hget S1 _ F' (fun _ => id) (SS.mem_put.2 (.inl rfl)) h2
  exact ⟨Z,F2,h3⟩
 ·exact ⟨Z,F',h2⟩
def cutG (T:Tbl) (S:SS) (t:Nat) (X H:Operand):Option (Nat × Path × TV × Prop) :=
 match opd T S t X,opv T S t H with
 | some (.copy k (q :: p)),some ⟨.int _,hi⟩ => match placeOf S k (q :: p) with
   | some ⟨.sl true te e,xs⟩ => if e.noOwn && sliceT T t then some (k,q :: p,⟨.sl true te e,List.take (Int.toNat hi) xs⟩,(0:Int)≤hi ∧ (hi:Int) ≤ (List.length xs:Int)) else none
   | _ => none
 | _,_ => none
theorem cutG_ok (hT:TOk P T) (h:RelX Z F w0 Wr Zi N S a w) {t k:Nat} {X H:Operand} {p:Path} {tv:TV} {c:Prop} (ho:o.op=.slice t X none (some H) none) (hr:cutG T S t X H=some (k,p,tv,c)) (hc:c) (hp:putS N S o.dst (.grown k p tv)=some S'):Runs P o a w (Rel w0 Wr Zi N S'):=by
 unfold cutG at hr
 split at hr
 ·rename_i k' q p' ki hi hx hH
  split at hr
  ·rename_i te e xs hpl
   split at hr
   ·rename_i hcond
    cases hr
    simp only [Bool.and_eq_true] at hcond
    obtain ⟨hn,ht⟩:=hcond
    obtain ⟨h0,h1⟩:=hc
    have eH:a.eval H=.int ki hi:=scal_eval (Z:=Z) (w:=w) (tv:=⟨.int ki,hi⟩) rfl (opv_rep h hH)
    obtain ⟨s,x,hg,hroot,hat⟩:=placeOf_some hpl
    obtain ⟨_,s',x',vh,hh,hor⟩:=opd_rep h hx
    have he:=home_is h hh hg
    simp only [TV.mk.injEq] at he
    obtain ⟨rfl,he⟩:=he
    obtain rfl:=eq_of_heq he
    rcases hor with ⟨hp0,_⟩ | ⟨g,oo,s1,x1,cs,_,hpn,hok,hat2,hl,hlen,hcells,hvo⟩
    ·cases hp0
    ·rw [hat] at hat2
     simp only [Option.some.injEq,TV.mk.injEq] at hat2
     obtain ⟨rfl,hx1⟩:=hat2
     obtain rfl:=eq_of_heq hx1
     have hcs:cs=[a.eval X]:=hvo
     subst hcs
     have hcell:w.cell? ⟨g,oo,none⟩=some (a.eval X):=by simpa using hcells 0 _ rfl
     obtain ⟨t',pre',post',f',R,_⟩:=place_row hroot (root_cells hroot (home_rep h hh)) hok hpn hat hl hcell
     obtain ⟨n,rfl⟩:=Int.eq_ofNat_of_zero_le h0
     have h1':(n:Int) ≤ (List.length xs:Int):=h1
     have hnl:n≤List.length xs:=by omega
     obtain ⟨A,c,f'',hv,hc,hcr,hf''⟩:=own_take R.rep n hnl
     obtain ⟨te',info,hd,hinfo⟩:=sliceT_run hT ht
     refine Runs.read h hp (v:=.slice A n c) ?_ ⟨s',x',vh,g,oo,a.eval X,te,e,xs,f'',hh,hroot,hpn,hok,hat,hn,hl,hcell,rfl,by simpa using hcr,fun i hi => .inr ((own_iff hn R.rep i).1 (hf'' i hi))⟩
     have hc':List.length xs≤c:=hc
     have hnc:n≤c:=by omega
     have e1:(if c=0 then A else Option.map (fun x => x) A)=A:=by split <;> simp
     simp [execOp,ho,hv,eH,Instr.sliceAt,Instr.slice,run_underlying hd,Instr.sliceBounds,Instr.sliceBound,asIntOf,hnc,Go.sizeOf,typeInfo,hinfo,Addr.add]
   ·cases hr
  ·cases hr
 ·cases hr
def moveT (N:Fr) (S:SS) (X:Operand) (dst:Option Nat):Option SS :=
 match X with
 | .tmp s => match S.get s with
   | some (.tup ts) => putS N (S.kill s) dst (.tup ts)
   | _ => none
 | _ => none
theorem moveT_ok (h:RelX Z F w0 Wr Zi N S a w) {X:Operand} (ho:o.op=.move X) (hb:moveT N S X o.dst=some S'):Runs P o a w (Rel w0 Wr Zi N S'):=by
 unfold moveT at hb
 split at hb
 ·rename_i s
  split at hb
  ·rename_i ts hg
   obtain ⟨d,hd,hlt,h1,h2,rfl⟩:=putS_some hb
   obtain ⟨v,hv,vs,rfl,hvs⟩:=h.rep s _ (SS.get_mem hg)
   obtain ⟨hk,hh⟩:=h.drop s
   refine ⟨_,.tuple vs.toArray,w,by simp [execOp,ho,eval_of hv],.inl rfl,?_⟩
   rw [hd]
   refine ⟨_,_,hk.putG (d:=d) (sv:=.tup ts) (v:=.tuple vs.toArray) (f:=F s) (U:=fun _ => False) (by rw [h.tsize]; exact hlt.1) (fun hm => absurd hm hlt.2) (Grow.refl _ _) (fun i hi => hi.elim) (fun i hi => ?_) ⟨vs,rfl,hvs⟩⟩
   obtain ⟨q1,q2,q3,q4⟩:=hh i hi
   exact ⟨q1,.inr ⟨q2,fun s' _ => q3 s',q4⟩⟩
  ·cases hb
 ·cases hb
end
end Go.Vm
