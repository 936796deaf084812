/- Appending, cutting, literals, freezing, picking. -/
import Derived.Test.YtgonbndbnmimhaaDoorVmK
set_option linter.unusedVariables false
set_option linter.unusedSimpArgs false
namespace Go.Vm
open Go
section
variable {P:Program} {T:Tbl} {Z:Fp} {F:Nat→Fp} {w0:World} {Wr Zi:Fp} {N:Fr} {S S' S1:SS} {a:Act} {w:World} {o:Oper}
def castL {e e':Sh} (h:e'=e) (ys:List e'.den):List e.den:=h ▸ ys
def srcO (S:SS) (e:Sh):Operand→Option (List e.den × SS)
 | .tmp s => match S.get s with
   | some (.val (.sl false _ e') ys) => if h:e'=e then some (castL h ys,S) else none
   | some (.val (.sl true t e') ys) => if h:e'=e then some (castL h ys,if e.noOwn then S else S.kill s) else none
   | some (.copy k p) => match placeOf S k p with
     | some ⟨.sl true _ e',ys⟩ => if h:e'=e then (if e.noOwn then some (castL h ys,S) else none) else none
     | _ => none
   | _ => none
 | _ => none
theorem srcO_rep (h:RelX Z F w0 Wr Zi N S a w) {e:Sh} {X:Operand} {ys:List e.den} (hs:srcO S e X=some (ys,S1)) :
 ∃ F1 fr,SrcRep Z w e ys (a.eval X) fr∧RelX Z F1 w0 Wr Zi N S1 a w∧Held Z F1 w0 Wr w fr ∧ (∀ s i,F1 s i→F s i) ∧ (∀ i,fr i→∃ s,F s i):=by
 unfold srcO at hs
 split at hs
 ·rename_i s
  split at hs
  ·rename_i t e' ys' hg
   split at hs
   ·rename_i he
    subst he
    cases hs
    obtain ⟨v,hv,cs,hcr,hval⟩:=h.rep s _ (SS.get_mem hg)
    rw [eval_of hv]
    have:cs=[v]:=by simpa [ValOf] using hval
    subst this
    obtain ⟨fr,hsrc,hfr⟩:=ro_src hcr
    exact ⟨F,fr,hsrc,h,fun i hi => absurd hi (hfr i),fun _ _ => id,fun i hi => absurd hi (hfr i)⟩
   ·cases hs
  ·rename_i t e' ys' hg
   split at hs
   ·rename_i he
    subst he
    by_cases hn:e'.noOwn=true
    ·simp only [hn,if_true,Option.some.injEq,Prod.mk.injEq] at hs
     obtain ⟨rfl,rfl⟩:=hs
     obtain ⟨v,hv,hr⟩:=h.rep s _ (SS.get_mem hg)
     rw [eval_of hv]
     obtain ⟨fr,⟨A,c,inner,q1,q2,q3⟩,hfr,_⟩:=own_src (root_cells trivial hr)
     have hnone:=RRep.none_ (fun x cs f hx => CRep.noOwn hn hx) q2
     exact ⟨F,fr,⟨A,c,inner,q1,q2,q3⟩,h,fun i hi => absurd hi (hnone i),fun _ _ => id,fun i hi => absurd hi (hnone i)⟩
    ·simp only [hn,if_false,Option.some.injEq,Prod.mk.injEq] at hs
     obtain ⟨rfl,rfl⟩:=hs
     obtain ⟨v,hv,hr,h',hh⟩:=h.take (SS.get_mem hg)
     rw [eval_of hv]
     obtain ⟨fr,hsrc,hfr,_⟩:=own_src (root_cells trivial hr)
     refine ⟨_,fr,hsrc,by simpa using h',fun i hi => hh i (hfr i hi),fun t i hi => ?_,fun i hi => ⟨s,hfr i hi⟩⟩
     by_cases e:t=s
     ·simp [e] at hi
     ·simp only [e,if_false] at hi; exact hi
   ·cases hs
  ·rename_i k p hg
   split at hs
   ·rename_i t e' ys' hpl
    split at hs
    ·rename_i he
     subst he
     split at hs
     ·rename_i hn
      cases hs
      obtain ⟨s0,x,hg',hroot,hat⟩:=placeOf_some hpl
      obtain ⟨v,hv,hr⟩:=h.rep s _ (SS.get_mem hg)
      rw [eval_of hv]
      obtain ⟨vh,f',hh,hok,hsub,hin,hloc⟩:=copy_sub h hr.2 hg' hroot hat trivial
      obtain ⟨fr,⟨A,c,inner,q1,q2,q3⟩,hfr,_⟩:=own_src hsub
      have hnone:=RRep.none_ (fun x cs f hx => CRep.noOwn hn hx) q2
      exact ⟨F,fr,⟨A,c,inner,q1,q2,q3⟩,h,fun i hi => absurd hi (hnone i),fun _ _ => id,fun i hi => absurd hi (hnone i)⟩
     ·cases hs
    ·cases hs
   ·cases hs
  ·cases hs
 ·cases hs
def appT (T:Tbl) (t te:Nat) (e:Sh):Option Nat :=
 match T.find t with
 | some i => match i.kd with
   | .slice te' => if te'=te then match T.find te with
     | some ie => if fits ie ie.zero && ie.size == e.size && decide (0 < e.size) && decide (0 < ie.bytes) then some ie.bytes else none
     | none => none
     else none
   | _ => none
 | none => none
def appendV (T:Tbl) (S:SS) (t:Nat) (X Y:Operand):Option (TV × SS × List Prop) :=
 match takeO T S t X with
 | some (⟨.sl true te e,xs⟩,S1) => match appT T t te e with
   | some b => match srcO S1 e Y with
     | some (ys,S2) => some (⟨.sl true te e,List.append xs ys⟩,S2,[(List.length xs+List.length ys)*b≤140737488355328])
     | none => none
   | none => none
 | _ => none
theorem append_ok (hT:TOk P T) (h:RelX Z F w0 Wr Zi N S a w) {t:Nat} {X Y:Operand} {r:TV} {c:List Prop} (ho:o.op=.call { callee:=.builtin .append,args:=#[X,Y],argTypes:=#[t,t] })
 (hr:appendV T S t X Y=some (r,S1,c)) (hc:AllP c) (hp:putS N S1 o.dst (.val r.sh r.x)=some S'):Runs P o a w (Rel w0 Wr Zi N S'):=by
 unfold appendV at hr
 split at hr
 ·rename_i te e xs S2 htk
  split at hr
  ·rename_i b hb
   split at hr
   ·rename_i ys S3 hsrc
    cases hr
    obtain ⟨F1,f,hrep,h1,hh,_⟩:=takeO_rep h htk
    obtain ⟨F2,fr,hs,h2,hh2,hsub,hin⟩:=srcO_rep h1 hsrc
    have hx:=root_cells (s:=.sl true te e) trivial hrep
    unfold appT at hb
    split at hb
    ·rename_i i hi
     split at hb
     ·rename_i te' hk
      split at hb
      ·rename_i hte
       subst hte
       split at hb
       ·rename_i ie hie
        split at hb
        ·rename_i hf
         cases hb
         simp only [Bool.and_eq_true,decide_eq_true_eq,beq_iff_eq] at hf
         obtain ⟨⟨⟨hf1,hf2⟩,hf3⟩,hf4⟩:=hf
         obtain ⟨ht,hty⟩:=hT.find hi
         obtain ⟨d,hd,hdk⟩:=hty.desc
         rw [ht] at hd
         rw [hk] at hdk
         have:d=.slice te':=by cases d <;> simp_all [kdOf]
         subst this
         obtain ⟨hte,htye⟩:=hT.find hie
         obtain ⟨info,hinfo,hsz,hby,hz⟩:=htye.info
         rw [hte] at hinfo
         have hzs:ie.zero.zeroV.cells.size=e.size:=by
          rw [← Array.length_toList,zero_cells ie hf1,CRep.length (Sh.zeros_rep Z w ie.zero)]
          simp only [fits,Bool.and_eq_true,beq_iff_eq] at hf1
          omega
         have hdis:∀ i,fr i→¬ f i:=fun i hi hfi => by
          obtain ⟨s,hs⟩:=hin i hi
          exact (hh i hfi).2.2.1 s hs
         obtain ⟨v',w',f',hrun,hcr,hg,hf'⟩:=append_run (Z:=Z) hd hinfo hz (by rw [hsz,hf2]) hzs hf3 (by rw [hby]; exact hf4) hx hs hdis (fun i hi => (hh2 i hi).1) (fun i hi hfi => (hh i hfi).2.1 hi) h2.zlt (by rw [hby]; exact hc.1) o.type
         have hheld:∀ i,f i→¬ Z i ∧ (∀ s,¬ F2 s i) ∧ (Wr i∨w0.heap.size≤i):=fun i hi => ⟨(hh i hi).2.1,fun s hs => (hh i hi).2.2.1 s (hsub s i hs),(hh i hi).2.2.2⟩
         refine Runs.make (U:=fun i => (a.eval X).ownBlock=some i) (f:=f') h2 hp (v:=v') (w':=w') ?_ hg ?_ ?_ ⟨[v'],hcr,rfl⟩
         ·simp [execOp,ho,resolve,invoke,builtin,hrun]
         ·intro i hi _
          obtain ⟨_,_,_,hob⟩:=own_src hx
          exact hheld i (hob i hi).1
         ·intro i hi
          obtain ⟨q1,q2⟩:=hf' i hi
          refine ⟨q1,?_⟩
          rcases q2 with q2 | q2 | q2
          ·exact .inl q2
          ·exact .inr (hheld i q2)
          ·obtain ⟨p1,p2,p3,p4⟩:=hh2 i q2
           exact .inr ⟨p2,p3,p4⟩
        ·cases hb
       ·cases hb
      ·cases hb
     ·cases hb
    ·cases hb
   ·cases hr
  ·cases hr
 ·cases hr
theorem RRep.take {α:Type} {R:α→List Value→Fp→Prop} {size:Nat} (hR:∀ x cs f,R x cs f→cs.length=size):∀ {xs:List α} {cs:List Value} {f:Fp} (n:Nat),RRep R xs cs f→∃ f',RRep R (xs.take n) (cs.take (n*size)) f'∧∀ i,f' i→f i
 | [],cs,f,n,h => by obtain ⟨rfl,h0⟩:=h; exact ⟨f,by simpa using ⟨rfl,h0⟩,fun _ => id⟩
 | x :: xs,cs,f,0,h => ⟨fun _ => False,by simp only [List.take_zero,Nat.zero_mul]; exact ⟨rfl,fun _ => id⟩,fun i h => h.elim⟩
 | x :: xs,cs,f,n+1,h => by
   obtain ⟨c1,c2,f1,f2,rfl,hf,hd,h1,h2⟩:=h
   obtain ⟨f',h3,h4⟩:=RRep.take hR n h2
   refine ⟨fun i => f1 i∨f' i,?_,fun i hi => (hf i).2 (hi.imp id (h4 i))⟩
   rw [List.take_succ_cons]
   have e:(c1 ++ c2).take ((n+1)*size)=c1 ++ c2.take (n*size):=by
    rw [List.take_append,Nat.succ_mul,hR _ _ _ h1,List.take_of_length_le (by rw [hR _ _ _ h1]; omega)]
    congr 2; omega
   rw [e]
   exact ⟨c1,_,f1,f',rfl,fun i => Iff.rfl,fun i hi hi2 => hd i hi (h4 i hi2),h1,h3⟩
theorem own_take {t:Nat} {e:Sh} {xs:List e.den} {v:Value} {f:Fp} (h:CRep Z w (.sl true t e) xs [v] f) (n:Nat) (hn:n≤xs.length) :
 ∃ A c f',v=.slice A xs.length c∧xs.length≤c∧CRep Z w (.sl true t e) (xs.take n) [.slice A n c] f'∧∀ i,f' i→f i:=by
 obtain ⟨v',inner,fr,hvv,hrr,ho,hfe,hfd⟩:=h
 obtain rfl:v=v':=by simpa using hvv
 have hin:=RRep.length (size:=e.size) (fun x cs f h => CRep.length h) hrr
 obtain ⟨fr',h1,h2⟩:=RRep.take (size:=e.size) (fun x cs f h => CRep.length h) n hrr
 rcases ho.2 with ⟨rfl,h0⟩ | ⟨g,cap,cur,rfl,hb,hg,hnc,hcm,hcs,htake⟩
 ·obtain rfl:n=0:=by omega
  have:xs=[]:=List.eq_nil_of_length_eq_zero h0
  subst this
  exact ⟨none,0,f,rfl,Nat.le_refl _,⟨_,inner,fr,rfl,by simpa using hrr,by simpa using ho,hfe,hfd⟩,fun _ => id⟩
 ·refine ⟨some ⟨g,0,none⟩,cap,fun i => i=g∨fr' i,rfl,hnc,⟨_,inner.take (n*e.size),fr',rfl,h1,⟨?_,.inr ⟨g,cap,cur,?_,hb,hg,?_,hcm,hcs,?_⟩⟩,?_,?_⟩,?_⟩
  ·rw [List.length_take,List.length_take,hin,Nat.min_eq_left hn,Nat.min_eq_left (Nat.mul_le_mul_right _ hn)]
  ·rw [List.length_take,Nat.min_eq_left hn]
  ·rw [List.length_take,Nat.min_eq_left hn]; omega
  ·rw [List.length_take,Nat.min_eq_left hn,← htake,List.take_take,Nat.min_eq_left (Nat.mul_le_mul_right _ hn)]
  ·intro i
   simp only [Value.ownBlock,Option.some.injEq]
   exact ⟨fun h => h.imp Eq.symm id,fun h => h.imp Eq.symm id⟩
  ·intro i hi hi2
   exact hfd i hi (h2 i hi2)
  ·rintro i (rfl | hi)
   ·exact (hfe i).2 (.inl rfl)
   ·exact (hfe i).2 (.inr (h2 i hi))
def sliceT (T:Tbl) (t:Nat):Bool :=
 match T.find t with
 | some i => match i.kd with
   | .slice te => (T.find te).isSome
   | _ => false
 | none => false
theorem sliceT_run (hT:TOk P T) {t:Nat} (h:sliceT T t=true):∃ te info,P.underlying t=some (.slice te)∧P.info? te=some info:=by
 unfold sliceT at h
 split at h
 ·rename_i i hi
  split at h
  ·rename_i te hk
   obtain ⟨ie,hie⟩:=Option.isSome_iff_exists.1 h
   obtain ⟨ht,hty⟩:=hT.find hi
   obtain ⟨d,hd,hdk⟩:=hty.desc
   rw [ht] at hd
   rw [hk] at hdk
   have:d=.slice te:=by cases d <;> simp_all [kdOf]
   subst this
   obtain ⟨hte,htye⟩:=hT.find hie
   obtain ⟨info,hinfo,_⟩:=htye.info
   rw [hte] at hinfo
   exact ⟨te,info,hd,hinfo⟩
  ·cases h
 ·cases h
theorem cut_ok (hT:TOk P T) (h:RelX Z F w0 Wr Zi N S a w) {t te:Nat} {e:Sh} {X H:Operand} {xs:List e.den} {k:IntKind} {hi:Int} (ho:o.op=.slice t X none (some H) none) (ht:sliceT T t=true) (hH:opv T S t H=some ⟨.int k,hi⟩)
 (htk:takeO T S t X=some (⟨.sl true te e,xs⟩,S1)) (h0:0≤hi) (h1:hi ≤ (List.length xs:Int)) (hp:putS N S1 o.dst (.val (.sl true te e) (List.take (Int.toNat hi) xs))=some S'):Runs P o a w (Rel w0 Wr Zi N S'):=by
 have eH:a.eval H=.int k hi:=scal_eval (Z:=Z) (w:=w) (tv:=⟨.int k,hi⟩) rfl (opv_rep h hH)
 obtain ⟨F1,f,hrep,h2,hh,_⟩:=takeO_rep h htk
 have hx:=root_cells (s:=.sl true te e) trivial hrep
 obtain ⟨n,rfl⟩:=Int.eq_ofNat_of_zero_le h0
 have hn:n≤List.length xs:=by omega
 obtain ⟨A,c,f',hv,hc,hcr,hf'⟩:=own_take hx n hn
 obtain ⟨te',info,hd,hinfo⟩:=sliceT_run hT ht
 refine Runs.make (U:=fun _ => False) (f:=f') h2 hp (v:=.slice A n c) ?_ (Grow.refl _ _) (fun i hi => hi.elim) (fun i hi => ?_) ⟨_,by simpa using hcr,rfl⟩
 ·have hc':List.length xs≤c:=hc
  have hnc:n≤c:=by omega
  have e1:(if c=0 then A else Option.map (fun x => x) A)=A:=by split <;> simp
  simp [execOp,ho,hv,eH,Instr.sliceAt,Instr.slice,run_underlying hd,Instr.sliceBounds,Instr.sliceBound,asIntOf,hnc,Go.sizeOf,typeInfo,hinfo,Addr.add]
 ·obtain ⟨q1,q2,q3,q4⟩:=hh i (hf' i hi)
  exact ⟨q1,.inr ⟨q2,q3,q4⟩⟩
theorem RelX.freeze (h:RelX Z F w0 Wr Zi N S a w) (hWr:∀ i,¬ Wr i) {k:Nat} {s:Sh} {x:s.den} (hm:(k,SV.val s x) ∈ S):Rel w0 Wr Zi N (S.put k (.val s.ro (s.fz x))) a w:=by
 obtain ⟨v,hv,cs,hcr,hval⟩:=h.rep k _ hm
 let Z':Fp:=fun i => Z i∨F k i
 have hZ:∀ i,Z i→Z' i:=fun i => .inl
 have h':RelX Z' (fun t => if t=k then (fun _ => False) else F t) w0 Wr Zi N (S.kill k) a w:=by
  obtain ⟨_,_,_,h2,_⟩:=h.take hm
  refine ⟨h2.tsize,h2.pins,h2.uniq,?_,?_,h2.wr,?_,h2.lt,h2.apart,h2.grow,h2.defers,?_⟩
  ·rintro i (hi | hi)
   ·exact h.zlt i hi
   ·exact h.lt k i hi
  ·rintro i (hi | hi) hlt
   ·exact h.zin i hi hlt
   ·rcases h.wr k i hi with hw | hw
    ·exact absurd hw (hWr i)
    ·omega
  ·intro t i hi hz
   by_cases e:t=k
   ·simp [e] at hi
   ·simp only [e,if_false] at hi
    rcases hz with hz | hz
    ·exact h.nz t i hi hz
    ·exact e (h.apart t k i hi hz)
  ·intro t sv hm'
   obtain ⟨v',hv',hr'⟩:=h2.rep t sv hm'
   refine ⟨v',hv',SV.rep_turn (Z:=Z) hZ (fun i hi => rfl) (fun i hi => rfl) ?_ (fun g hg => rfl) hr'⟩
   intro q hq s1 x1 vh hh
   refine ⟨hh,fun hs => ?_⟩
   obtain ⟨v1,hv1,hr1⟩:=h2.rep q _ hh.get
   rw [hh.tmp] at hv1
   obtain rfl:vh=v1:=by simpa using hv1
   exact ⟨_,root_cells hs hr1,fun i hi => rfl⟩
 have hlt:k < a.tmps.size:=(Array.getElem?_eq_some_iff.1 hv).1
 have hval':ValOf s.ro v cs:=by cases s <;> first | exact hval | (rename_i o t e; cases o <;> exact hval)
 have:=h'.putG (d:=k) (sv:=.val s.ro (s.fz x)) (v:=v) (f:=fun _ => False) (U:=fun _ => False) (w':=w) hlt (fun _ => hv) (Grow.refl _ _) (fun i hi => hi.elim) (fun i hi => hi.elim)
  ⟨cs,CRep.freeze hZ (fun i hi => .inr hi) hcr,hval'⟩
 rw [put_idem hv] at this
 have hkk:(S.kill k).put k (.val s.ro (s.fz x))=S.put k (.val s.ro (s.fz x)):=by
  have:(S.kill k).kill k=S.kill k:=by
   unfold SS.kill
   rw [List.filter_filter]
   congr 1
   funext e
   simp
  unfold SS.put
  rw [this]
 rw [hkk] at this
 exact ⟨Z',_,this⟩
theorem pick_ok (h:RelX Z F w0 Wr Zi N S a w) {g:Nat} {c:Bool} {X Y:Operand} {s:Sh} {x y:s.den} (ho:o.op=.pick (.tmp g) X Y) (hg:S.get g=some (.val .bool c))
 (hx:c=true→VRep Z w s x (a.eval X) (fun _ => False)) (hy:c=false→VRep Z w s y (a.eval Y) (fun _ => False)) (hp:putS N S o.dst (.val s (bif c then x else y))=some S'):Runs P o a w (Rel w0 Wr Zi N S'):=by
 obtain ⟨v,hv,hr⟩:=h.rep g _ (SS.get_mem hg)
 have e:a.eval (.tmp g)=.bool c:=by rw [eval_of hv]; exact scal_eval (Z:=Z) (w:=w) (tv:=⟨.bool,c⟩) rfl hr
 refine Runs.read h hp (v:=if c=true then a.eval X else a.eval Y) (by simp [execOp,ho,e,asBool]) ?_
 cases c
 ·exact hy rfl
 ·exact hx rfl
end
end Go.Vm
