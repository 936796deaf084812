/- Functions that answer a row they were given, or a fresh one. -/
import Derived.Test.YtgonbndbnmimhaaDoorVmSp
set_option linter.unusedVariables false
set_option linter.unusedSimpArgs false
namespace Go.Vm
open Go
def PAns (P:Program) (f:Nat) (ins:List TV) (out:TV) (j:Nat):Prop :=
 (∃ fn, P.funcs[f]? = some fn ∧ (fn.name == "runtime.NumGoroutine") = false ∧ fn.body.isNone = false) ∧
 ∀ (Z:Fp) (w:World) (args:List Value) (f0:Fp),(∀ i,Z i→i < w.heap.size)→VReps Z w ins args f0 → (∀ i,f0 i→¬ Z i) →
   Calls P f args.toArray w fun e w' => ∃ v f2,e=.returned v∧Grow (fun _ => False) w w'∧VRep (fun _ => False) w' out.sh out.x v f2∧∀ i,f2 i→w.heap.size≤i∨∃ u,args[j]?=some u∧u.ownBlock=some i
section
variable {P:Program} {T:Tbl} {Z:Fp} {F:Nat→Fp} {w0:World} {Wr Zi:Fp} {N:Fr} {S S' S1:SS} {a:Act} {w:World} {o:Oper}
def RetOkA (P:Program) (fn:Func) (w0:World) (Zi:Fp) (v0:Value) (tv out:TV):Exit→Act→World→Prop :=
 bodyPost P fn fun e w' => ∃ v,e=.returned v∧Grow (fun _ => False) w0 w' ∧ ((v=v0∧out=tv)∨∃ Zn Fr,VRep Zn w' out.sh out.x v Fr∧∀ i,Fr i→w0.heap.size≤i)
theorem retA_ok (hT:TOk P T) {fn:Func} {Zi:Fp} {v0:Value} {l:List ResultVar} {tv out:TV} (h:Rel w0 (fun _ => False) Zi N S a w) (hres:fn.results=l.toArray) (htk:(takeR T S l).map (·.1)=some [out]) :
 RetOkA P fn w0 Zi v0 tv out .ret a w∧RetOkA P fn w0 Zi v0 tv out .normal a w:=by
 obtain ⟨Z,F,hX⟩:=h
 obtain ⟨r,hr,he⟩:=Option.map_eq_some_iff.1 htk
 obtain ⟨tvs,S1⟩:=r
 simp only at he
 subst he
 obtain ⟨F1,f,vs,hrun,hv,h1,hh,_⟩:=takeR_rep (P:=P) hT hX hr
 obtain ⟨v,vs',f1,f2,rfl,he,hd,hv1,rfl,h0⟩:=hv
 have key:∃ u,(results fn a.tmps).run P w=.ok u w∧∃ v,Ending.returned u=.returned v∧Grow (fun _ => False) w0 w ∧ ((v=v0∧out=tv)∨∃ Zn Fr,VRep Zn w out.sh out.x v Fr∧∀ i,Fr i→w0.heap.size≤i) :=
  ⟨_,results_runR hres hrun,v,rfl,h1.grow,.inr ⟨Z,f1,hv1,fun i hi => ((hh i ((he i).2 (.inl hi))).2.2.2).elim False.elim id⟩⟩
 exact ⟨⟨hX.defers,key⟩,⟨hX.defers,key⟩⟩
def argOps (ops:Array Oper) (j:Nat):Option Nat:=match ops.toList with
 | [o1,o2] => match o1.op,o1.dst,o1.guard,o2.op,o2.dst,o2.guard with
   | .move (.tmp s),some d1,none,.assign (.tmp s2),some d2,none => if s=j∧s2=d1 then some d2 else none
   | _,_,_,_,_,_ => none
 | _ => none
theorem wp_retarg {id:Nat} {ops:Array Oper} {fn:Func} {Zi:Fp} {v0:Value} {n j d:Nat} {tv out:TV} (h:Rel w0 (fun _ => False) Zi ⟨n,[j],fun _ => v0⟩ S a w) (hj:(S.get j).isSome=true) (hn:d < n) (hn2:∀ x,argOps ops j=some x→x=d)
 (ho:(argOps ops j).isSome=true) (hm:(match ops.toList with | o1 :: _ => (match o1.dst with | some x => decide (x < n) | none => false) | _ => false)=true) (hres:fn.results=#[.tmp d]) (he:out=tv) {Q:Exit→Act→World→Prop} (hQ:∀ a' w',RetOkA P fn w0 Zi v0 tv out .ret a' w'→Q .ret a' w') :
 ((Code.region id ops false).seq Code.ret).wp P Q a w:=by
 subst he
 obtain ⟨Z,F,hX⟩:=h
 have hpin:=hX.pins j (by simp)
 have hts:=hX.tsize
 obtain ⟨x,hx⟩:=Option.isSome_iff_exists.1 ho
 obtain rfl:=hn2 x hx
 unfold argOps at hx
 split at hx
 ·rename_i o1 o2 hl
  split at hx
  ·rename_i s d1 s2 d2 e1 e2 e3 e4 e5 e6
   split at hx
   ·rename_i hc
    cases hx
    obtain ⟨rfl,rfl⟩:=hc
    rw [hl] at hm
    simp only [e2,decide_eq_true_eq] at hm
    refine wp_seq (wp_region_list ?_)
    rw [hl]
    have hev:∀ v,(a.tmps)[s]?=some v→a.eval (.tmp s)=v:=fun v hv => eval_of hv
    refine wpList_step fun K hK => ?_
    rw [if_pos (by simp [Region.wanted,e3])]
    unfold Oper.wp
    have hr1:(execOp a.eval o1).run P w=.ok (.value v0) w:=by simp [execOp,e1,hev v0 hpin]
    rw [hr1]
    refine hK _ _ ?_
    rw [e2]
    refine wpList_step fun K hK => ?_
    rw [if_pos (by simp [Region.wanted,e6])]
    unfold Oper.wp
    have hd1:((a.put (some s2) v0).tmps)[s2]?=some v0:=by
     have:s2 < a.tmps.size:=by rw [hts]; exact hm
     simp [Act.put,this]
    have hr2:(execOp (a.put (some s2) v0).eval o2).run P w=.ok (.value v0) w:=by
     have:(a.put (some s2) v0).eval (.tmp s2)=v0:=eval_of hd1
     simp [execOp,e4,this]
    rw [hr2]
    refine hK _ _ ?_
    rw [e5]
    refine wp_ret (hQ _ _ ?_)
    have hd2:∀ y,y < n → (((a.put (some s2) v0).put (some y) v0).tmps).getD y undef=v0:=fun y hy => by
     have:y < a.tmps.size:=by rw [hts]; exact hy
     simp [Act.put,this]
    refine ⟨hX.defers,v0,?_,v0,rfl,hX.grow,.inl ⟨rfl,rfl⟩⟩
    have hg:=hd2 _ hn
    rw [Array.getD_eq_getD_getElem?] at hg
    unfold results
    rw [hres]
    simp [hg]
   ·cases hx
  ·cases hx
 ·cases hx
theorem pans_intro {f : Nat} {fn : Func} {c : Code} (hf : P.funcs[f]? = some fn) (hname : (fn.name == "runtime.NumGoroutine") = false) (hb : fn.body = some c) {ins : List TV} {out tv : TV} {j : Nat} (hlen : ins.length ≤ fn.ntmps) (hj : ins[j]? = some tv)
 (hro:out.sh.noRo=true) (hsl:(match tv.sh with | .sl true _ e => e.noOwn && e.noRo | _ => false)=true) {ins':List TV} (hins:ins.map frzT=ins')
 (H:∀ (w0:World) (Zi:Fp) (v0:Value) (a:Act) (w:World),Rel w0 (fun _ => False) Zi ⟨fn.ntmps,[j],fun _ => v0⟩ (entryS 0 ins') a w→c.wp P (RetOkA P fn w0 Zi v0 tv out) a w):PAns P f ins out j:=by
 subst hins
 refine ⟨⟨fn,hf,hname,by rw [hb]; rfl⟩,?_⟩
 intro Z w args f0 hZ hargs hf0
 have hal:=VReps.length hargs
 obtain ⟨v0,fj,hvj,hrj,hsub⟩:=vreps_nth hargs hj
 have hjl:j < ins.length:=(List.getElem?_eq_some_iff.1 hj).1
 have hfr:=VReps.freeze (Z':=fun i => Z i∨f0 i) (fun i => .inl) (fun i hi => .inr hi) hargs
 have hget:∀ i v,args[i]?=some v → (args.toArray ++ Array.replicate (fn.ntmps - args.toArray.size) undef)[i]?=some v:=fun i v hv => by
  rw [Array.getElem?_append_left (by simpa using (List.getElem?_eq_some_iff.1 hv).1)]
  simpa using hv
 refine (calls_of_wp hf hb (H w (fun i => Z i∨f0 i) v0 _ _ ⟨fun i => Z i∨f0 i,fun _ => fun _ => False,?_,?_,?_,?_,fun i hi _ => hi,fun _ _ h => h.elim,fun _ _ h => h.elim,fun _ _ h => h.elim,fun _ _ _ h => h.elim,Grow.refl _ _,rfl,?_⟩)).mono ?_
 ·simp [hal]; omega
 ·intro k hk
  obtain rfl:k=j:=by simpa using hk
  exact hget k v0 hvj
 ·intro k u1 u2 h1 h2
  obtain ⟨q1,t1,e1,q2,rfl⟩:=mem_entry h1
  obtain ⟨q3,t2,e2,q4,rfl⟩:=mem_entry h2
  have:q1=q3:=by omega
  subst this
  rw [q2] at q4
  cases q4
  rfl
 ·rintro i (hi | hi)
  ·exact hZ i hi
  ·exact VReps.lt hargs i hi
 ·intro k sv hm
  obtain ⟨q,t,rfl,hq,rfl⟩:=mem_entry hm
  simp only [Nat.zero_add]
  obtain ⟨v,fq,hv,hr,hs⟩:=vreps_nth hfr hq
  have:fq=fun _ => False:=funext fun i => propext ⟨fun h => hs i h,False.elim⟩
  subst this
  exact ⟨v,hget q v hv,hr⟩
 ·rintro e w' ⟨v,rfl,hg,hor⟩
  rcases hor with ⟨rfl,rfl⟩ | ⟨Zn,Fr,hr,hfr⟩
  ·obtain ⟨cs,hc,hvo⟩:=hrj
   have hc2:CRep (fun _ => False) w' out.sh out.x cs fj:=CRep.noRo (Z:=Z) hro (CRep.same (fun _ => id) (fun i hi => hg.block i (hZ i hi) id) (fun i hi => hg.block i (CRep.lt hc i hi) id) hc)
   refine ⟨v,fj,rfl,hg,⟨cs,hc2,hvo⟩,fun i hi => .inr ⟨v,hvj,?_⟩⟩
   obtain ⟨s,x⟩:=out
   cases s with
   | sl oo t e =>
     cases oo with
     | true =>
       simp only [Bool.and_eq_true] at hsl
       have hcs:cs=[v]:=by simpa [ValOf] using hvo
       subst hcs
       exact (own_iff hsl.1 hc i).1 hi
     | false => simp at hsl
   | _ => simp at hsl
  ·obtain ⟨cs,hc,hvo⟩:=hr
   exact ⟨v,Fr,rfl,hg,⟨cs,CRep.noRo hro hc,hvo⟩,fun i hi => .inl (hfr i hi)⟩
def ansS (T:Tbl) (P:Program) (N:Fr) (S:SS) (o:Oper) (out:TV):SP:=match o.op,o.guard with
 | .call c,none => match c.callee with
   | .value (.func f) => match argsM T S o.type c.args.toList with
     | some (ins,some (k,q :: p,j)) => match placeOf S k (q :: p),out.sh with
       | some ⟨.sl true t e,xs⟩,.sl true t' e' => if e.noOwn && decide (t'=t) && decide (e'=e) then outS N S o.dst (.grown k (q :: p) out) [PAns P f ins out j] else none
       | _,_ => none
     | _ => none
   | _ => none
 | _,_ => none
theorem ansC_ok (h:RelX Z F w0 Wr Zi N S a w) {f:Nat} {xs:Array Operand} {tys:Array TypeId} {ins:List TV} {out:TV} {k j t:Nat} {q:Vm.Step} {p:Path} {e:Sh} {ys:List e.den} (ho:o.op=.call { callee:=.value (.func f),args:=xs,argTypes:=tys })
 (hx:argsM T S o.type xs.toList=some (ins,some (k,q :: p,j))) (hpl:placeOf S k (q :: p)=some ⟨.sl true t e,ys⟩) (hn:e.noOwn=true) (hsh:out.sh=.sl true t e) (hro:out.sh.noRo=true) (hc:PAns P f ins out j) (hp:putS N S o.dst (.grown k (q :: p) out)=some S'):Does P o a w (Rel w0 Wr Zi N S'):=by
 intro K Q hK
 obtain ⟨d,hd,hlt,hrd,htd,rfl⟩:=putS_some hp
 obtain ⟨⟨fn,hfn,hname,hbody⟩,hcall⟩:=hc
 obtain ⟨X,tv,q1,q2,q3,q4,q5⟩:=argsM_some h hx
 obtain ⟨s,x,hg,hroot,hat⟩:=placeOf_some hpl
 obtain ⟨f',hrep,hsub⟩:=copy_rep h (opd_rep h q2).2 hpl
 rw [hpl] at q3
 cases q3
 have hargs:=q5 f' hrep
 obtain ⟨_,s',x',vh,hh,hrest⟩:=opd_rep h q2
 have heq:=home_is h hh hg
 simp only [TV.mk.injEq] at heq
 obtain ⟨rfl,heq⟩:=heq
 obtain rfl:=eq_of_heq heq
 have hcr:=root_cells hroot (home_rep h hh)
 rcases hrest with ⟨hpe,_⟩ | ⟨g,oo,s1,x1,cs,_,hpn,hok,hat2,hl,hlen,hcells,hvo⟩
 ·cases hpe
 rw [hat] at hat2
 simp only [Option.some.injEq,TV.mk.injEq] at hat2
 obtain ⟨rfl,hx1⟩:=hat2
 obtain rfl:=eq_of_heq hx1
 have hcs:cs=[a.eval X]:=by simpa [ValOf] using hvo
 subst hcs
 have hcell:w.cell? ⟨g,oo,none⟩=some (a.eval X):=by simpa using hcells 0 _ rfl
 have hev:a.eval (.func f)=.func (.func f) #[] #[]:=rfl
 have hrun:(execOp a.eval o).run P w=.ok (.enter f (xs.toList.map a.eval).toArray) w:=by
  have:(xs.map a.eval) = (xs.toList.map a.eval).toArray:=by apply Array.toList_inj.1; simp
  have hname' : ¬ fn.name = "runtime.NumGoroutine" := by simpa using hname
  have hbody':¬ fn.body=none:=by intro e; rw [e] at hbody; cases hbody
  simp [execOp,ho,resolve,hev,Deferred.ofValue,invoke,callFunc,hfn,hname',hbody',this]
 unfold Oper.wp
 rw [hrun,Oper.upon_enter]
 refine (hcall Z w _ f' h.zlt hargs (fun i hi hz => h.nz k i (hsub i hi) hz)).mono ?_
 rintro e1 w' ⟨v,f2,rfl,hgr,hr2,hf2⟩
 refine hK _ _ ?_
 rw [hd]
 have hkd:k≠d:=by
  intro e
  simp [SV.refs,e] at hrd
 obtain ⟨t',pre',post',f'',R,hoo⟩:=place_row hroot hcr hok hpn hat hl hcell
 have hgF:=h.lt k g R.in_
 have hcell':w'.cell? ⟨g,oo,none⟩=some (a.eval X):=by rw [cell_same (w:=w) (hgr.block g hgF id)]; exact hcell
 have hl':rootLoc w' s' vh (q :: p)=some (g,oo):=by
  rw [← hoo]
  exact R.again w' (fun i hi _ => hgr.block i (h.lt k i hi) id)
 have h2:=h.grown (w':=w') hgr (fun _ => False) (fun i hi => hi.elim)
 have hvv:∀ u,(xs.toList.map a.eval)[j]?=some u→u=a.eval X:=fun u hu => by
  rw [List.getElem?_map,q1] at hu
  simpa using hu.symm
 obtain ⟨cs2,hc2,hvo2⟩:=hr2
 have hcs2:cs2=[v]:=by
  rw [hsh] at hvo2
  simpa [ValOf] using hvo2
 subst hcs2
 have hlt2:=CRep.lt hc2
 have hc3:CRep (fun i => Z i∨False) w' out.sh out.x [v] f2:=CRep.noRo hro hc2
 refine ⟨_,_,h2.putG (d:=d) (sv:=.grown k (q :: p) out) (v:=v) (f:=fun i => f2 i∧w.heap.size≤i) (U:=fun _ => False) (by rw [h.tsize]; exact hlt.1) (fun hm => absurd hm hlt.2) (Grow.refl _ _) (fun i hi => hi.elim) (fun i hi => ⟨hlt2 i hi.1,.inr ⟨fun hz => ?_,fun s _ hs => ?_,.inr (Nat.le_trans h.grow.size hi.2)⟩⟩) ?_⟩
 ·rcases hz with hz | hz
  ·have:=h.zlt i hz; have:=hi.2; omega
  ·exact hz
 ·have:=h.lt s i hs; have:=hi.2; omega
 ·refine ⟨s',x',vh,g,oo,a.eval X,t,e,ys,f2,⟨SS.mem_put.2 (.inr ⟨hh.get,hkd,rfl,rfl⟩),by rw [put_other a d k v hkd]; exact hh.tmp⟩,hroot,hpn,hok,hat,hn,hl',hcell',hsh,hc3,fun i hi => ?_⟩
  rcases hf2 i hi with h' | ⟨u,hu,hb⟩
  ·exact .inl ⟨hi,h'⟩
  ·rw [hvv u hu] at hb
   exact .inr hb
theorem ansS_ok {ops:Array Oper} {out:TV} {c:List Prop} (hro:out.sh.noRo=true) (h:RelX Z F w0 Wr Zi N S a w) (hl:ansS T P N S o out=some (S',c)) (hc:AllP c):DoesG P ops o a w (Rel w0 Wr Zi N S'):=by
 unfold ansS at hl
 split at hl
 ·rename_i c0 hop hgd
  split at hl
  ·rename_i f hcal
   split at hl
   ·rename_i ins k q p j hx
    split at hl
    ·rename_i t e ys t' e' hpl hsh
     split at hl
     ·rename_i hcond
      simp only [Bool.and_eq_true,decide_eq_true_eq] at hcond
      obtain ⟨⟨hn,rfl⟩,rfl⟩:=hcond
      obtain ⟨hp,rfl⟩:=outS_some hl
      obtain ⟨c1,xs,tys⟩:=c0
      simp only at hcal hx
      subst hcal
      intro K Q hK
      rw [if_pos (by simp [Region.wanted,hgd])]
      exact ansC_ok h hop hx hpl hn hsh hro hc.1 hp K Q hK
     ·cases hl
    ·cases hl
   ·cases hl
  ·cases hl
 ·cases hl
end
def sxA (T:Tbl) (P:Program) (N:Fr) (orc:Nat→List TV) (spA:List (Nat × TV)) (sp:List (Nat × Spec)) (ops:Array Oper):Sx:=fun i S => match spA.find? fun x => Nat.beq x.1 i with
 | some x => match ops[i]? with
   | some o => if x.2.sh.noRo then ansS T P N S o x.2 else none
   | none => none
 | none => sxS T P N orc sp ops i S
theorem sxA_ok {T:Tbl} {P:Program} (hT:TOk P T) {w0:World} {Wr Zi:Fp} {N:Fr} {orc:Nat→List TV} {spA:List (Nat × TV)} {sp:List (Nat × Spec)} {ops:Array Oper}:SxOk T P w0 Wr Zi N ops (sxA T P N orc spA sp ops):=by
 intro i o Z F S S' c a w ho hs hc h
 unfold sxA at hs
 split at hs
 ·rename_i x hx
  rw [ho] at hs
  simp only at hs
  split at hs
  ·rename_i hro
   exact ansS_ok hro h hs hc
  ·cases hs
 ·exact sxS_ok hT i o Z F S S' c a w ho hs hc h
section
variable {P:Program} {T:Tbl} {w0:World} {Wr Zi:Fp} {N:Fr} {S S' S1:SS} {a:Act} {w:World} {Q:Exit→Act→World→Prop}
theorem wp_regX_seq {id:Nat} {ops:Array Oper} {rest:Code} {c:List Prop} {sx:Sx} (hX:SxOk T P w0 Wr Zi N ops sx) (Ev:List VEnt) (Al:AlT) (ms:List Nat) (full:Nat) (cs:List (Nat × Nat × Nat)) (h:Rel w0 Wr Zi N S a w)
 (h0:(fineB P ops && (ms.any (Nat.beq 0) && (alsAt Al 0).isEmpty && (modesOf ops).all fun md => vB md ops Ev Al ms full))=true)
 (hS:(view Ev 0).map (fun e => S.get e.1) = (view Ev 0).map fun e => some e.2)
 (hE:(modesOf ops).map (fun md => eA sx md ops Ev Al ms) = (modesOf ops).map fun md => eB md ops Ev Al ms cs c) (hc:AllP c) (hp:∀ c a (d:Nat) v w,Q (.panic c) (a.put (some d) v) w→Q (.panic c) a w)
 (hrest:∀ a' w',Rel w0 Wr Zi N (view Ev full) a' w'→rest.wp P Q a' w'):((Code.region id ops true).seq rest).wp P Q a w :=
 wp_seq (wp_regX hX Ev Al ms full cs h h0 hS hE hc hp hrest)
theorem wp_seqX_seq {id:Nat} {ops:Array Oper} {rest:Code} {c:List Prop} {sx:Sx} (hX:SxOk T P w0 Wr Zi N ops sx) (h:Rel w0 Wr Zi N S a w) (hcq:(stepsX sx (List.range' 0 ops.size) S).map (·.2)=some c) (hc:AllP c)
 (hrest:∀ a' w',Rel w0 Wr Zi N (seqXS sx ops.size S) a' w'→rest.wp P Q a' w'):((Code.region id ops false).seq rest).wp P Q a w :=
 wp_seq (wp_seqX hX h hcq hc hrest)
end
def onlyS (l:List Nat) (S:SS):SS:=match S.forget l with
 | some S' => S'
 | none => []
theorem Rel.only {w0:World} {Wr Zi:Fp} {N:Fr} {S:SS} {a:Act} {w:World} (h:Rel w0 Wr Zi N S a w) (l:List Nat) (he:(S.forget l).isSome=true):Rel w0 Wr Zi N (onlyS l S) a w:=by
 unfold onlyS
 split
 ·exact h.forget ‹_›
 ·rename_i hn; rw [hn] at he; cases he
end Go.Vm
