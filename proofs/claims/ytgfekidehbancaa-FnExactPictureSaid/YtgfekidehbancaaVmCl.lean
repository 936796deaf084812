/- A call of a closure that writes through one of the boxes that it has captured. -/
import Derived.Test.YtgfekidehbancaaVmAn
set_option linter.unusedVariables false
set_option linter.unusedSimpArgs false
namespace Go.Vm
open Go
def argsP (T:Tbl) (S:SS) (ty:Nat):List Operand→Option (List TV)
 | [] => some []
 | X :: r => match opv T S ty X,argsP T S ty r with
   | some t,some ts => some (t :: ts)
   | _,_ => none
section
variable {P:Program} {T:Tbl} {Z:Fp} {F:Nat→Fp} {w0:World} {Wr Zi:Fp} {N:Fr} {S S' S1:SS} {a:Act} {w:World} {o:Oper}
theorem argsP_rep (h:RelX Z F w0 Wr Zi N S a w) {ty:Nat}:∀ {xs:List Operand} {ts:List TV},argsP T S ty xs=some ts→VReps Z w ts (xs.map a.eval) (fun _ => False)
 | [],ts,hx => by cases hx; exact ⟨rfl,fun _ => id⟩
 | X :: r,ts,hx => by
   simp only [argsP] at hx
   split at hx
   ·rename_i t ts' h1 h2
    cases hx
    exact vreps_cons (opv_rep h h1) (argsP_rep h h2)
   ·cases hx
theorem capsK_rep (h:RelX Z F w0 Wr Zi N S a w) {k:Nat}:∀ {caps:List (Nat × Path)} {ts:List TV} {vs:List Value},capsV S caps=some ts → (caps.all fun c => !Nat.beq c.1 k)=true→vs.length=caps.length →
 (∀ (j:Nat) (u:Value) (c:Nat × Path),vs[j]?=some u→caps[j]?=some c→AddrRep S w a.tmps c.1 c.2 u∨CopyRep S w a.tmps c.1 c.2 u)→VReps (fun i => Z i∨∃ s,s≠k∧F s i) w ts vs (fun _ => False)
 | [],ts,vs,hc,_,hl,_ => by
   cases hc
   exact ⟨List.length_eq_zero_iff.1 hl,fun _ => id⟩
 | (k',p) :: r,ts,vs,hc,hk,hl,hr => by
   simp only [capsV] at hc
   simp only [List.all_cons,Bool.and_eq_true] at hk
   have hne:k'≠k:=fun e => by have:=hk.1; rw [e] at this; simp at this
   split at hc
   ·rename_i s1 x1 ts' hrest hpl
    cases hc
    match vs,hl with
    | u :: vs',hl =>
      have ih:=capsK_rep h (vs:=vs') hrest hk.2 (by simpa using hl) (fun j u c h1 h2 => hr (j+1) u c (by simpa using h1) (by simpa using h2))
      rcases hr 0 u (k',[]) rfl rfl with hA | hC
      ·obtain ⟨_,_,_,_,_,_,_,hp,_⟩:=hA
       exact absurd rfl hp
      ·obtain ⟨f',⟨cs,hcc,hvo⟩,hin⟩:=copy_rep h hC hpl
       exact ⟨u,vs',fun _ => False,fun _ => False,rfl,fun i => ⟨.inl,fun h => h.elim id id⟩,fun i h => h.elim,pt0_rep (t:=⟨s1.ro,s1.fz x1⟩) ⟨cs,CRep.freeze (fun i => .inl) (fun i hi => .inr ⟨k',hne,hin i hi⟩) hcc,valOf_ro hvo⟩,ih⟩
   ·cases hc
theorem vreps_mid {Z:Fp} {w:World} {R:List TV} {vr:List Value} {f:Fp} (h2:VReps Z w R vr f):∀ {A:List TV} {va:List Value},VReps Z w A va (fun _ => False)→VReps Z w (A ++ R) (va ++ vr) f
 | [],va,h => by obtain ⟨rfl,_⟩:=h; exact h2
 | t :: A,va,h => by
   obtain ⟨v,vs1,f1,f2,rfl,he,hd,h1,h3⟩:=h
   have e1:f1=fun _ => False:=funext fun i => propext ⟨fun hi => (he i).2 (.inl hi),False.elim⟩
   have e2:f2=fun _ => False:=funext fun i => propext ⟨fun hi => (he i).2 (.inr hi),False.elim⟩
   subst e1 e2
   exact vreps_cons h1 (vreps_mid h2 h3)
def capsEq:List (Nat × Path)→List (Nat × Path)→Bool
 | [],[] => true
 | (k,[]) :: r,(k',[]) :: r' => Nat.beq k k' && capsEq r r'
 | _,_ => false
theorem capsEq_ok:∀ {x y:List (Nat × Path)},capsEq x y=true→x=y
 | [],[],_ => rfl
 | [],_ :: _,h => by simp [capsEq] at h
 | (k,p) :: r,[],h => by cases p <;> simp [capsEq] at h
 | (k,[]) :: r,(k',[]) :: r',h => by
   simp only [capsEq,Bool.and_eq_true] at h
   rw [Nat.eq_of_beq_eq_true h.1,capsEq_ok h.2]
 | (k,[]) :: r,(k',_ :: _) :: r',h => by simp [capsEq] at h
 | (k,_ :: _) :: r,(k',_) :: r',h => by simp [capsEq] at h
def cloMS (T:Tbl) (P:Program) (N:Fr) (S:SS) (o:Oper) (m:Nat) (fin:TV) (q:Nat):SP:=match o.op,o.guard with
 | .call c,none => match c.callee with
   | .value (.tmp s) => match S.get s with
     | some (.clo f caps) => match caps.drop m,S.get q with
       | (k,[]) :: post,some (.clo f2 caps2) => match S.get k,capsV S (caps.take m),capsV S post,argsP T S o.type c.args.toList with
         | some (.val sg xg),some ts1,some ts3,some ins =>
           if ((caps.take m).all fun c => !Nat.beq c.1 k) && (post.all fun c => !Nat.beq c.1 k) && (SV.clo f caps).refs s == false && fin.sh.noRo && (SV.clo f caps).refs q == false && (Nat.beq f2 f && capsEq caps2 caps) then
            outS N (((S.put k (.val fin.sh fin.x)).put s (.clo f caps)).put q (.clo f caps)) o.dst (retS []) [PMut P f ((ins ++ ts1) ++ (⟨sg,xg⟩ :: ts3)) [] ((ins ++ ts1) ++ (fin :: ts3))]
           else none
         | _,_,_,_ => none
       | _,_ => none
     | _ => none
   | _ => none
 | _,_ => none
theorem capsV_nil {S:SS}:∀ {caps:List (Nat × Path)} {ts:List TV},capsV S caps=some ts→∀ c ∈ caps,c.2=[]
 | [],ts,h,c,hc => by simp at hc
 | (k,p) :: r,ts,h,c,hc => by
   simp only [capsV] at h
   split at h
   ·rename_i s1 x1 ts' hrest hpl
    rcases List.mem_cons.1 hc with rfl | hc
    ·rfl
    ·exact capsV_nil hrest c hc
   ·cases h
theorem reclo {Z2:Fp} {F2:Nat→Fp} {S2:SS} {w':World} (h3:RelX Z2 F2 w0 Wr Zi N S2 a w') {q f:Nat} {caps:List (Nat × Path)} {vs:List Value} (hq:a.tmps[q]?=some (.func (.func f) #[] vs.toArray)) (hlen:vs.length=caps.length) (hnil:∀ c ∈ caps,c.2=[])
 (hh:∀ (j:Nat) (u:Value) (c:Nat × Path),vs[j]?=some u→caps[j]?=some c → (∃ s x,(c.1,SV.val s x) ∈ S2)∧a.tmps[c.1]?=some u) (hr:(SV.clo f caps).refs q=false):∃ F3,RelX Z2 F3 w0 Wr Zi N (S2.put q (.clo f caps)) a w':=by
 have h4:=h3.putR (d:=q) (sv:=.clo f caps) (v:=.func (.func f) #[] vs.toArray) (Array.getElem?_eq_some_iff.1 hq).1 (fun _ => hq) ⟨fun _ => id,vs,rfl,hlen,fun j u c e1 e2 => .inr (by
  obtain ⟨⟨s,x,hm⟩,ht⟩:=hh j u c e1 e2
  exact ⟨s,x,u,⟨hm,ht⟩,.inl ⟨hnil c (List.mem_of_getElem? e2),rfl⟩⟩)⟩ hr rfl
 rw [put_idem hq] at h4
 exact ⟨_,h4⟩
theorem clo_homes (h:RelX Z F w0 Wr Zi N S a w) {q f:Nat} {caps:List (Nat × Path)} (hs:S.get q=some (.clo f caps)) (hnil:∀ c ∈ caps,c.2=[]):∃ vs:List Value,a.tmps[q]?=some (.func (.func f) #[] vs.toArray)∧vs.length=caps.length ∧
 ∀ (j:Nat) (u:Value) (c:Nat × Path),vs[j]?=some u→caps[j]?=some c → (∃ s x,(c.1,SV.val s x) ∈ S)∧a.tmps[c.1]?=some u:=by
 obtain ⟨vclo,hvclo,_,vs,rfl,hlen,hcr⟩:=h.rep q _ (SS.get_mem hs)
 refine ⟨vs,hvclo,hlen,fun j u c e1 e2 => ?_⟩
 have hcn:=hnil c (List.mem_of_getElem? e2)
 rcases hcr j u c e1 e2 with hA | hC
 ·obtain ⟨_,_,_,_,_,_,_,hp',_⟩:=hA
  exact absurd hcn hp'
 ·obtain ⟨s',x',vh',hh,hor⟩:=hC
  rcases hor with ⟨_,e⟩ | ⟨_,_,_,_,_,_,e,_⟩
  ·subst e; exact ⟨⟨s',x',hh.get⟩,hh.tmp⟩
  ·exact absurd hcn e
theorem cloMS_ok {ops:Array Oper} {c:List Prop} {m q:Nat} {fin:TV} (h:RelX Z F w0 Wr Zi N S a w) (hl:cloMS T P N S o m fin q=some (S',c)) (hc:AllP c):DoesG P ops o a w (Rel w0 Wr Zi N S'):=by
 unfold cloMS at hl
 split at hl
 ·rename_i cc hop hgd
  split at hl
  ·rename_i s hcal
   split at hl
   ·rename_i f caps hs
    split at hl
    ·rename_i k post f2 caps2 hdr hq2
     split at hl
     ·rename_i sg xg ts1 ts3 ins hg hc1 hc3 hx
      split at hl
      ·rename_i hcond
       simp only [Bool.and_eq_true,beq_iff_eq,decide_eq_true_eq] at hcond
       obtain ⟨⟨⟨⟨⟨hk1,hk3⟩,hrefs⟩,hnr⟩,hrefq⟩,hf2,hc2⟩:=hcond
       have hf2:=Nat.eq_of_beq_eq_true hf2
       have hc2:=capsEq_ok hc2
       rw [hf2,hc2] at hq2
       obtain ⟨hp,rfl⟩:=outS_some hl
       obtain ⟨⟨fn,hfn,hname,hbody⟩,hcall⟩:=hc.1
       have hcaps:caps=caps.take m ++ ((k,[]) :: post):=by rw [← hdr,List.take_append_drop]
       clear hdr hl
       generalize caps.take m=pre at *
       subst hcaps
       obtain ⟨vclo,hvclo,hFs,vs,hvc,hlen,hcr⟩:=h.rep s _ (SS.get_mem hs)
       subst hvc
       obtain ⟨va,v,vb,hvs,hva⟩:∃ va v vb,vs=va ++ v :: vb∧va.length=pre.length:=by
        have hlt:pre.length < vs.length:=by rw [hlen]; simp
        exact ⟨vs.take pre.length,vs[pre.length],vs.drop (pre.length+1),by rw [List.getElem_cons_drop,List.take_append_drop],by rw [List.length_take]; omega⟩
       have hvb:vb.length=post.length:=by
        have:=congrArg List.length hvs
        rw [hlen] at this
        simp at this
        omega
       have hcapk:(pre ++ ((k,([]:Path)) :: post))[pre.length]?=some (k,[]):=by simp
       have hvk:vs[pre.length]?=some v:=by rw [hvs,List.getElem?_append_right (by omega),hva]; simp
       obtain ⟨vh,hvh,hrepk⟩:=h.rep k _ (SS.get_mem hg)
       have hvv:v=vh:=by
        rcases hcr _ v _ hvk hcapk with hA | hC
        ·obtain ⟨_,_,_,_,_,_,_,hp',_⟩:=hA
         exact absurd rfl hp'
        ·obtain ⟨s',x',vh',hh,hor⟩:=hC
         rcases hor with ⟨_,e⟩ | ⟨_,_,_,_,_,_,e,_⟩
         ·have:=hh.tmp; rw [hvh] at this; rw [e]; simpa using this.symm
         ·exact absurd rfl e
       subst hvv
       have hpre:VReps (fun i => Z i∨∃ t,t≠k∧F t i) w ts1 va (fun _ => False):=capsK_rep h hc1 hk1 hva (fun j u c e1 e2 => by
        have hj:j < pre.length:=(List.getElem?_eq_some_iff.1 e2).1
        exact hcr j u c (by rw [hvs,List.getElem?_append_left (by omega)]; exact e1) (by rw [List.getElem?_append_left hj]; exact e2))
       have hpost:VReps (fun i => Z i∨∃ t,t≠k∧F t i) w ts3 vb (fun _ => False):=capsK_rep h hc3 hk3 hvb (fun j u c e1 e2 => by
        refine hcr (pre.length+1+j) u c ?_ ?_
        ·rw [hvs,List.getElem?_append_right (by omega),hva,show pre.length+1+j - pre.length=j+1 by omega]; simpa using e1
        ·rw [List.getElem?_append_right (by omega),show pre.length+1+j - pre.length=j+1 by omega]; simpa using e2)
       have hargs0:VReps (fun i => Z i∨∃ t,t≠k∧F t i) w ins (cc.args.toList.map a.eval) (fun _ => False):=VReps.same (fun i => .inl) (fun i _ => rfl) (fun i _ => rfl) (argsP_rep h hx)
       have hmid:VReps (fun i => Z i∨∃ t,t≠k∧F t i) w (⟨sg,xg⟩ :: ts3) (v :: vb) (F k):=vreps_head (VRep.same (fun i => .inl) (fun i _ => rfl) (fun i _ => rfl) hrepk) hpost
       have hfront:=VReps.app hargs0 hpre
       have hall:=vreps_mid hmid hfront
       have hev:a.eval (.tmp s)=.func (.func f) #[] vs.toArray:=eval_of hvclo
       intro K Q hK
       rw [if_pos (by simp [Region.wanted,hgd])]
       have hrun:(execOp a.eval o).run P w=.ok (.enter f (cc.args.toList.map a.eval ++ vs).toArray) w:=by
        have:(cc.args.map a.eval) ++ vs.toArray = (cc.args.toList.map a.eval ++ vs).toArray:=by apply Array.toList_inj.1; simp
        have hname' : ¬ fn.name = "runtime.NumGoroutine" := by simpa using hname
        have hbody':¬ fn.body=none:=by intro e; rw [e] at hbody; cases hbody
        obtain ⟨c1,c2,c3⟩:=cc
        simp only at hcal this
        subst hcal
        simp [execOp,hop,resolve,hev,Deferred.ofValue,invoke,callFunc,hfn,hname',hbody',this]
       unfold Oper.wp
       rw [hrun,Oper.upon_enter]
       have hargs:(cc.args.toList.map a.eval ++ vs) = ((cc.args.toList.map a.eval ++ va) ++ v :: vb):=by rw [hvs,List.append_assoc]
       rw [hargs]
       refine (hcall _ w _ (F k) (fun i hi => hi.elim (h.zlt i) (fun ⟨t,_,ht⟩ => h.lt t i ht)) hall (fun i hi hz => hz.elim (h.nz k i hi) (fun ⟨t,hne,ht⟩ => hne (h.apart t k i ht hi)))).mono ?_
       rintro e w' ⟨vs',Fr,f1,Zn,rfl,hzn,hvs',hfr',hfs,hf1,hgr⟩
       refine hK _ _ ?_
       obtain ⟨rfl,_⟩:=hvs'
       obtain ⟨vj,fj,r1,r2,r3⟩:=vreps_nth (j:=(ins ++ ts1).length) (t:=fin) hfs (by simp)
       have hvj:vj=v:=by
        rw [← VReps.length hfront,List.getElem?_append_right (Nat.le_refl _),Nat.sub_self] at r1
        simpa using r1.symm
       subst hvj
       obtain ⟨cs,hcs,hval⟩:=r2
       have h2:=h.turn (k:=k) (s:=fin.sh) (x:=fin.x) (v:=vj) (w':=w') (f:=fj) (U:=F k) (Zn:=fun _ => False) hvh hgr (fun i => id) (fun i hi => hi.elim) (fun i hi => ⟨CRep.lt hcs i hi,(hf1 i (r3 i hi)).1,id⟩) ⟨cs,CRep.noRo hnr hcs,hval⟩
       have hnil:∀ c ∈ (pre ++ ((k,([]:Path)) :: post)),c.2=[]:=fun c hcm => by
        rcases List.mem_append.1 hcm with hcm | hcm
        ·exact capsV_nil hc1 c hcm
        ·rcases List.mem_cons.1 hcm with rfl | hcm
         ·rfl
         ·exact capsV_nil hc3 c hcm
       have mem2:∀ c:Nat × Path,(∃ s x,(c.1,SV.val s x) ∈ S)→∃ s x,(c.1,SV.val s x) ∈ S.put k (.val fin.sh fin.x):=fun c ⟨s',x',hm⟩ => by
        by_cases hck:c.1=k
        ·exact ⟨fin.sh,fin.x,by rw [hck]; exact SS.mem_put.2 (.inl rfl)⟩
        ·exact ⟨s',x',SS.mem_put.2 (.inr ⟨hm,hck,rfl,rfl⟩)⟩
       have neS:∀ {t:Nat},(SV.clo f (pre ++ ((k,([]:Path)) :: post))).refs t=false→∀ c ∈ (pre ++ ((k,([]:Path)) :: post)),c.1≠t:=fun {t} hr c hcm e => by
        have:((pre ++ ((k,([]:Path)) :: post)).any fun c => c.1 == t)=true:=List.any_eq_true.2 ⟨c,hcm,by simp [e]⟩
        rw [SV.refs] at hr
        rw [this] at hr
        cases hr
       obtain ⟨va1,k1,k2,k3⟩:=clo_homes h hs hnil
       obtain ⟨va2,k4,k5,k6⟩:=clo_homes h hq2 hnil
       obtain ⟨F3,h3⟩:=reclo h2 k1 k2 hnil (fun j u c e1 e2 => ⟨mem2 c (k3 j u c e1 e2).1,(k3 j u c e1 e2).2⟩) hrefs
       obtain ⟨F4,h3⟩:=reclo h3 k4 k5 hnil (fun j u c e1 e2 => ⟨by
        obtain ⟨s',x',hm⟩:=mem2 c (k6 j u c e1 e2).1
        exact ⟨s',x',SS.mem_put.2 (.inr ⟨hm,neS hrefs c (List.mem_of_getElem? e2),rfl,rfl⟩)⟩,(k6 j u c e1 e2).2⟩) hrefq
       obtain ⟨d,hd,hlt,hrd,htd,rfl⟩:=putS_some hp
       rw [hd]
       exact ⟨_,_,h3.putR (d:=d) (sv:=retS []) (v:=RetV []) (by rw [h.tsize]; exact hlt.1) (fun hm => absurd hm hlt.2) (retS_rep (outs:=[]) (vs:=[]) (Fr:=fun _ => False) ⟨rfl,fun _ => id⟩) hrd htd⟩
      ·cases hl
     ·cases hl
    ·cases hl
   ·cases hl
  ·cases hl
 ·cases hl
end
end Go.Vm
