/- Calls of functions that only read what they are given. -/
import Derived.Test.YtgonbndbnmimhaaDoorVmN
set_option linter.unusedVariables false
set_option linter.unusedSimpArgs false
namespace Go.Vm
open Go
def RetV:List Value→Value
 | [v] => v
 | vs => .tuple vs.toArray
def PCall (P:Program) (f:Nat) (ins outs:List TV):Prop :=
 (∃ fn, P.funcs[f]? = some fn ∧ (fn.name == "runtime.NumGoroutine") = false ∧ fn.body.isNone = false) ∧
 ∀ (Z:Fp) (w:World) (args:List Value),(∀ i,Z i→i < w.heap.size)→VReps Z w ins args (fun _ => False) →
   Calls P f args.toArray w fun e w' => ∃ vs Fr Zn,e=.returned (RetV vs) ∧ (∀ i,Zn i→i < w'.heap.size ∧ (i < w.heap.size→Z i))∧VReps Zn w' outs vs Fr ∧ (∀ i,Fr i→w.heap.size≤i∧¬ Zn i)∧Grow (fun _ => False) w w'
def Sh.noRo:Sh→Bool
 | .pair a b => a.noRo && b.noRo
 | .st f => f.noRo
 | .sl o _ e => o && e.noRo
 | .pt o _ e => o && e.noRo
 | .mp o k v => o && k.noRo && v.noRo
 | .fn _ c => c.noRo
 | .gh o => o
 | _ => true
theorem CRep.noRo {Z Z':Fp} {w:World}:∀ {s:Sh} {x:s.den} {cs:List Value} {f:Fp},s.noRo=true→CRep Z w s x cs f→CRep Z' w s x cs f
 | .int k,x,cs,f,_,h => h
 | .bool,x,cs,f,_,h => h
 | .str,x,cs,f,_,h => h
 | .unit,x,cs,f,_,h => h
 | .any,x,cs,f,_,h => h
 | .raw,x,cs,f,_,h => h
 | .gh true,x,cs,f,_,h => h
 | .gh false,x,cs,f,hn,h => by simp [Sh.noRo] at hn
 | .pair a b,x,cs,f,hn,h => by
   simp only [Sh.noRo,Bool.and_eq_true] at hn
   obtain ⟨c1,c2,f1,f2,rfl,he,hd,h1,h2⟩:=h
   exact ⟨c1,c2,f1,f2,rfl,he,hd,CRep.noRo hn.1 h1,CRep.noRo hn.2 h2⟩
 | .st s,x,cs,f,hn,h => CRep.noRo (s:=s) hn h
 | .sl true t e,xs,cs,f,hn,h => by
   obtain ⟨v,inner,fr,rfl,hr,ho⟩:=h
   exact ⟨v,inner,fr,rfl,RRep.imp (P:=fun _ => True) (fun _ _ => trivial) (fun x cs f _ h => CRep.noRo (by simpa [Sh.noRo] using hn) h) hr,ho⟩
 | .sl false t e,xs,cs,f,hn,h => by simp [Sh.noRo] at hn
 | .pt true _ _,none,cs,f,_,h => h
 | .pt false _ _,x,cs,f,hn,h => by simp [Sh.noRo] at hn
 | .pt true t e,some y,cs,f,hn,h => by
   obtain ⟨v,inner,fr,rfl,hr,ho⟩:=h
   exact ⟨v,inner,fr,rfl,CRep.noRo (by simpa [Sh.noRo] using hn) hr,ho⟩
 | .mp true _ _,none,cs,f,hn,h => h
 | .mp false _ _,x,cs,f,hn,h => by simp [Sh.noRo] at hn
 | .mp true k v,some l,cs,f,hn,h => by
   simp only [Sh.noRo,Bool.and_eq_true] at hn
   obtain ⟨g,es,clk,rfl,hg,hm,he⟩:=h
   exact ⟨g,es,clk,rfl,hg,hm.imp (fun x cs hx => CRep.noRo hn.1.2 hx) (fun x cs hx => CRep.noRo hn.2 hx),he⟩
 | .fn _ c,x,cs,f,hn,h => by
   obtain ⟨vs,rfl,hr⟩:=h
   exact ⟨vs,rfl,CRep.noRo (s:=c) hn hr⟩
theorem VReps.noRo {Z Z':Fp} {w:World}:∀ {ts:List TV} {vs:List Value} {f:Fp},(ts.all fun t => t.sh.noRo)=true→VReps Z w ts vs f→VReps Z' w ts vs f
 | [],vs,f,_,h => h
 | t :: ts,vs,f,hn,h => by
   simp only [List.all_cons,Bool.and_eq_true] at hn
   obtain ⟨v,vs',f1,f2,rfl,he,hd,⟨cs,hc,hv⟩,h2⟩:=h
   exact ⟨v,vs',f1,f2,rfl,he,hd,⟨cs,CRep.noRo hn.1 hc,hv⟩,VReps.noRo hn.2 h2⟩
def pt0:TV→TV
 | ⟨.pt false _ e,x⟩ => ⟨.pt false 0 e,x⟩
 | t => t
def oneSh:Sh→Bool
 | .st _ => false
 | .any => false
 | .gh _ => false
 | s => s.size == 1
def capsV (S:SS):List (Nat × Path)→Option (List TV)
 | [] => some []
 | (k,p) :: r => match p,placeOf S k p,capsV S r with
   | [],some ⟨s1,x1⟩,some ts => some (pt0 ⟨s1.ro,s1.fz x1⟩ :: ts)
   | _,_,_ => none
def packT:List TV→TV
 | [] => ⟨.unit,()⟩
 | t :: r => ⟨.pair t.sh (packT r).sh,(t.x,(packT r).x)⟩
def unpackT:(s:Sh)→s.den→Option (List TV)
 | .unit,_ => some []
 | .pair a b,x => match unpackT b x.2 with
   | some r => if oneSh a then some (⟨a,x.1⟩ :: r) else none
   | none => none
 | _,_ => none
def argR (T:Tbl) (S:SS) (ty:Nat) (X:Operand):Option (TV × Bool) :=
 match opd T S ty X with
 | some (.val s x) => some (⟨s.ro,s.fz x⟩,false)
 | some (.copy k p) => match placeOf S k p with
   | some ⟨s1,x1⟩ => some (⟨s1.ro,s1.fz x1⟩,true)
   | none => none
 | some (.addr k p) => match placeOf S k p with
   | some ⟨s1,x1⟩ => some (⟨.pt false 0 s1.ro,some (s1.fz x1)⟩,true)
   | none => none
 | some (.clo g caps) => match capsV S caps with
   | some cs => if cs.all (fun t => oneSh t.sh) then some (⟨.fn g (packT cs).sh,(packT cs).x⟩,true) else none
   | none => none
 | _ => match X with
   | .tmp s => match S.get s with
     | some (.val sh x) => some (⟨sh.ro,sh.fz x⟩,true)
     | _ => none
   | _ => none
theorem pt0_rep {Z:Fp} {w:World} {t:TV} {v:Value} {f:Fp} (h:VRep Z w t.sh t.x v f):VRep Z w (pt0 t).sh (pt0 t).x v f:=by
 obtain ⟨s,x⟩:=t
 cases s with
 | pt ow te e =>
   cases ow with
   | true => exact h
   | false =>
     cases x with
     | none => exact h
     | some y => exact h
 | _ => exact h
def argO (T:Tbl) (S:SS) (ty:Nat) (X:Operand):Option (TV × Bool):=(argR T S ty X).map fun q => (pt0 q.1,q.2)
def argsO (T:Tbl) (S:SS) (ty:Nat):List Operand→Option (List TV × Bool)
 | [] => some ([],false)
 | X :: r => match argO T S ty X,argsO T S ty r with
   | some (t,b),some (ts,c) => some (t :: ts,b || c)
   | _,_ => none
section
variable {P:Program} {T:Tbl} {Z:Fp} {F:Nat→Fp} {w0:World} {Wr Zi:Fp} {N:Fr} {S S' S1:SS} {a:Act} {w:World} {o:Oper}
theorem valOf_ro {s:Sh} {v:Value} {cs:List Value} (h:ValOf s v cs):ValOf s.ro v cs:=by
 cases s <;> first | exact h | (rename_i o t e; cases o <;> exact h)
theorem one_val {s:Sh} {x:s.den} {v:Value} {cs:List Value} {f:Fp} (ho:oneSh s=true) (hc:CRep Z w s x cs f):(ValOf s v cs↔cs=[v])∧cs.length=1:=by
 have hl:=CRep.length hc
 cases s <;> first | (simp [oneSh] at ho; done) | exact ⟨Iff.rfl,by rw [hl]; simpa [oneSh] using ho⟩
theorem packT_rep {Z:Fp}:∀ {ts:List TV} {vs:List Value} {f:Fp},(ts.all fun t => oneSh t.sh)=true→VReps Z w ts vs f→CRep Z w (packT ts).sh (packT ts).x vs f
 | [],vs,f,_,h => h
 | t :: ts,vs,f,ho,h => by
   simp only [List.all_cons,Bool.and_eq_true] at ho
   obtain ⟨v,vs',f1,f2,rfl,he,hd,⟨cs,hc,hv⟩,h2⟩:=h
   obtain rfl:=(one_val ho.1 hc).1.1 hv
   exact ⟨[v],vs',f1,f2,rfl,he,hd,hc,packT_rep ho.2 h2⟩
theorem unpackT_rep {Z:Fp}:∀ {s:Sh} {x:s.den} {ts:List TV} {vs:List Value} {f:Fp},unpackT s x=some ts→CRep Z w s x vs f→VReps Z w ts vs f
 | .unit,x,ts,vs,f,hu,h => by
   simp only [unpackT,Option.some.injEq] at hu
   subst hu; exact h
 | .pair a b,x,ts,vs,f,hu,h => by
   simp only [unpackT] at hu
   split at hu
   ·rename_i r hr
    split at hu
    ·rename_i ho
     cases hu
     obtain ⟨c1,c2,f1,f2,rfl,he,hd,h1,h2⟩:=h
     have hl:=(one_val (v:=undef) ho h1).2
     match c1,hl with
     | [v],_ => exact ⟨v,c2,f1,f2,rfl,he,hd,⟨[v],h1,(one_val ho h1).1.2 rfl⟩,unpackT_rep hr h2⟩
    ·cases hu
   ·cases hu
 | .int _,x,ts,vs,f,hu,h => by simp [unpackT] at hu
 | .bool,x,ts,vs,f,hu,h => by simp [unpackT] at hu
 | .str,x,ts,vs,f,hu,h => by simp [unpackT] at hu
 | .any,x,ts,vs,f,hu,h => by simp [unpackT] at hu
 | .raw,x,ts,vs,f,hu,h => by simp [unpackT] at hu
 | .gh _,x,ts,vs,f,hu,h => by simp [unpackT] at hu
 | .st _,x,ts,vs,f,hu,h => by simp [unpackT] at hu
 | .sl _ _ _,x,ts,vs,f,hu,h => by simp [unpackT] at hu
 | .pt _ _ _,x,ts,vs,f,hu,h => by simp [unpackT] at hu
 | .mp _ _ _,x,ts,vs,f,hu,h => by simp [unpackT] at hu
 | .fn _ _,x,ts,vs,f,hu,h => by simp [unpackT] at hu
theorem capsV_rep (h:RelX Z F w0 Wr Zi N S a w):∀ {caps:List (Nat × Path)} {ts:List TV} {vs:List Value},capsV S caps=some ts→vs.length=caps.length →
 (∀ (j:Nat) (u:Value) (c:Nat × Path),vs[j]?=some u→caps[j]?=some c→AddrRep S w a.tmps c.1 c.2 u∨CopyRep S w a.tmps c.1 c.2 u)→VReps (fun i => Z i∨∃ s,F s i) w ts vs (fun _ => False)
 | [],ts,vs,hc,hl,_ => by
   cases hc
   exact ⟨List.length_eq_zero_iff.1 hl,fun _ => id⟩
 | (k,p) :: r,ts,vs,hc,hl,hr => by
   simp only [capsV] at hc
   split at hc
   ·rename_i s1 x1 ts' hrest hpl
    cases hc
    match vs,hl with
    | u :: vs',hl =>
      have ih:=capsV_rep h (vs:=vs') hrest (by simpa using hl) (fun j u c h1 h2 => hr (j+1) u c (by simpa using h1) (by simpa using h2))
      rcases hr 0 u (k,[]) rfl rfl with hA | hC
      ·obtain ⟨_,_,_,_,_,_,_,hp,_⟩:=hA
       exact absurd rfl hp
      ·obtain ⟨f',⟨cs,hcc,hvo⟩,hin⟩:=copy_rep h hC hpl
       exact ⟨u,vs',fun _ => False,fun _ => False,rfl,fun i => ⟨.inl,fun h => h.elim id id⟩,fun i h => h.elim,pt0_rep (t:=⟨s1.ro,s1.fz x1⟩) ⟨cs,CRep.freeze (fun i => .inl) (fun i hi => .inr ⟨k,hin i hi⟩) hcc,valOf_ro hvo⟩,ih⟩
   ·cases hc
theorem argR_rep (h:RelX Z F w0 Wr Zi N S a w) {ty:Nat} {X:Operand} {tv:TV} {b:Bool} (ho:argR T S ty X=some (tv,b)) :
 VRep (fun i => Z i∨∃ s,F s i) w tv.sh tv.x (a.eval X) (fun _ => False) ∧ (b=false→VRep Z w tv.sh tv.x (a.eval X) (fun _ => False)):=by
 unfold argR at ho
 split at ho
 ·rename_i s x hx
  cases ho
  obtain ⟨cs,hc,hv⟩:=opd_rep h hx
  exact ⟨⟨cs,CRep.freeze (fun i => .inl) (fun i hi => hi.elim) hc,valOf_ro hv⟩,fun _ => ⟨cs,CRep.freeze (fun _ => id) (fun i hi => hi.elim) hc,valOf_ro hv⟩⟩
 ·rename_i k p hx
  split at ho
  ·rename_i s1 x1 hpl
   cases ho
   refine ⟨?_,fun hb => by cases hb⟩
   obtain ⟨f',⟨cs,hc,hvo⟩,hin⟩:=copy_rep h (opd_rep h hx).2 hpl
   exact ⟨cs,CRep.freeze (fun i => .inl) (fun i hi => .inr ⟨k,hin i hi⟩) hc,valOf_ro hvo⟩
  ·cases ho
 ·rename_i k p hx
  split at ho
  ·rename_i s1 x1 hpl
   cases ho
   refine ⟨?_,fun hb => by cases hb⟩
   obtain ⟨s,x,hg,hroot,hat⟩:=placeOf_some hpl
   obtain ⟨_,s',x',vh,g,oo,hh,_,hpn,hok,hl,hv⟩:=opd_rep h hx
   have he:=home_is h hh hg
   simp only [TV.mk.injEq] at he
   obtain ⟨rfl,he⟩:=he
   obtain rfl:=eq_of_heq he
   obtain ⟨g',t',pre',cs',post',f',R⟩:=rfocus p s' x' vh (F k) ⟨s1,x1⟩ (root_cells hroot (home_rep h hh)) hpn (by cases s' <;> first | exact hroot.elim | trivial | exact absurd (mp_path hok) (by assumption)) hok hat
   have hgo:=R.at_
   rw [hl] at hgo
   simp only [Option.some.injEq,Prod.mk.injEq] at hgo
   obtain ⟨rfl,rfl⟩:=hgo
   rw [hv]
   refine ⟨_,⟨_,cs',fun _ => False,rfl,CRep.freeze (fun i => .inl) (fun i hi => .inr ⟨k,R.sub i hi⟩) R.rep,fun _ => id,fun _ => id,_,rfl,fun j u hu => ⟨.inr ⟨k,R.in_⟩,?_⟩⟩,rfl⟩
   rw [Addr.add_mid,cells_mid R.heap j (List.getElem?_eq_some_iff.1 hu).1]
   exact hu
  ·cases ho
 ·rename_i g caps hx
  split at ho
  ·rename_i cs hcs
   split at ho
   ·rename_i hone
    cases ho
    refine ⟨?_,fun hb => by cases hb⟩
    obtain ⟨_,vs,hv,hl,hrep⟩:=opd_rep h hx
    rw [hv]
    exact ⟨_,⟨vs,rfl,packT_rep hone (capsV_rep h hcs hl hrep)⟩,rfl⟩
   ·cases ho
  ·cases ho
 ·split at ho
  ·rename_i s _ _ _ _
   split at ho
   ·rename_i sh x hg
    cases ho
    refine ⟨?_,fun hb => by cases hb⟩
    obtain ⟨v,hv,cs,hc,hvo⟩:=h.rep s _ (SS.get_mem hg)
    rw [eval_of hv]
    exact ⟨cs,CRep.freeze (fun i => .inl) (fun i hi => .inr ⟨s,hi⟩) hc,valOf_ro hvo⟩
   ·cases ho
  ·cases ho
theorem argO_rep (h:RelX Z F w0 Wr Zi N S a w) {ty:Nat} {X:Operand} {tv:TV} {b:Bool} (ho:argO T S ty X=some (tv,b)) :
 VRep (fun i => Z i∨∃ s,F s i) w tv.sh tv.x (a.eval X) (fun _ => False) ∧ (b=false→VRep Z w tv.sh tv.x (a.eval X) (fun _ => False)):=by
 obtain ⟨q,hq,e⟩:=Option.map_eq_some_iff.1 ho
 cases e
 obtain ⟨h1,h2⟩:=argR_rep h (tv:=q.1) (b:=q.2) hq
 exact ⟨pt0_rep h1,fun hb => pt0_rep (h2 hb)⟩
theorem argsO_rep (h:RelX Z F w0 Wr Zi N S a w) {ty:Nat}:∀ {l:List Operand} {ts:List TV} {b:Bool},argsO T S ty l=some (ts,b) →
 VReps (fun i => Z i∨∃ s,F s i) w ts (l.map a.eval) (fun _ => False) ∧ (b=false→VReps Z w ts (l.map a.eval) (fun _ => False))
 | [],ts,b,ho => by cases ho; exact ⟨⟨rfl,fun _ => id⟩,fun _ => ⟨rfl,fun _ => id⟩⟩
 | X :: r,ts,b,ho => by
   simp only [argsO] at ho
   split at ho
   ·rename_i t b1 ts' b2 h1 h2
    cases ho
    obtain ⟨q1,q2⟩:=argO_rep h h1
    obtain ⟨q3,q4⟩:=argsO_rep h h2
    refine ⟨⟨_,_,fun _ => False,fun _ => False,rfl,fun i => ⟨.inl,fun h => h.elim id id⟩,fun i h => h.elim,q1,q3⟩,fun hb => ?_⟩
    simp only [Bool.or_eq_false_iff] at hb
    exact ⟨_,_,fun _ => False,fun _ => False,rfl,fun i => ⟨.inl,fun h => h.elim id id⟩,fun i h => h.elim,q2 hb.1,q4 hb.2⟩
   ·cases ho
theorem RelX.grown (h:RelX Z F w0 Wr Zi N S a w) {w':World} (hg:Grow (fun _ => False) w w') (Zn:Fp) (hz:∀ i,Zn i→w.heap.size≤i∧i < w'.heap.size):RelX (fun i => Z i∨Zn i) F w0 Wr Zi N S a w' where
 tsize:=h.tsize
 pins:=h.pins
 uniq:=h.uniq
 zlt i hi:=by
  rcases hi with hi | hi
  ·exact Nat.lt_of_lt_of_le (h.zlt i hi) hg.size
  ·exact (hz i hi).2
 zin i hi hlt:=by
  rcases hi with hi | hi
  ·exact h.zin i hi hlt
  ·have:=(hz i hi).1; have:=h.grow.size; omega
 wr:=h.wr
 nz s i hi hzz:=by
  rcases hzz with hzz | hzz
  ·exact h.nz s i hi hzz
  ·have:=h.lt s i hi; have:=(hz i hzz).1; omega
 lt s i hi:=Nat.lt_of_lt_of_le (h.lt s i hi) hg.size
 apart:=h.apart
 grow:=h.grow.step hg (fun i hi => hi.elim)
 defers:=h.defers
 rep s sv hm:=by
  obtain ⟨v,hv,hr⟩:=h.rep s sv hm
  refine ⟨v,hv,SV.rep_turn (Z:=Z) (fun i => .inl) (fun i hi => hg.block i (h.zlt i hi) id) (fun i hi => hg.block i (h.lt s i hi) id) ?_ (fun g hg => rfl) hr⟩
  intro k hk s1 x1 vh hh
  refine ⟨hh,fun hs => ?_⟩
  obtain ⟨v1,hv1,hr1⟩:=h.rep k _ hh.get
  rw [hh.tmp] at hv1
  obtain rfl:vh=v1:=by simpa using hv1
  exact ⟨F k,root_cells hs hr1,fun i hi => hg.block i (h.lt k i hi) id⟩
def retS:List TV→SV
 | [t] => .val t.sh t.x
 | ts => .tup ts
theorem VReps.app {Z:Fp} {w:World}:∀ {ts ts':List TV} {vs vs':List Value},VReps Z w ts vs (fun _ => False)→VReps Z w ts' vs' (fun _ => False)→VReps Z w (ts ++ ts') (vs ++ vs') (fun _ => False)
 | [],ts',vs,vs',h,h' => by
   obtain ⟨rfl,_⟩:=h
   exact h'
 | t :: ts,ts',vs,vs',h,h' => by
   obtain ⟨v,vs1,f1,f2,rfl,he,hd,h1,h2⟩:=h
   have e1:f1=fun _ => False:=funext fun i => propext ⟨fun hi => (he i).2 (.inl hi),False.elim⟩
   have e2:f2=fun _ => False:=funext fun i => propext ⟨fun hi => (he i).2 (.inr hi),False.elim⟩
   subst e1 e2
   exact ⟨v,vs1 ++ vs',fun _ => False,fun _ => False,rfl,he,hd,h1,VReps.app h2 h'⟩
theorem callV_ok (h:RelX Z F w0 Wr Zi N S a w) {f:Nat} {X:Operand} {vcap:List Value} {xs:Array Operand} {tys:Array TypeId} {ins outs:List TV} {b:Bool} (ho:o.op=.call { callee:=.value X,args:=xs,argTypes:=tys })
 (hev:a.eval X=.func (.func f) #[] vcap.toArray) (r1:VReps (fun i => Z i∨∃ s,F s i) w ins (xs.toList.map a.eval ++ vcap) (fun _ => False)) (r2:b=false→VReps Z w ins (xs.toList.map a.eval ++ vcap) (fun _ => False))
 (hb:(!b || (outs.all fun t => t.sh.noRo))=true) (hc:PCall P f ins outs) (hp:putS N S o.dst (retS outs)=some S'):Does P o a w (Rel w0 Wr Zi N S'):=by
 intro K Q hK
 obtain ⟨d,hd,hlt,h1,h2,rfl⟩:=putS_some hp
 obtain ⟨⟨fn,hfn,hname,hbody⟩,hcall⟩:=hc
 have hrun:(execOp a.eval o).run P w=.ok (.enter f (xs.toList.map a.eval ++ vcap).toArray) w:=by
  have:(xs.map a.eval) ++ vcap.toArray = (xs.toList.map a.eval ++ vcap).toArray:=by apply Array.toList_inj.1; simp
  have hname' : ¬ fn.name = "runtime.NumGoroutine" := by simpa using hname
  have hbody':¬ fn.body=none:=by intro e; rw [e] at hbody; cases hbody
  simp [execOp,ho,resolve,hev,Deferred.ofValue,invoke,callFunc,hfn,hname',hbody',this]
 generalize hargv:xs.toList.map a.eval ++ vcap=argv at *
 unfold Oper.wp
 rw [hrun,Oper.upon_enter]
 have key:∀ (Zc:Fp),(∀ i,Zc i→i < w.heap.size)→VReps Zc w ins argv (fun _ => False) → ((∀ i,Zc i→Z i) ∨ (outs.all fun t => t.sh.noRo)=true) →
  Calls P f argv.toArray w (fun | .returned v,w'' => K (a.put o.dst v) w'' | .panicked chain,w'' => Q (.panic chain) a w'' | .outgrown,_ => LetsOut Q):=by
  intro Zc hzc hargs hor
  refine (hcall Zc w _ hzc hargs).mono ?_
  rintro e w' ⟨vs,Fr,Zn,rfl,hzn,hvs,hfr,hg⟩
  refine hK _ _ ?_
  rw [hd]
  obtain ⟨Z',hZ',hrel,hvs',hnz⟩:∃ Z':Fp,(∀ i,Z i→Z' i)∧RelX Z' F w0 Wr Zi N S a w'∧VReps Z' w' outs vs Fr∧∀ i,Fr i→¬ Z' i:=by
   rcases hor with hsub | hno
   ·refine ⟨fun i => Z i ∨ (Zn i∧w.heap.size≤i),fun i => .inl,h.grown hg _ (fun i hi => ⟨hi.2,(hzn i hi.1).1⟩),VReps.same (Z:=Zn) (fun i hi => ?_) (fun i _ => rfl) (fun i _ => rfl) hvs,fun i hi hz => ?_⟩
    ·by_cases hlt:i < w.heap.size
     ·exact .inl (hsub i ((hzn i hi).2 hlt))
     ·exact .inr ⟨hi,by omega⟩
    ·rcases hz with hz | hz
     ·have:=h.zlt i hz; have:=(hfr i hi).1; omega
     ·exact (hfr i hi).2 hz.1
   ·refine ⟨fun i => Z i∨False,fun i => .inl,h.grown hg _ (fun i hi => hi.elim),VReps.noRo hno hvs,fun i hi hz => ?_⟩
    rcases hz with hz | hz
    ·have:=h.zlt i hz; have:=(hfr i hi).1; omega
    ·exact hz
  refine ⟨Z',_,hrel.putG (d:=d) (sv:=retS outs) (v:=RetV vs) (f:=Fr) (U:=fun _ => False) (by rw [h.tsize]; exact hlt.1) (fun hm => absurd hm hlt.2) (Grow.refl _ _) (fun i hi => hi.elim) (fun i hi => ⟨VReps.lt hvs' i hi,.inr ⟨hnz i hi,fun s _ hs => ?_,.inr (Nat.le_trans h.grow.size (hfr i hi).1)⟩⟩) ?_⟩
  ·have:=h.lt s i hs; have:=(hfr i hi).1; omega
  ·match outs,vs,hvs' with
   | [],vs,hv =>
     obtain ⟨rfl,h0⟩:=hv
     exact ⟨[],rfl,rfl,h0⟩
   | [t],vs,hv =>
     obtain ⟨v,vs',f1,f2,rfl,he,hdd,q1,rfl,q2⟩:=hv
     have:f1=Fr:=funext fun i => propext ⟨fun h => (he i).2 (.inl h),fun h => ((he i).1 h).elim id (fun h => absurd h (q2 i))⟩
     subst this
     exact q1
   | t :: u :: ts,vs,hv =>
     have hv':=hv
     obtain ⟨v,vs',f1,f2,rfl,he,hdd,q1,v2,vs2,g1,g2,rfl,_⟩:=hv
     exact ⟨_,rfl,hv'⟩
 cases b with
 | false => exact key Z h.zlt (r2 rfl) (.inl fun _ => id)
 | true =>
   refine key _ (fun i hi => ?_) r1 (.inr (by simpa using hb))
   rcases hi with hi | ⟨s,hi⟩
   ·exact h.zlt i hi
   ·exact h.lt s i hi
theorem call_ok (h:RelX Z F w0 Wr Zi N S a w) {f:Nat} {xs:Array Operand} {tys:Array TypeId} {ins outs:List TV} {b:Bool} (ho:o.op=.call { callee:=.value (.func f),args:=xs,argTypes:=tys })
 (hx:argsO T S o.type xs.toList=some (ins,b)) (hb:(!b || (outs.all fun t => t.sh.noRo))=true) (hc:PCall P f ins outs) (hp:putS N S o.dst (retS outs)=some S'):Does P o a w (Rel w0 Wr Zi N S'):=by
 obtain ⟨r1,r2⟩:=argsO_rep h hx
 exact callV_ok h (vcap:=[]) ho rfl (by simpa using r1) (by simpa using r2) hb hc hp
def capsO (T:Tbl) (S:SS):List Operand→Option (List (Nat × Path))
 | [] => some []
 | X :: r => match opd T S 0 X,capsO T S r with
   | some (.copy k p),some l => some ((k,p) :: l)
   | some (.addr k p),some l => some ((k,p) :: l)
   | _,_ => none
theorem capsO_rep (h:RelX Z F w0 Wr Zi N S a w):∀ {l:List Operand} {caps:List (Nat × Path)},capsO T S l=some caps→caps.length=l.length ∧
 ∀ (j:Nat) (u:Value) (c:Nat × Path),(l.map a.eval)[j]?=some u→caps[j]?=some c→AddrRep S w a.tmps c.1 c.2 u∨CopyRep S w a.tmps c.1 c.2 u
 | [],caps,hc => by cases hc; exact ⟨rfl,fun j u c h1 h2 => by simp at h2⟩
 | X :: r,caps,hc => by
   simp only [capsO] at hc
   split at hc
   ·rename_i k p l h1 h2
    cases hc
    obtain ⟨q1,q2⟩:=capsO_rep h h2
    refine ⟨by simp [q1],fun j u c e1 e2 => ?_⟩
    cases j with
    | zero => simp only [List.map_cons,List.getElem?_cons_zero,Option.some.injEq] at e1 e2; subst e1 e2; exact .inr (opd_rep h h1).2
    | succ j => exact q2 j u c (by simpa using e1) (by simpa using e2)
   ·rename_i k p l h1 h2
    cases hc
    obtain ⟨q1,q2⟩:=capsO_rep h h2
    refine ⟨by simp [q1],fun j u c e1 e2 => ?_⟩
    cases j with
    | zero => simp only [List.map_cons,List.getElem?_cons_zero,Option.some.injEq] at e1 e2; subst e1 e2; exact .inl (opd_rep h h1).2
    | succ j => exact q2 j u c (by simpa using e1) (by simpa using e2)
   ·cases hc
theorem makeFunc_ok (h:RelX Z F w0 Wr Zi N S a w) {f:Nat} {first captured:Array Operand} {caps:List (Nat × Path)} (ho:o.op=.makeFunc (.func f) first captured) (hf:first.toList=[]) (hc:capsO T S captured.toList=some caps)
 (hp:putS N S o.dst (.clo f caps)=some S'):Runs P o a w (Rel w0 Wr Zi N S'):=by
 obtain ⟨q1,q2⟩:=capsO_rep h hc
 have hfirst:first=#[]:=by apply Array.toList_inj.1; simpa using hf
 refine Runs.read h hp (v:=.func (.func f) #[] (captured.toList.map a.eval).toArray) ?_ ⟨fun _ => id,captured.toList.map a.eval,rfl,by simp [q1],q2⟩
 have:captured.map a.eval = (captured.toList.map a.eval).toArray:=by apply Array.toList_inj.1; simp
 simp [execOp,ho,Instr.makeFunc,hfirst,this]
theorem callClo_ok (h:RelX Z F w0 Wr Zi N S a w) {s f:Nat} {caps:List (Nat × Path)} {xs:Array Operand} {tys:Array TypeId} {ins cs outs:List TV} {b:Bool} (ho:o.op=.call { callee:=.value (.tmp s),args:=xs,argTypes:=tys })
 (hs:S.get s=some (.clo f caps)) (hcs:capsV S caps=some cs) (hx:argsO T S o.type xs.toList=some (ins,b)) (hb:(outs.all fun t => t.sh.noRo)=true) (hc:PCall P f (ins ++ cs) outs) (hp:putS N S o.dst (retS outs)=some S'):Does P o a w (Rel w0 Wr Zi N S'):=by
 obtain ⟨r1,r2⟩:=argsO_rep h hx
 obtain ⟨v,hv,_,vs,rfl,hl,hrep⟩:=h.rep s _ (SS.get_mem hs)
 exact callV_ok h (vcap:=vs) (b:=true) ho (eval_of hv) (r1.app (capsV_rep h hcs hl hrep)) (fun e => by cases e) (by simpa using hb) hc hp
theorem callFn_ok (h:RelX Z F w0 Wr Zi N S a w) {s f:Nat} {C:Sh} {x:C.den} {xs:Array Operand} {tys:Array TypeId} {ins cs outs:List TV} {b:Bool} (ho:o.op=.call { callee:=.value (.tmp s),args:=xs,argTypes:=tys })
 (hs:S.get s=some (.val (.fn f C) x)) (hn:C.noOwn=true) (hcs:unpackT C x=some cs) (hx:argsO T S o.type xs.toList=some (ins,b)) (hb:(!b || (outs.all fun t => t.sh.noRo))=true) (hc:PCall P f (ins ++ cs) outs) (hp:putS N S o.dst (retS outs)=some S'):Does P o a w (Rel w0 Wr Zi N S'):=by
 obtain ⟨r1,r2⟩:=argsO_rep h hx
 obtain ⟨v,hv,cc,⟨vs,rfl,hcr⟩,hval⟩:=h.rep s _ (SS.get_mem hs)
 have hcr:CRep Z w C x vs (fun _ => False):=CRep.ext (fun i => ⟨False.elim,fun hi => CRep.noOwn hn hcr i hi⟩) hcr
 have hv2:v=.func (.func f) #[] vs.toArray:=by
  have:[Value.func (.func f) #[] vs.toArray]=[v]:=hval
  simpa using this.symm
 subst hv2
 have hcap:=unpackT_rep hcs hcr
 have hcapF:=unpackT_rep hcs (CRep.same (Z':=fun i => Z i∨∃ s,F s i) (fun i hi => .inl hi) (fun i hi => rfl) (fun i hi => rfl) hcr)
 exact callV_ok h (vcap:=vs) (b:=b) ho (eval_of hv) (r1.app hcapF) (fun e => (r2 e).app hcap) hb hc hp
end
end Go.Vm
