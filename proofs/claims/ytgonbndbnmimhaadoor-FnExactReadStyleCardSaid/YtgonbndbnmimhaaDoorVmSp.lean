/- Regions with steps of other kinds: calls that change two arguments, calls that take a part over. -/
import Derived.Test.YtgonbndbnmimhaaDoorVmH1
set_option linter.unusedVariables false
set_option linter.unusedSimpArgs false
namespace Go.Vm
open Go
inductive Spec where
 | two (f1 f2:TV)
 | part (outs:List TV)
def partS (T:Tbl) (P:Program) (N:Fr) (S:SS) (o:Oper) (outs:List TV):SP:=match o.op,o.guard with
 | .call c,none => match c.callee with
   | .value (.func f) => match argsM T S o.type c.args.toList with
     | some (ins,some (k,q :: p,j)) => match holeS S k (q :: p) with
       | some S1 => outS N S1 o.dst (retS outs) [PCons P f ins outs]
       | none => none
     | _ => none
   | _ => none
 | _,_ => none
def specS (T:Tbl) (P:Program) (N:Fr) (S:SS) (o:Oper):Spec→SP
 | .two f1 f2 => lastM T P N S o f1 f2
 | .part outs => partS T P N S o outs
def sxS (T:Tbl) (P:Program) (N:Fr) (orc:Nat→List TV) (sp:List (Nat × Spec)) (ops:Array Oper):Sx:=fun i S => match sp.find? fun x => Nat.beq x.1 i with
 | some x => match ops[i]? with
   | some o => specS T P N S o x.2
   | none => none
 | none => sx0 T P N orc ops i S
section
variable {P:Program} {T:Tbl} {Z:Fp} {F:Nat→Fp} {w0:World} {Wr Zi:Fp} {N:Fr} {S S' S1:SS} {a:Act} {w:World} {o:Oper}
theorem partC_ok (h:RelX Z F w0 Wr Zi N S a w) {f:Nat} {xs:Array Operand} {tys:Array TypeId} {ins outs:List TV} {k j:Nat} {q:Vm.Step} {p:Path} (ho:o.op=.call { callee:=.value (.func f),args:=xs,argTypes:=tys })
 (hx:argsM T S o.type xs.toList=some (ins,some (k,q :: p,j))) (hs:holeS S k (q :: p)=some S1) (hc:PCons P f ins outs) (hp:putS N S1 o.dst (retS outs)=some S'):Does P o a w (Rel w0 Wr Zi N S'):=by
 intro K Q hK
 obtain ⟨d,hd,hlt,hrd,htd,rfl⟩:=putS_some hp
 obtain ⟨⟨fn,hfn,hname,hbody⟩,hcall⟩:=hc
 obtain ⟨X,tv,q1,q2,q3,q4,q5⟩:=argsM_some h hx
 obtain ⟨F1,f',hrep,h1,hh⟩:=hole_ok h (opd_rep h q2).2 (by simp) q3 hs
 have hargs:=q5 f' hrep
 have hev:a.eval (.func f)=.func (.func f) #[] #[]:=rfl
 have hrun:(execOp a.eval o).run P w=.ok (.enter f (xs.toList.map a.eval).toArray) w:=by
  have:(xs.map a.eval) = (xs.toList.map a.eval).toArray:=by apply Array.toList_inj.1; simp
  have hname' : ¬ fn.name = "runtime.NumGoroutine" := by simpa using hname
  have hbody':¬ fn.body=none:=by intro e; rw [e] at hbody; cases hbody
  simp [execOp,ho,resolve,hev,Deferred.ofValue,invoke,callFunc,hfn,hname',hbody',this]
 unfold Oper.wp
 rw [hrun,Oper.upon_enter]
 refine (hcall Z w _ f' h1.zlt hargs (fun i hi => (hh i hi).2.1)).mono ?_
 rintro e w' ⟨vs,Fr,Zn,rfl,hzn,hvs,hfr,hgr⟩
 refine hK _ _ ?_
 rw [hd]
 let Zx:Fp:=fun i => Zn i∧w.heap.size≤i
 have hZx:∀ i,Zn i→Z i∨Zx i:=fun i hi => by
  by_cases hlt:i < w.heap.size
  ·exact .inl ((hzn i hi).2 hlt)
  ·exact .inr ⟨hi,by omega⟩
 have h2:=h1.grownU hgr (fun i hi _ => (hh i hi).2) Zx (fun i hi => ⟨hi.2,(hzn i hi.1).1⟩)
 have hvs':VReps (fun i => Z i∨Zx i) w' outs vs Fr:=VReps.same (Z:=Zn) hZx (fun i _ => rfl) (fun i _ => rfl) hvs
 have hnz:∀ i,Fr i→¬ (Z i∨Zx i):=fun i hi hz => by
  rcases hz with hz | hz
  ·rcases (hfr i hi).1 with h' | h'
   ·exact (hh i h').2.1 hz
   ·have:=h1.zlt i hz; omega
  ·exact (hfr i hi).2 hz.1
 refine ⟨_,_,h2.putG (d:=d) (sv:=retS outs) (v:=RetV vs) (f:=Fr) (U:=fun _ => False) (by rw [h1.tsize]; exact hlt.1) (fun hm => absurd hm hlt.2) (Grow.refl _ _) (fun i hi => hi.elim) (fun i hi => ⟨VReps.lt hvs' i hi,.inr ⟨hnz i hi,fun t _ ht => ?_,?_⟩⟩) (retS_rep hvs')⟩
 ·rcases (hfr i hi).1 with h' | h'
  ·exact (hh i h').2.2.1 t ht
  ·have:=h1.lt t i ht; omega
 ·rcases (hfr i hi).1 with h' | h'
  ·exact (hh i h').2.2.2
  ·exact .inr (Nat.le_trans h1.grow.size h')
theorem partS_ok {ops:Array Oper} {outs:List TV} {c:List Prop} (h:RelX Z F w0 Wr Zi N S a w) (hl:partS T P N S o outs=some (S',c)) (hc:AllP c):DoesG P ops o a w (Rel w0 Wr Zi N S'):=by
 unfold partS at hl
 split at hl
 ·rename_i c0 hop hgd
  split at hl
  ·rename_i f hcal
   split at hl
   ·rename_i ins k q p j hx
    split at hl
    ·rename_i S1 hs
     obtain ⟨hp,rfl⟩:=outS_some hl
     obtain ⟨c1,xs,tys⟩:=c0
     simp only at hcal hx
     subst hcal
     intro K Q hK
     rw [if_pos (by simp [Region.wanted,hgd])]
     exact partC_ok h hop hx hs hc.1 hp K Q hK
    ·cases hl
   ·cases hl
  ·cases hl
 ·cases hl
end
theorem sxS_ok {T:Tbl} {P:Program} (hT:TOk P T) {w0:World} {Wr Zi:Fp} {N:Fr} {orc:Nat→List TV} {sp:List (Nat × Spec)} {ops:Array Oper}:SxOk T P w0 Wr Zi N ops (sxS T P N orc sp ops):=by
 intro i o Z F S S' c a w ho hs hc h
 unfold sxS at hs
 split at hs
 ·rename_i x hx
  rw [ho] at hs
  simp only at hs
  obtain ⟨n,x⟩:=x
  cases x with
  | two f1 f2 => exact lastM_ok ⟨_,_,h⟩ hs hc
  | part outs => exact partS_ok h hs hc
 ·exact sx0_ok hT i o Z F S S' c a w ho hs hc h
section
variable {P:Program} {T:Tbl} {w0:World} {Wr Zi:Fp} {N:Fr} {S S' S1:SS} {a:Act} {w:World}
def RetOkO (P:Program) (fn:Func) (w0:World) (Zi f0:Fp) (v0:Value) (outs:List TV) (fin:TV):Exit→Act→World→Prop :=
 bodyPost P fn fun e w' => ∃ vs f1 Fr Zn,e=.returned (RetV vs) ∧ (∀ i,Zn i→i < w'.heap.size ∧ (i < w0.heap.size→Zi i))∧VReps Zn w' outs vs Fr∧VRep Zn w' fin.sh fin.x v0 f1 ∧
  (∀ i,f1 i → (f0 i∨w0.heap.size≤i)∧¬ Zn i) ∧ (∀ i,Fr i → (f0 i∨w0.heap.size≤i)∧¬ Zn i∧¬ f1 i)∧Grow f0 w0 w'
theorem retO_ok (hT:TOk P T) {fn:Func} {Zi f0:Fp} {v0:Value} {n j:Nat} {l:List ResultVar} {outs:List TV} {fin:TV} (h:Rel w0 f0 Zi ⟨n,[j],fun _ => v0⟩ S a w) (hres:fn.results=l.toArray)
 (htk:(takeR T S l).map (fun r => (r.1,r.2.get j))=some (outs,some (.val fin.sh fin.x))) :
 RetOkO P fn w0 Zi f0 v0 outs fin .ret a w∧RetOkO P fn w0 Zi f0 v0 outs fin .normal a w:=by
 obtain ⟨Z,F,hX⟩:=h
 obtain ⟨r,hr,he⟩:=Option.map_eq_some_iff.1 htk
 obtain ⟨tvs,S1⟩:=r
 simp only [Prod.mk.injEq] at he
 obtain ⟨rfl,hg⟩:=he
 obtain ⟨F1,f,vs,hrun,hv,h1,hh,_⟩:=takeR_rep (P:=P) hT hX hr
 obtain ⟨v,hvj,hrj⟩:=h1.rep j _ (SS.get_mem hg)
 have hp:=h1.pins j (by simp)
 rw [hp] at hvj
 obtain rfl:v0=v:=by simpa using hvj
 have key:∃ v,(results fn a.tmps).run P w=.ok v w∧∃ vs f1 Fr Zn,Ending.returned v=.returned (RetV vs) ∧ (∀ i,Zn i→i < w.heap.size ∧ (i < w0.heap.size→Zi i))∧VReps Zn w tvs vs Fr∧VRep Zn w fin.sh fin.x v0 f1 ∧
  (∀ i,f1 i → (f0 i∨w0.heap.size≤i)∧¬ Zn i) ∧ (∀ i,Fr i → (f0 i∨w0.heap.size≤i)∧¬ Zn i∧¬ f1 i)∧Grow f0 w0 w :=
  ⟨_,results_runR hres hrun,_,F1 j,f,Z,rfl,fun i hi => ⟨h1.zlt i hi,h1.zin i hi⟩,hv,hrj,fun i hi => ⟨h1.wr j i hi,h1.nz j i hi⟩,fun i hi => ⟨(hh i hi).2.2.2,(hh i hi).2.1,(hh i hi).2.2.1 j⟩,h1.grow⟩
 exact ⟨⟨hX.defers,key⟩,⟨hX.defers,key⟩⟩
theorem pt_block {Z:Fp} {w:World} {t:Nat} {e:Sh} {y:e.den} {v:Value} {f:Fp} (hn:e.noOwn=true) (h:VRep Z w (.pt true t e) (some y) v f):∃ g,v=.pointer (some ⟨g,0,none⟩)∧∀ i,f i↔i=g:=by
 obtain ⟨cs,⟨p,inner,fr,rfl,hc,g,rfl,hg,hff,hfg⟩,hvo⟩:=h
 have hpv:[Value.pointer (some ⟨g,0,none⟩)]=[v]:=hvo
 obtain rfl:Value.pointer (some ⟨g,0,none⟩)=v:=by simpa using hpv
 have hfr:∀ i,¬ fr i:=fun i => CRep.noOwn hn hc i
 exact ⟨g,rfl,fun i => (hff i).trans ⟨fun h => h.elim id (fun h => absurd h (hfr i)),.inl⟩⟩
theorem pt_has {Z:Fp} {w:World} {t:Nat} {e:Sh} {y:e.den} {g:Nat} {f:Fp} (h:VRep Z w (.pt true t e) (some y) (.pointer (some ⟨g,0,none⟩)) f):f g:=by
 obtain ⟨cs,⟨p,inner,fr,rfl,hc,g',rfl,hg,hff,hfg⟩,hvo⟩:=h
 have hpv:[Value.pointer (some ⟨g',0,none⟩)]=[Value.pointer (some ⟨g,0,none⟩)]:=hvo
 obtain rfl:g'=g:=by simpa using hpv
 exact (hff g').2 (.inl rfl)
theorem vreps_only {Z:Fp} {w:World}:∀ {ts:List TV} {vs:List Value} {f:Fp} {j:Nat} {t:TV} {v:Value} {fj:Fp},VReps Z w ts vs f→ts[j]?=some t→vs[j]?=some v → (∀ (i:Nat) (u:TV),i≠j→ts[i]?=some u→u.sh.noOwn=true)→∃ fj,VRep Z w t.sh t.x v fj∧∀ i,f i↔fj i
 | [],vs,f,j,t,v,_,_,hj,_,_ => by simp at hj
 | u :: ts,vs,f,j,t,v,fj,h,hj,hv,ho => by
   obtain ⟨v1,vs',f1,f2,rfl,he,hd,h1,h2⟩:=h
   cases j with
   | zero =>
     simp only [List.getElem?_cons_zero,Option.some.injEq] at hj hv
     subst hj; subst hv
     have hall:(ts.all fun t => t.sh.noOwn)=true:=List.all_eq_true.2 fun u hu => by
      obtain ⟨i,hi,rfl⟩:=List.mem_iff_getElem.1 hu
      exact ho (i+1) _ (by omega) (by simp [hi])
     have h0:∀ i,¬ f2 i:=by
      have:∀ {ts:List TV} {vs:List Value} {f:Fp},(ts.all fun t => t.sh.noOwn)=true→VReps Z w ts vs f→∀ i,¬ f i:=by
       intro ts
       induction ts with
       | nil => intro vs f _ h; exact h.2
       | cons t ts ih =>
         intro vs f hn h i hi
         obtain ⟨v,vs',f1,f2,rfl,he,hd,⟨cs,hc,_⟩,h2⟩:=h
         simp only [List.all_cons,Bool.and_eq_true] at hn
         rcases (he i).1 hi with h' | h'
         ·exact CRep.noOwn hn.1 hc i h'
         ·exact ih hn.2 h2 i h'
      exact this hall h2
     exact ⟨f1,h1,fun i => (he i).trans ⟨fun h => h.elim id (fun h => absurd h (h0 i)),.inl⟩⟩
   | succ j =>
     obtain ⟨fj,q1,q2⟩:=vreps_only (fj:=fun _ => False) h2 (by simpa using hj) (by simpa using hv) (fun i u hi hu => ho (i+1) u (by omega) (by simpa using hu))
     have h0:∀ i,¬ f1 i:=by
      obtain ⟨cs,hc,_⟩:=h1
      exact fun i => CRep.noOwn (ho 0 u (by omega) rfl) hc i
     exact ⟨fj,q1,fun i => (he i).trans ⟨fun h => h.elim (fun h => absurd h (h0 i)) (q2 i).1,fun h => .inr ((q2 i).2 h)⟩⟩
def ptOk:Option TV→TV→Bool
 | some ⟨.pt true _ e,some _⟩,⟨.pt true _ _,some _⟩ => e.noOwn
 | _,_ => false
theorem pmutO_intro {f : Nat} {fn : Func} {c : Code} (hf : P.funcs[f]? = some fn) (hname : (fn.name == "runtime.NumGoroutine") = false) (hb : fn.body = some c) {ins outs : List TV} {j : Nat} {fin : TV} (hlen : ins.length ≤ fn.ntmps) (hj : j < ins.length)
 (ho:((List.range ins.length).all fun i => Nat.beq i j || (match ins[i]? with | some t => t.sh.noOwn | none => true))=true) (hpt:ptOk ins[j]? fin=true)
 (H:∀ (w0:World) (Zi f0:Fp) (v0:Value) (hw:∀ i,f0 i→v0=.pointer (some ⟨i,0,none⟩)) (a:Act) (w:World),Rel w0 f0 Zi ⟨fn.ntmps,[j],fun _ => v0⟩ (entryS 0 ins) a w→c.wp P (RetOkO P fn w0 Zi f0 v0 outs fin) a w):PMut P f ins outs (ins.set j fin):=by
 have ho':∀ (i:Nat) (t:TV),i≠j→ins[i]?=some t→t.sh.noOwn=true:=fun i t hij hi => by
  have:=List.all_eq_true.1 ho i (by simpa using (List.getElem?_eq_some_iff.1 hi).1)
  rw [hi] at this
  simp only [Bool.or_eq_true] at this
  rcases this with h | h
  ·exact absurd (by simpa using h) hij
  ·exact h
 refine ⟨⟨fn,hf,hname,by rw [hb]; rfl⟩,?_⟩
 intro Z w args f0 hZ hargs hf0
 have hal:=VReps.length hargs
 obtain ⟨v0,fj,hvj,hrj,hsub⟩:=vreps_nth hargs (show ins[j]?=some ins[j] from List.getElem?_eq_getElem hj)
 have hget:∀ i v,args[i]?=some v → (args.toArray ++ Array.replicate (fn.ntmps - args.toArray.size) undef)[i]?=some v:=fun i v hv => by
  rw [Array.getElem?_append_left (by simpa using (List.getElem?_eq_some_iff.1 hv).1)]
  simpa using hv
 obtain ⟨fj2,hrj2,hfeq⟩:=vreps_only (fj:=fj) hargs (show ins[j]?=some ins[j] from List.getElem?_eq_getElem hj) hvj ho'
 have hwf:∀ i,f0 i→v0=.pointer (some ⟨i,0,none⟩):=fun i hi => by
  have hpt':=hpt
  unfold ptOk at hpt'
  rw [List.getElem?_eq_getElem hj] at hpt'
  have hr2:=hrj2
  generalize ins[j]=tj at hpt' hr2
  split at hpt'
  ·rename_i t1 e1 y1 t2 e2 y2 htj
   cases htj
   obtain ⟨g,hv,hgi⟩:=pt_block hpt' hr2
   have:i=g:=(hgi i).1 ((hfeq i).1 hi)
   rw [this]; exact hv
  ·cases hpt'
 refine (calls_of_wp hf hb (H w Z f0 v0 hwf _ _ ⟨Z,fun s => if s=j then fj else fun _ => False,?_,?_,?_,hZ,fun i hi _ => hi,?_,?_,?_,?_,Grow.refl _ _,rfl,?_⟩)).mono ?_
 ·simp [hal]; omega
 ·intro k hk
  obtain rfl:k=j:=by simpa using hk
  exact hget k v0 hvj
 ·intro k v1 v2 h1 h2
  obtain ⟨j1,t1,e1,g1,rfl⟩:=mem_entry h1
  obtain ⟨j2,t2,e2,g2,rfl⟩:=mem_entry h2
  have:j1=j2:=by omega
  subst this
  rw [g1] at g2
  cases g2
  rfl
 ·intro s i hi
  by_cases e:s=j
  ·simp only [e,if_true] at hi; exact .inl (hsub i hi)
  ·simp [e] at hi
 ·intro s i hi
  by_cases e:s=j
  ·simp only [e,if_true] at hi; exact hf0 i (hsub i hi)
  ·simp [e] at hi
 ·intro s i hi
  by_cases e:s=j
  ·simp only [e,if_true] at hi; exact VReps.lt hargs i (hsub i hi)
  ·simp [e] at hi
 ·intro s t i hs ht
  by_cases e:s=j
  ·by_cases e2:t=j
   ·rw [e,e2]
   ·simp [e2] at ht
  ·simp [e] at hs
 ·intro k sv hm
  obtain ⟨q,t,rfl,hq,rfl⟩:=mem_entry hm
  simp only [Nat.zero_add]
  by_cases e:q=j
  ·subst e
   rw [List.getElem?_eq_getElem hj] at hq
   cases hq
   exact ⟨v0,hget q v0 hvj,by simp only [if_true]; exact hrj⟩
  ·obtain ⟨v,fq,hv,hr,_⟩:=vreps_nth hargs hq
   refine ⟨v,hget q v hv,?_⟩
   simp only [e,if_false]
   exact VRep.noOwn (ho' q t e hq) hr
 ·rintro e w' ⟨vs,f1,Fr,Zn,rfl,hzn,hvs,hfin,hf1,hFr,hg⟩
  have hZw:∀ i,Z i→w'.heap[i]?=w.heap[i]?:=fun i hi => hg.block i (hZ i hi) (fun hh => hf0 i hh hi)
  have hnew:∀ i,Fr i→w.heap.size≤i:=fun i hi => by
   rcases (hFr i hi).1 with h' | h'
   ·exfalso
    unfold ptOk at hpt
    rw [List.getElem?_eq_getElem hj] at hpt
    generalize ins[j]=tj at hpt hrj2
    split at hpt
    ·rename_i t1 e1 y1 t2 e2 y2 htj
     cases htj
     obtain ⟨g,rfl,hgi⟩:=pt_block hpt hrj2
     have:i=g:=(hgi i).1 ((hfeq i).1 h')
     subst this
     exact (hFr i hi).2.2 (pt_has hfin)
    ·cases hpt
   ·exact h'
  refine ⟨vs,Fr,f1,fun i => Zn i∨Z i,rfl,?_,VReps.same (Z:=Zn) (fun i => .inl) (fun i _ => rfl) (fun i _ => rfl) hvs,fun i hi => ⟨hnew i hi,?_,(hFr i hi).2.2⟩,?_,?_,hg⟩
  ·rintro i (hi | hi)
   ·exact hzn i hi
   ·exact ⟨Nat.lt_of_lt_of_le (hZ i hi) hg.size,fun _ => hi⟩
  ·rintro (hz | hz)
   ·exact (hFr i hi).2.1 hz
   ·have:=hZ i hz; have:=hnew i hi; omega
  ·exact vreps_fin (fun i => .inr) hZw hargs ho' hvj (VRep.same (Z:=Zn) (fun i => .inl) (fun i _ => rfl) (fun i _ => rfl) hfin)
  ·intro i hi
   refine ⟨(hf1 i hi).1,?_⟩
   rintro (hz | hz)
   ·exact (hf1 i hi).2 hz
   ·rcases (hf1 i hi).1 with h' | h'
    ·exact hf0 i h' hz
    ·have:=hZ i hz; omega
def RetOkM2 (P:Program) (fn:Func) (w0:World) (Zi f0:Fp) (v1 v2:Value) (outs:List TV) (fin1 fin2:TV):Exit→Act→World→Prop :=
 bodyPost P fn fun e w' => ∃ vs g1 g2 Zn,e=.returned (RetV vs) ∧ (∀ i,Zn i→i < w'.heap.size ∧ (i < w0.heap.size→Zi i))∧VReps Zn w' outs vs (fun _ => False)∧VRep Zn w' fin1.sh fin1.x v1 g1∧VRep Zn w' fin2.sh fin2.x v2 g2 ∧
  (∀ i,g1 i → (f0 i∨w0.heap.size≤i)∧¬ Zn i) ∧ (∀ i,g2 i → (f0 i∨w0.heap.size≤i)∧¬ Zn i) ∧ (∀ i,g1 i→¬ g2 i)∧Grow f0 w0 w'
theorem retM2_ok (hT:TOk P T) {fn:Func} {Zi f0:Fp} {v1 v2:Value} {n j1 j2:Nat} (hj:j1≠j2) {l:List ResultVar} {outs:List TV} {fin1 fin2:TV} (h:Rel w0 f0 Zi ⟨n,[j1,j2],fun k => if k=j1 then v1 else v2⟩ S a w) (hres:fn.results=l.toArray)
 (htk:(takeR T S l).map (fun r => (r.1,r.2.get j1,r.2.get j2))=some (outs,some (.val fin1.sh fin1.x),some (.val fin2.sh fin2.x))) (hno:(outs.all fun t => t.sh.noOwn)=true) :
 RetOkM2 P fn w0 Zi f0 v1 v2 outs fin1 fin2 .ret a w∧RetOkM2 P fn w0 Zi f0 v1 v2 outs fin1 fin2 .normal a w:=by
 obtain ⟨Z,F,hX⟩:=h
 obtain ⟨r,hr,he⟩:=Option.map_eq_some_iff.1 htk
 obtain ⟨tvs,S1⟩:=r
 simp only [Prod.mk.injEq] at he
 obtain ⟨rfl,hg1,hg2⟩:=he
 obtain ⟨F1,f,vs,hrun,hv,h1,hh,_⟩:=takeR_rep (P:=P) hT hX hr
 obtain ⟨u1,hv1,hr1⟩:=h1.rep j1 _ (SS.get_mem hg1)
 obtain ⟨u2,hv2,hr2⟩:=h1.rep j2 _ (SS.get_mem hg2)
 have hp1:=h1.pins j1 (by simp)
 have hp2:=h1.pins j2 (by simp)
 rw [hp1] at hv1
 rw [hp2] at hv2
 simp only [if_true,Option.some.injEq] at hv1
 simp only [Ne.symm hj,if_false,Option.some.injEq] at hv2
 subst hv1
 subst hv2
 have key:∃ v,(results fn a.tmps).run P w=.ok v w∧∃ vs g1 g2 Zn,Ending.returned v=.returned (RetV vs) ∧ (∀ i,Zn i→i < w.heap.size ∧ (i < w0.heap.size→Zi i))∧VReps Zn w tvs vs (fun _ => False)∧VRep Zn w fin1.sh fin1.x v1 g1∧VRep Zn w fin2.sh fin2.x v2 g2 ∧
  (∀ i,g1 i → (f0 i∨w0.heap.size≤i)∧¬ Zn i) ∧ (∀ i,g2 i → (f0 i∨w0.heap.size≤i)∧¬ Zn i) ∧ (∀ i,g1 i→¬ g2 i)∧Grow f0 w0 w :=
  ⟨_,results_runR hres hrun,_,F1 j1,F1 j2,Z,rfl,fun i hi => ⟨h1.zlt i hi,h1.zin i hi⟩,VReps.noOwn hno hv,hr1,hr2,fun i hi => ⟨h1.wr j1 i hi,h1.nz j1 i hi⟩,fun i hi => ⟨h1.wr j2 i hi,h1.nz j2 i hi⟩,fun i hi hi2 => hj (h1.apart j1 j2 i hi hi2),h1.grow⟩
 exact ⟨⟨hX.defers,key⟩,⟨hX.defers,key⟩⟩
theorem vreps_fin2 {Z Zn:Fp} {w w':World} (hZ:∀ i,Z i→Zn i) (hw:∀ i,Z i→w'.heap[i]?=w.heap[i]?):∀ {ts:List TV} {vs:List Value} {f g1 g2:Fp} {j1 j2:Nat} {fin1 fin2:TV} {v1 v2:Value},VReps Z w ts vs f → (∀ (i:Nat) (t:TV),i≠j1→i≠j2→ts[i]?=some t→t.sh.noOwn=true)→j1 < j2→vs[j1]?=some v1→vs[j2]?=some v2 →
 VRep Zn w' fin1.sh fin1.x v1 g1→VRep Zn w' fin2.sh fin2.x v2 g2 → (∀ i,g1 i→¬ g2 i)→VReps Zn w' ((ts.set j1 fin1).set j2 fin2) vs (fun i => g1 i∨g2 i)
 | [],vs,f,g1,g2,j1,j2,fin1,fin2,v1,v2,h,_,_,hv,_,_,_,_ => by obtain ⟨rfl,_⟩:=h; simp at hv
 | t :: ts,vs,f,g1,g2,j1,j2,fin1,fin2,v1,v2,h,ho,hlt,hv1,hv2,r1,r2,hd => by
   obtain ⟨v,vs',f1,f2,rfl,he,hdd,h1,h2⟩:=h
   obtain ⟨j2,rfl⟩:∃ j,j2=j+1:=⟨j2 - 1,by omega⟩
   cases j1 with
   | zero =>
     obtain rfl:v=v1:=by simpa using hv1
     have:=vreps_fin (fin:=fin2) (j:=j2) hZ hw h2 (fun i u hi hu => ho (i+1) u (by omega) (by omega) (by simpa using hu)) (by simpa using hv2) r2
     exact ⟨v,vs',g1,g2,rfl,fun i => Iff.rfl,hd,r1,this⟩
   | succ j1 =>
     have hn:=ho 0 t (by omega) (by omega) rfl
     exact vreps_cons (VRep.same hZ hw (fun i hi => hi.elim) (VRep.noOwn hn h1)) (vreps_fin2 hZ hw h2 (fun i u hi hi2 hu => ho (i+1) u (by omega) (by omega) (by simpa using hu)) (show j1 < j2 by omega) (by simpa using hv1) (by simpa using hv2) r1 r2 hd)
theorem pmut2_intro {f : Nat} {fn : Func} {c : Code} (hf : P.funcs[f]? = some fn) (hname : (fn.name == "runtime.NumGoroutine") = false) (hb : fn.body = some c) {ins outs : List TV} {j1 j2 : Nat} {fin1 fin2 : TV} (hlen : ins.length ≤ fn.ntmps) (hj : j1 < j2) (hj2 : j2 < ins.length)
 (ho:((List.range ins.length).all fun i => Nat.beq i j1 || Nat.beq i j2 || (match ins[i]? with | some t => t.sh.noOwn | none => true))=true)
 (H:∀ (w0:World) (Zi f0:Fp) (v1 v2:Value) (a:Act) (w:World),Rel w0 f0 Zi ⟨fn.ntmps,[j1,j2],fun k => if k=j1 then v1 else v2⟩ (entryS 0 ins) a w→c.wp P (RetOkM2 P fn w0 Zi f0 v1 v2 outs fin1 fin2) a w):PMut P f ins outs ((ins.set j1 fin1).set j2 fin2):=by
 have ho':∀ (i:Nat) (t:TV),i≠j1→i≠j2→ins[i]?=some t→t.sh.noOwn=true:=fun i t h1 h2 hi => by
  have:=List.all_eq_true.1 ho i (by simpa using (List.getElem?_eq_some_iff.1 hi).1)
  rw [hi] at this
  simp only [Bool.or_eq_true] at this
  rcases this with (h | h) | h
  ·exact absurd (by simpa using h) h1
  ·exact absurd (by simpa using h) h2
  ·exact h
 have hj1:j1 < ins.length:=by omega
 refine ⟨⟨fn,hf,hname,by rw [hb]; rfl⟩,?_⟩
 intro Z w args f0 hZ hargs hf0
 have hal:=VReps.length hargs
 obtain ⟨v1,v2,g1,g2,hv1,hv2,hr1,hr2,hs1,hs2,hdis⟩:=vreps_two hargs hj (show ins[j1]?=some ins[j1] from List.getElem?_eq_getElem hj1) (show ins[j2]?=some ins[j2] from List.getElem?_eq_getElem hj2)
 have hget:∀ i v,args[i]?=some v → (args.toArray ++ Array.replicate (fn.ntmps - args.toArray.size) undef)[i]?=some v:=fun i v hv => by
  rw [Array.getElem?_append_left (by simpa using (List.getElem?_eq_some_iff.1 hv).1)]
  simpa using hv
 have hF:∀ (s i:Nat),(if s=j1 then g1 else if s=j2 then g2 else (fun _ => False:Fp)) i → (s=j1∧g1 i) ∨ (s=j2∧g2 i):=fun s i hi => by
  by_cases e1:s=j1
  ·simp only [e1,if_true] at hi; exact .inl ⟨e1,hi⟩
  ·by_cases e2:s=j2
   ·simp only [e1,if_false,e2,if_true] at hi; exact .inr ⟨e2,by simpa [show ¬ j2=j1 by omega] using hi⟩
   ·simp [e1,e2] at hi
 refine (calls_of_wp hf hb (H w Z f0 v1 v2 _ _ ⟨Z,fun s => if s=j1 then g1 else if s=j2 then g2 else fun _ => False,?_,?_,?_,hZ,fun i hi _ => hi,?_,?_,?_,?_,Grow.refl _ _,rfl,?_⟩)).mono ?_
 ·simp [hal]; omega
 ·intro k hk
  simp only [List.mem_cons,List.not_mem_nil,or_false] at hk
  rcases hk with rfl | rfl
  ·simp only [if_true]; exact hget k v1 hv1
  ·simp only [show ¬ k=j1 by omega,if_false]; exact hget k v2 hv2
 ·intro k u1 u2 h1 h2
  obtain ⟨q1,t1,e1,q2,rfl⟩:=mem_entry h1
  obtain ⟨q3,t2,e2,q4,rfl⟩:=mem_entry h2
  have:q1=q3:=by omega
  subst this
  rw [q2] at q4
  cases q4
  rfl
 ·intro s i hi
  rcases hF s i hi with ⟨_,h⟩ | ⟨_,h⟩
  ·exact .inl (hs1 i h)
  ·exact .inl (hs2 i h)
 ·intro s i hi
  rcases hF s i hi with ⟨_,h⟩ | ⟨_,h⟩
  ·exact hf0 i (hs1 i h)
  ·exact hf0 i (hs2 i h)
 ·intro s i hi
  rcases hF s i hi with ⟨_,h⟩ | ⟨_,h⟩
  ·exact VReps.lt hargs i (hs1 i h)
  ·exact VReps.lt hargs i (hs2 i h)
 ·intro s t i hs ht
  rcases hF s i hs with ⟨e,h⟩ | ⟨e,h⟩ <;> rcases hF t i ht with ⟨e',h'⟩ | ⟨e',h'⟩
  ·rw [e,e']
  ·exact absurd h' (hdis i h)
  ·exact absurd h (hdis i h')
  ·rw [e,e']
 ·intro k sv hm
  obtain ⟨q,t,rfl,hq,rfl⟩:=mem_entry hm
  simp only [Nat.zero_add]
  by_cases e1:q=j1
  ·subst e1
   rw [List.getElem?_eq_getElem hj1] at hq
   cases hq
   exact ⟨v1,hget q v1 hv1,by simp only [if_true]; exact hr1⟩
  ·by_cases e2:q=j2
   ·subst e2
    rw [List.getElem?_eq_getElem hj2] at hq
    cases hq
    exact ⟨v2,hget q v2 hv2,by simp only [e1,if_false,if_true]; exact hr2⟩
   ·obtain ⟨v,fq,hv,hr,_⟩:=vreps_nth hargs hq
    refine ⟨v,hget q v hv,?_⟩
    simp only [e1,e2,if_false]
    exact VRep.noOwn (ho' q t e1 e2 hq) hr
 ·rintro e w' ⟨vs,k1,k2,Zn,rfl,hzn,hvs,hfin1,hfin2,hk1,hk2,hkd,hg⟩
  have hZw:∀ i,Z i→w'.heap[i]?=w.heap[i]?:=fun i hi => hg.block i (hZ i hi) (fun hh => hf0 i hh hi)
  refine ⟨vs,fun _ => False,fun i => k1 i∨k2 i,fun i => Zn i∨Z i,rfl,?_,VReps.same (Z:=Zn) (fun i => .inl) (fun i _ => rfl) (fun i hi => hi.elim) hvs,fun i hi => hi.elim,?_,?_,hg⟩
  ·rintro i (hi | hi)
   ·exact hzn i hi
   ·exact ⟨Nat.lt_of_lt_of_le (hZ i hi) hg.size,fun _ => hi⟩
  ·exact vreps_fin2 (fun i => .inr) hZw hargs ho' hj hv1 hv2 (VRep.same (Z:=Zn) (fun i => .inl) (fun i _ => rfl) (fun i _ => rfl) hfin1) (VRep.same (Z:=Zn) (fun i => .inl) (fun i _ => rfl) (fun i _ => rfl) hfin2) hkd
  ·intro i hi
   have h3:(f0 i∨w.heap.size≤i)∧¬ Zn i:=hi.elim (hk1 i) (hk2 i)
   refine ⟨h3.1,?_⟩
   rintro (hz | hz)
   ·exact h3.2 hz
   ·rcases h3.1 with h' | h'
    ·exact hf0 i h' hz
    ·have:=hZ i hz; omega
theorem RelX.freezeK {Z:Fp} {F:Nat→Fp} (h:RelX Z F w0 Wr Zi N S a w) {k:Nat} (hK:∀ i,F k i→w0.heap.size≤i) {s:Sh} {x:s.den} (hm:(k,SV.val s x) ∈ S):Rel w0 Wr Zi N (S.put k (.val s.ro (s.fz x))) a w:=by
 obtain ⟨v,hv,cs,hcr,hval⟩:=h.rep k _ hm
 let Z':Fp:=fun i => Z i∨F k i
 have hZ:∀ i,Z i→Z' i:=fun i => .inl
 have h':RelX Z' (fun t => if t=k then (fun _ => False) else F t) w0 Wr Zi N (S.kill k) a w:=by
  obtain ⟨_,_,_,h2,_⟩:=h.take hm
  refine ⟨h2.tsize,h2.pins,h2.uniq,?_,?_,h2.wr,?_,h2.lt,h2.apart,h2.grow,h2.defers,?_⟩
  ·rintro i (hi | hi)
   ·exact h.zlt i hi
   ·exact h.lt k i hi
  ·rintro i (hi | hi) hlt
   ·exact h.zin i hi hlt
   ·have:=hK i hi; omega
  ·intro t i hi hz
   by_cases e:t=k
   ·simp [e] at hi
   ·simp only [e,if_false] at hi
    rcases hz with hz | hz
    ·exact h.nz t i hi hz
    ·exact e (h.apart t k i hi hz)
  ·intro t sv hm'
   obtain ⟨v',hv',hr'⟩:=h2.rep t sv hm'
   refine ⟨v',hv',SV.rep_turn (Z:=Z) hZ (fun i hi => rfl) (fun i hi => rfl) ?_ (fun g hg => rfl) hr'⟩
   intro q hq s1 x1 vh hh
   refine ⟨hh,fun hs => ?_⟩
   obtain ⟨v1,hv1,hr1⟩:=h2.rep q _ hh.get
   rw [hh.tmp] at hv1
   obtain rfl:vh=v1:=by simpa using hv1
   exact ⟨_,root_cells hs hr1,fun i hi => rfl⟩
 have hlt:k < a.tmps.size:=(Array.getElem?_eq_some_iff.1 hv).1
 have hval':ValOf s.ro v cs:=by cases s <;> first | exact hval | (rename_i o t e; cases o <;> exact hval)
 have:=h'.putG (d:=k) (sv:=.val s.ro (s.fz x)) (v:=v) (f:=fun _ => False) (U:=fun _ => False) (w':=w) hlt (fun _ => hv) (Grow.refl _ _) (fun i hi => hi.elim) (fun i hi => hi.elim)
  ⟨cs,CRep.freeze hZ (fun i hi => .inr hi) hcr,hval'⟩
 rw [put_idem hv] at this
 have hkk:(S.kill k).put k (.val s.ro (s.fz x))=S.put k (.val s.ro (s.fz x)):=by
  have:(S.kill k).kill k=S.kill k:=by
   unfold SS.kill
   rw [List.filter_filter]
   congr 1
   funext e
   simp
  unfold SS.put
  rw [this]
 rw [hkk] at this
 exact ⟨Z',_,this⟩
def ptAt (S:SS) (j:Nat):Bool:=match S.get j with
 | some (.val (.pt true _ _) (some _)) => true
 | _ => false
def frzW (j:Nat):List Nat→SS→Option SS
 | [],S => some S
 | k :: r,S => if Nat.beq k j || !(ptAt S j) then none else match S.get k with
   | some (.val s x) => frzW j r (S.put k (.val s.ro (s.fz x)))
   | _ => none
def frzWS (j:Nat) (fz:List Nat) (S:SS):SS:=match frzW j fz S with
 | some S0 => S0
 | none => []
theorem frzW_ok {n j:Nat} {v0:Value} (hw:∀ i,Wr i→v0=.pointer (some ⟨i,0,none⟩)):∀ {l:List Nat} {S S':SS},Rel w0 Wr Zi ⟨n,[j],fun _ => v0⟩ S a w→frzW j l S=some S'→Rel w0 Wr Zi ⟨n,[j],fun _ => v0⟩ S' a w
 | [],S,S',h,hf => by cases hf; exact h
 | k :: r,S,S',h,hf => by
   simp only [frzW] at hf
   split at hf
   ·cases hf
   ·rename_i hc
    simp only [Bool.or_eq_true,not_or,Bool.not_eq_true,Bool.not_eq_false'] at hc
    split at hf
    ·rename_i s x hg
     obtain ⟨Z,F,hX⟩:=h
     have hkj:k≠j:=fun e => by rw [e] at hc; simp at hc
     refine frzW_ok hw (hX.freezeK (fun i hi => ?_) (SS.get_mem hg)) hf
     rcases hX.wr k i hi with h' | h'
     ·exfalso
      have hp:=hc.2
      unfold ptAt at hp
      split at hp
      ·rename_i t e y hgj
       obtain ⟨v,hv,hr⟩:=hX.rep j _ (SS.get_mem hgj)
       have hpin:=hX.pins j (by simp)
       rw [hpin] at hv
       obtain rfl:v0=v:=by simpa using hv
       have hvi:=hw i h'
       rw [hvi] at hr
       exact hkj (hX.apart k j i hi (pt_has hr))
      ·cases hp
     ·exact h'
    ·cases hf
theorem Rel.freezeW {n j:Nat} {v0:Value} (fz:List Nat) (hw:∀ i,Wr i→v0=.pointer (some ⟨i,0,none⟩)) (h:Rel w0 Wr Zi ⟨n,[j],fun _ => v0⟩ S a w) (he:(frzW j fz S).isSome=true):Rel w0 Wr Zi ⟨n,[j],fun _ => v0⟩ (frzWS j fz S) a w:=by
 unfold frzWS
 split
 ·exact frzW_ok hw h ‹_›
 ·rename_i hn; rw [hn] at he; cases he
end
end Go.Vm
