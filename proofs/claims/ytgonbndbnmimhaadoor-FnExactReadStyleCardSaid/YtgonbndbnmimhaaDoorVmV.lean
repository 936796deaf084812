/- Results out of cells; regions whose order is drawn. -/
import Derived.Test.YtgonbndbnmimhaaDoorVmS
import Derived.Orders
import Derived.Test.YtgonbndbnmimhaaDoorVmO
set_option linter.unusedVariables false
set_option linter.unusedSimpArgs false
namespace Go.Vm
open Go
def takeR (T:Tbl) (S:SS):List ResultVar→Option (List TV × SS)
 | [] => some ([],S)
 | .tmp k :: r => match takeO T S 0 (.tmp k) with
   | some (tv,S1) => match takeR T S1 r with
     | some (tvs,S2) => some (tv :: tvs,S2)
     | none => none
   | none => none
 | .cell k t :: r => match S.get k,T.find t with
   | some (.val (.pt true _ e) (some y)),some i => if fits i e then match takeR T (S.kill k) r with
     | some (tvs,S2) => some (⟨e,y⟩ :: tvs,S2)
     | none => none
     else none
   | _,_ => none
def resG (tmps:Array Value):ResultVar→Sem Value
 | .tmp t => pure (tmps.getD t undef)
 | .cell a t => do loadVar t (← asAddr (tmps.getD a undef))
section
variable {P:Program} {T:Tbl} {Z:Fp} {F:Nat→Fp} {w0:World} {Wr Zi:Fp} {N:Fr} {S S' S1:SS} {a:Act} {w:World} {Q:Exit→Act→World→Prop}
theorem cellG_run (hT:TOk P T) {t:Nat} {i:TI} (hi:T.find t=some i) {e:Sh} {y:e.den} {t':Nat} (hf:fits i e=true) {k:Nat} {v:Value} (hv:a.tmps[k]?=some v) {f:Fp} (hr:VRep Z w (.pt true t' e) (some y) v f) :
 ∃ u fr,(resG a.tmps (.cell k t)).run P w=.ok u w∧VRep Z w e y u fr∧∀ i,fr i→f i:=by
 obtain ⟨cs,⟨p,inner,fr,rfl,hc,g,rfl,hg,hff,_⟩,hvo⟩:=hr
 have hpv:[Value.pointer (some ⟨g,0,none⟩)]=[v]:=hvo
 obtain rfl:Value.pointer (some ⟨g,0,none⟩)=v:=by simpa using hpv
 have hlen:=CRep.length hc
 obtain ⟨u,hu,huo⟩:=load_run (P:=P) hT hi hf (cs:=inner) (ad:=⟨g,0,none⟩) (w:=w) hlen (fun j q hj => by
  have:(Addr.add ⟨g,0,none⟩ j)=⟨g,j,none⟩:=by unfold Addr.add; split <;> simp_all
  rw [this]
  simp only [World.cell?,hg]
  simpa using hj)
 refine ⟨u,fr,?_,⟨inner,hc,huo⟩,fun i hi => (hff i).2 (.inr hi)⟩
 rw [← hu]
 have hgd:a.tmps.getD k undef=.pointer (some ⟨g,0,none⟩):=by rw [Array.getD_eq_getD_getElem?,hv]; rfl
 simp only [resG,hgd,asAddr,Instr.loadAt,Instr.sureAddr,Sem.run_bind,Sem.run_pure,Result.andThen_ok]
theorem takeR_rep (hT:TOk P T):∀ {l:List ResultVar} {F:Nat→Fp} {S S1:SS} {tvs:List TV},RelX Z F w0 Wr Zi N S a w→takeR T S l=some (tvs,S1) →
 ∃ F1 f vs,(l.mapM (resG a.tmps)).run P w=.ok vs w∧VReps Z w tvs vs f∧RelX Z F1 w0 Wr Zi N S1 a w∧Held Z F1 w0 Wr w f ∧ (∀ s i,F1 s i→F s i)∧∀ i,f i → (∃ s,F s i)
 | [],F,S,S1,tvs,h,ht => by
   cases ht
   exact ⟨F,fun _ => False,[],by simp,⟨rfl,fun _ => id⟩,h,Held.none,fun _ _ => id,fun i hi => hi.elim⟩
 | .tmp k :: r,F,S,S1,tvs,h,ht => by
   simp only [takeR] at ht
   split at ht
   ·rename_i tv S2 hx
    split at ht
    ·rename_i tvs' S3 hr
     cases ht
     obtain ⟨F1,f1,hv,h1,hh1,hs1,hin1⟩:=takeO_rep h hx
     obtain ⟨F2,f2,vs,hrun,hvs,h2,hh2,hs2,hin⟩:=takeR_rep hT h1 hr
     refine ⟨F2,fun i => f1 i∨f2 i,a.eval (.tmp k) :: vs,?_,⟨a.eval (.tmp k),vs,f1,f2,rfl,fun i => Iff.rfl,fun i hi hi2 => ?_,hv,hvs⟩,h2,?_,fun s i hi => hs1 s i (hs2 s i hi),?_⟩
     ·simp only [List.mapM_cons,Sem.run_bind,hrun,resG,Sem.run_pure,Result.andThen_ok]
      rfl
     ·obtain ⟨s,hs⟩:=hin i hi2
      exact (hh1 i hi).2.2.1 s hs
     ·rintro i (hi | hi)
      ·obtain ⟨q1,q2,q3,q4⟩:=hh1 i hi
       exact ⟨q1,q2,fun s hs => q3 s (hs2 s i hs),q4⟩
      ·exact hh2 i hi
     ·rintro i (hi | hi)
      ·exact hin1 i hi
      ·obtain ⟨s,hs⟩:=hin i hi
       exact ⟨s,hs1 s i hs⟩
    ·cases ht
   ·cases ht
 | .cell k t :: r,F,S,S1,tvs,h,ht => by
   simp only [takeR] at ht
   split at ht
   ·rename_i t' e y i hg hi
    split at ht
    ·rename_i hf
     split at ht
     ·rename_i tvs' S3 hr
      cases ht
      obtain ⟨v,hv,hrep,h1,hh1⟩:=h.take (SS.get_mem hg)
      obtain ⟨u,f1,hu,hur,hsub⟩:=cellG_run (P:=P) hT hi hf hv hrep
      obtain ⟨F2,f2,vs,hrun,hvs,h2,hh2,hs2,hin⟩:=takeR_rep hT h1 hr
      have hh1':Held Z (fun t => if t=k then (fun _ => False) else F t) w0 Wr w f1:=fun i hi => hh1 i (hsub i hi)
      refine ⟨F2,fun i => f1 i∨f2 i,u :: vs,?_,⟨u,vs,f1,f2,rfl,fun i => Iff.rfl,fun i hi hi2 => ?_,hur,hvs⟩,h2,?_,fun s i hi => ?_,?_⟩
      ·simp only [List.mapM_cons,Sem.run_bind,hu,hrun,Result.andThen_ok,Sem.run_pure]
      ·obtain ⟨s,hs⟩:=hin i hi2
       exact (hh1' i hi).2.2.1 s hs
      ·rintro i (hi | hi)
       ·obtain ⟨q1,q2,q3,q4⟩:=hh1' i hi
        exact ⟨q1,q2,fun s hs => q3 s (hs2 s i hs),q4⟩
       ·exact hh2 i hi
      ·have:=hs2 s i hi
       by_cases e:s=k
       ·simp [e] at this
       ·simpa [e] using this
      ·rintro i (hi | hi)
       ·exact ⟨k,hsub i hi⟩
       ·obtain ⟨s,hs⟩:=hin i hi
        by_cases e:s=k
        ·simp [e] at hs
        ·exact ⟨s,by simpa [e] using hs⟩
     ·cases ht
    ·cases ht
   ·cases ht
theorem results_runR {fn:Func} {l:List ResultVar} (h:fn.results=l.toArray) {vs:List Value} (hrun:(l.mapM (resG a.tmps)).run P w=.ok vs w):(results fn a.tmps).run P w=.ok (RetV vs) w:=by
 have e:∀ g:ResultVar→Sem Value,(∀ x,g x=resG a.tmps x) → (do let vs ← fn.results.mapM g; pure (if h:vs.size=1 then vs[0] else Value.tuple vs):Sem Value).run P w=.ok (RetV vs) w:=by
  intro g hg
  obtain rfl:g=resG a.tmps:=funext hg
  rw [h,List.mapM_toArray]
  simp only [Sem.run_bind,Sem.run_map,hrun,Result.andThen_ok,Sem.run_pure]
  match vs with
  | [] => rfl
  | [v] => rfl
  | u :: v :: r => simp [RetV]
 exact e _ (fun x => by cases x <;> rfl)
theorem ret_okR (hT:TOk P T) {fn:Func} {Zi:Fp} {l:List ResultVar} {outs:List TV} (h:Rel w0 (fun _ => False) Zi N S a w) (hres:fn.results=l.toArray) (htk:(takeR T S l).map (·.1)=some outs) :
 RetOk P fn w0 Zi outs .ret a w∧RetOk P fn w0 Zi outs .normal a w:=by
 obtain ⟨Z,F,hX⟩:=h
 obtain ⟨r,hr,rfl⟩:=Option.map_eq_some_iff.1 htk
 obtain ⟨tvs,S1⟩:=r
 obtain ⟨F1,f,vs,hrun,hv,h1,hh,_⟩:=takeR_rep (P:=P) hT hX hr
 have key:∃ v,(results fn a.tmps).run P w=.ok v w∧∃ vs Fr Zn,Ending.returned v=.returned (RetV vs) ∧ (∀ i,Zn i→i < w.heap.size ∧ (i < w0.heap.size→Zi i))∧VReps Zn w tvs vs Fr ∧ (∀ i,Fr i→w0.heap.size≤i∧¬ Zn i)∧Grow (fun _ => False) w0 w :=
  ⟨_,results_runR hres hrun,_,f,Z,rfl,fun i hi => ⟨hX.zlt i hi,hX.zin i hi⟩,hv,fun i hi => ⟨((hh i hi).2.2.2).elim False.elim id,(hh i hi).2.1⟩,hX.grow⟩
 exact ⟨⟨hX.defers,key⟩,⟨hX.defers,key⟩⟩
def RetOkM (P:Program) (fn:Func) (w0:World) (Zi f0:Fp) (v0:Value) (outs:List TV) (fin:TV):Exit→Act→World→Prop :=
 bodyPost P fn fun e w' => ∃ vs f1 Zn,e=.returned (RetV vs) ∧ (∀ i,Zn i→i < w'.heap.size ∧ (i < w0.heap.size→Zi i))∧VReps Zn w' outs vs (fun _ => False)∧VRep Zn w' fin.sh fin.x v0 f1 ∧
  (∀ i,f1 i → (f0 i∨w0.heap.size≤i)∧¬ Zn i)∧Grow f0 w0 w'
theorem retM_ok (hT:TOk P T) {fn:Func} {Zi f0:Fp} {v0:Value} {n j:Nat} {l:List ResultVar} {outs:List TV} {fin:TV} (h:Rel w0 f0 Zi ⟨n,[j],fun _ => v0⟩ S a w) (hres:fn.results=l.toArray)
 (htk:(takeR T S l).map (fun r => (r.1,r.2.get j))=some (outs,some (.val fin.sh fin.x))) (hno:(outs.all fun t => t.sh.noOwn)=true) :
 RetOkM P fn w0 Zi f0 v0 outs fin .ret a w∧RetOkM P fn w0 Zi f0 v0 outs fin .normal a w:=by
 obtain ⟨Z,F,hX⟩:=h
 obtain ⟨r,hr,he⟩:=Option.map_eq_some_iff.1 htk
 obtain ⟨tvs,S1⟩:=r
 simp only [Prod.mk.injEq] at he
 obtain ⟨rfl,hg⟩:=he
 obtain ⟨F1,f,vs,hrun,hv,h1,hh,_⟩:=takeR_rep (P:=P) hT hX hr
 obtain ⟨v,hvj,hrj⟩:=h1.rep j _ (SS.get_mem hg)
 have hp:=h1.pins j (by simp)
 rw [hp] at hvj
 obtain rfl:v0=v:=by simpa using hvj
 have key:∃ v,(results fn a.tmps).run P w=.ok v w∧∃ vs f1 Zn,Ending.returned v=.returned (RetV vs) ∧ (∀ i,Zn i→i < w.heap.size ∧ (i < w0.heap.size→Zi i))∧VReps Zn w tvs vs (fun _ => False)∧VRep Zn w fin.sh fin.x v0 f1 ∧
  (∀ i,f1 i → (f0 i∨w0.heap.size≤i)∧¬ Zn i)∧Grow f0 w0 w :=
  ⟨_,results_runR hres hrun,_,F1 j,Z,rfl,fun i hi => ⟨h1.zlt i hi,h1.zin i hi⟩,VReps.noOwn hno hv,hrj,fun i hi => ⟨h1.wr j i hi,h1.nz j i hi⟩,h1.grow⟩
 exact ⟨⟨hX.defers,key⟩,⟨hX.defers,key⟩⟩
theorem retMS_ok (hT:TOk P T) {fn:Func} {Zi f0:Fp} {v0:Value} {n j d t:Nat} {l:List ResultVar} {outs:List TV} {fin:TV} (h:Rel w0 f0 Zi ⟨n,[j],fun _ => v0⟩ S a w) (hres:fn.results=l.toArray)
 (htk:(takeR T S l).map (fun r => (r.1,r.2.get j,r.2.get d))=some (outs,some (.copy d [.der]),some (.val (.pt true t fin.sh) (some fin.x)))) (hno:(outs.all fun t => t.sh.noOwn)=true) :
 RetOkM P fn w0 Zi f0 v0 outs fin .ret a w∧RetOkM P fn w0 Zi f0 v0 outs fin .normal a w:=by
 obtain ⟨Z,F,hX⟩:=h
 obtain ⟨r,hr,he⟩:=Option.map_eq_some_iff.1 htk
 obtain ⟨tvs,S1⟩:=r
 simp only [Prod.mk.injEq] at he
 obtain ⟨rfl,hg,hgd⟩:=he
 obtain ⟨F1,f,vs,hrun,hv,h1,hh,_⟩:=takeR_rep (P:=P) hT hX hr
 obtain ⟨v,hvj,hrj⟩:=h1.rep j _ (SS.get_mem hg)
 have hp:=h1.pins j (by simp)
 rw [hp] at hvj
 obtain rfl:v0=v:=by simpa using hvj
 obtain ⟨f',hrep,hsub⟩:=copy_rep h1 hrj.2 (s1:=fin.sh) (x1:=fin.x) (by simp [placeOf,hgd,Sh.isRoot,getAt])
 have key:∃ v,(results fn a.tmps).run P w=.ok v w∧∃ vs f1 Zn,Ending.returned v=.returned (RetV vs) ∧ (∀ i,Zn i→i < w.heap.size ∧ (i < w0.heap.size→Zi i))∧VReps Zn w tvs vs (fun _ => False)∧VRep Zn w fin.sh fin.x v0 f1 ∧
  (∀ i,f1 i → (f0 i∨w0.heap.size≤i)∧¬ Zn i)∧Grow f0 w0 w :=
  ⟨_,results_runR hres hrun,_,f',Z,rfl,fun i hi => ⟨h1.zlt i hi,h1.zin i hi⟩,VReps.noOwn hno hv,hrep,fun i hi => ⟨h1.wr d i (hsub i hi),h1.nz d i (hsub i hi)⟩,h1.grow⟩
 exact ⟨⟨hX.defers,key⟩,⟨hX.defers,key⟩⟩
theorem vreps_fin {Z Zn:Fp} {w w':World} (hZ:∀ i,Z i→Zn i) (hw:∀ i,Z i→w'.heap[i]?=w.heap[i]?):∀ {ts:List TV} {vs:List Value} {f f1:Fp} {j:Nat} {fin:TV} {v0:Value},VReps Z w ts vs f → (∀ (i:Nat) (t:TV),i≠j→ts[i]?=some t→t.sh.noOwn=true)→vs[j]?=some v0→VRep Zn w' fin.sh fin.x v0 f1 →
 VReps Zn w' (ts.set j fin) vs f1
 | [],vs,f,f1,j,fin,v0,h,_,hv,_ => by obtain ⟨rfl,_⟩:=h; simp at hv
 | t :: ts,vs,f,f1,0,fin,v0,h,ho,hv,hf => by
   obtain ⟨v,vs',g1,g2,rfl,he,hd,h1,h2⟩:=h
   obtain rfl:v=v0:=by simpa using hv
   have hall:(ts.all fun t => t.sh.noOwn)=true:=List.all_eq_true.2 fun u hu => by
    obtain ⟨i,hi,rfl⟩:=List.mem_iff_getElem.1 hu
    exact ho (i+1) _ (by omega) (by simp [hi])
   exact vreps_head hf (VReps.same hZ hw (fun i hi => hi.elim) (VReps.noOwn hall h2))
 | t :: ts,vs,f,f1,j+1,fin,v0,h,ho,hv,hf => by
   obtain ⟨v,vs',g1,g2,rfl,he,hd,h1,h2⟩:=h
   have hn:=ho 0 t (by omega) rfl
   exact vreps_cons (VRep.same hZ hw (fun i hi => hi.elim) (VRep.noOwn hn h1)) (vreps_fin hZ hw h2 (fun i u hi hu => ho (i+1) u (by omega) (by simpa using hu)) (by simpa using hv) hf)
theorem pmut_intro {f : Nat} {fn : Func} {c : Code} (hf : P.funcs[f]? = some fn) (hname : (fn.name == "runtime.NumGoroutine") = false) (hb : fn.body = some c) {ins outs : List TV} {j : Nat} {fin : TV} (hlen : ins.length ≤ fn.ntmps) (hj : j < ins.length)
 (ho:((List.range ins.length).all fun i => Nat.beq i j || (match ins[i]? with | some t => t.sh.noOwn | none => true))=true)
 (H:∀ (w0:World) (Zi f0:Fp) (v0:Value) (a:Act) (w:World),Rel w0 f0 Zi ⟨fn.ntmps,[j],fun _ => v0⟩ (entryS 0 ins) a w→c.wp P (RetOkM P fn w0 Zi f0 v0 outs fin) a w):PMut P f ins outs (ins.set j fin):=by
 have ho':∀ (i:Nat) (t:TV),i≠j→ins[i]?=some t→t.sh.noOwn=true:=fun i t hij hi => by
  have:=List.all_eq_true.1 ho i (by simpa using (List.getElem?_eq_some_iff.1 hi).1)
  rw [hi] at this
  simp only [Bool.or_eq_true] at this
  rcases this with h | h
  ·exact absurd (by simpa using h) hij
  ·exact h
 refine ⟨⟨fn,hf,hname,by rw [hb]; rfl⟩,?_⟩
 intro Z w args f0 hZ hargs hf0
 have hal:=VReps.length hargs
 obtain ⟨v0,fj,hvj,hrj,hsub⟩:=vreps_nth hargs (show ins[j]?=some ins[j] from List.getElem?_eq_getElem hj)
 have hget:∀ i v,args[i]?=some v → (args.toArray ++ Array.replicate (fn.ntmps - args.toArray.size) undef)[i]?=some v:=fun i v hv => by
  rw [Array.getElem?_append_left (by simpa using (List.getElem?_eq_some_iff.1 hv).1)]
  simpa using hv
 refine (calls_of_wp hf hb (H w Z f0 v0 _ _ ⟨Z,fun s => if s=j then fj else fun _ => False,?_,?_,?_,hZ,fun i hi _ => hi,?_,?_,?_,?_,Grow.refl _ _,rfl,?_⟩)).mono ?_
 ·simp [hal]; omega
 ·intro k hk
  obtain rfl:k=j:=by simpa using hk
  exact hget k v0 hvj
 ·intro k v1 v2 h1 h2
  obtain ⟨j1,t1,e1,g1,rfl⟩:=mem_entry h1
  obtain ⟨j2,t2,e2,g2,rfl⟩:=mem_entry h2
  have:j1=j2:=by omega
  subst this
  rw [g1] at g2
  cases g2
  rfl
 ·intro s i hi
  by_cases e:s=j
  ·simp only [e,if_true] at hi; exact .inl (hsub i hi)
  ·simp [e] at hi
 ·intro s i hi
  by_cases e:s=j
  ·simp only [e,if_true] at hi; exact hf0 i (hsub i hi)
  ·simp [e] at hi
 ·intro s i hi
  by_cases e:s=j
  ·simp only [e,if_true] at hi; exact VReps.lt hargs i (hsub i hi)
  ·simp [e] at hi
 ·intro s t i hs ht
  by_cases e:s=j
  ·by_cases e2:t=j
   ·rw [e,e2]
   ·simp [e2] at ht
  ·simp [e] at hs
 ·intro k sv hm
  obtain ⟨q,t,rfl,hq,rfl⟩:=mem_entry hm
  simp only [Nat.zero_add]
  by_cases e:q=j
  ·subst e
   rw [List.getElem?_eq_getElem hj] at hq
   cases hq
   exact ⟨v0,hget q v0 hvj,by simp only [if_true]; exact hrj⟩
  ·obtain ⟨v,fq,hv,hr,_⟩:=vreps_nth hargs hq
   refine ⟨v,hget q v hv,?_⟩
   simp only [e,if_false]
   exact VRep.noOwn (ho' q t e hq) hr
 ·rintro e w' ⟨vs,f1,Zn,rfl,hzn,hvs,hfin,hf1,hg⟩
  have hZw:∀ i,Z i→w'.heap[i]?=w.heap[i]?:=fun i hi => hg.block i (hZ i hi) (fun hh => hf0 i hh hi)
  refine ⟨vs,fun _ => False,f1,fun i => Zn i∨Z i,rfl,?_,VReps.same (Z:=Zn) (fun i => .inl) (fun i _ => rfl) (fun i hi => hi.elim) hvs,fun i hi => hi.elim,?_,?_,hg⟩
  ·rintro i (hi | hi)
   ·exact hzn i hi
   ·exact ⟨Nat.lt_of_lt_of_le (hZ i hi) hg.size,fun _ => hi⟩
  ·exact vreps_fin (fun i => .inr) hZw hargs ho' hvj (VRep.same (Z:=Zn) (fun i => .inl) (fun i _ => rfl) (fun i _ => rfl) hfin)
  ·intro i hi
   refine ⟨(hf1 i hi).1,?_⟩
   rintro (hz | hz)
   ·exact (hf1 i hi).2 hz
   ·rcases (hf1 i hi).1 with h' | h'
    ·exact hf0 i h' hz
    ·have:=hZ i hz; omega
def RetOkC (P:Program) (fn:Func) (w0:World) (Zi f0:Fp) (outs:List TV):Exit→Act→World→Prop :=
 bodyPost P fn fun e w' => ∃ vs Fr Zn,e=.returned (RetV vs) ∧ (∀ i,Zn i→i < w'.heap.size ∧ (i < w0.heap.size→Zi i))∧VReps Zn w' outs vs Fr ∧ (∀ i,Fr i → (f0 i∨w0.heap.size≤i)∧¬ Zn i)∧Grow f0 w0 w'
theorem retC_ok (hT:TOk P T) {fn:Func} {Zi f0:Fp} {l:List ResultVar} {outs:List TV} (h:Rel w0 f0 Zi N S a w) (hres:fn.results=l.toArray) (htk:(takeR T S l).map (·.1)=some outs) :
 RetOkC P fn w0 Zi f0 outs .ret a w∧RetOkC P fn w0 Zi f0 outs .normal a w:=by
 obtain ⟨Z,F,hX⟩:=h
 obtain ⟨r,hr,rfl⟩:=Option.map_eq_some_iff.1 htk
 obtain ⟨tvs,S1⟩:=r
 obtain ⟨F1,f,vs,hrun,hv,h1,hh,_⟩:=takeR_rep (P:=P) hT hX hr
 have key:∃ v,(results fn a.tmps).run P w=.ok v w∧∃ vs Fr Zn,Ending.returned v=.returned (RetV vs) ∧ (∀ i,Zn i→i < w.heap.size ∧ (i < w0.heap.size→Zi i))∧VReps Zn w tvs vs Fr ∧ (∀ i,Fr i → (f0 i∨w0.heap.size≤i)∧¬ Zn i)∧Grow f0 w0 w :=
  ⟨_,results_runR hres hrun,_,f,Z,rfl,fun i hi => ⟨hX.zlt i hi,hX.zin i hi⟩,hv,fun i hi => ⟨(hh i hi).2.2.2,(hh i hi).2.1⟩,hX.grow⟩
 exact ⟨⟨hX.defers,key⟩,⟨hX.defers,key⟩⟩
theorem pcons_intro {f : Nat} {fn : Func} {c : Code} (hf : P.funcs[f]? = some fn) (hname : (fn.name == "runtime.NumGoroutine") = false) (hb : fn.body = some c) {ins outs : List TV} {j : Nat} (hlen : ins.length ≤ fn.ntmps) (hj : j < ins.length)
 (ho:((List.range ins.length).all fun i => Nat.beq i j || (match ins[i]? with | some t => t.sh.noOwn | none => true))=true)
 (H:∀ (w0:World) (Zi f0:Fp) (a:Act) (w:World),Rel w0 f0 Zi fn.ntmps (entryS 0 ins) a w→c.wp P (RetOkC P fn w0 Zi f0 outs) a w):PCons P f ins outs:=by
 have ho':∀ (i:Nat) (t:TV),i≠j→ins[i]?=some t→t.sh.noOwn=true:=fun i t hij hi => by
  have:=List.all_eq_true.1 ho i (by simpa using (List.getElem?_eq_some_iff.1 hi).1)
  rw [hi] at this
  simp only [Bool.or_eq_true] at this
  rcases this with h | h
  ·exact absurd (by simpa using h) hij
  ·exact h
 refine ⟨⟨fn,hf,hname,by rw [hb]; rfl⟩,?_⟩
 intro Z w args f0 hZ hargs hf0
 have hal:=VReps.length hargs
 obtain ⟨v0,fj,hvj,hrj,hsub⟩:=vreps_nth hargs (show ins[j]?=some ins[j] from List.getElem?_eq_getElem hj)
 have hget:∀ i v,args[i]?=some v → (args.toArray ++ Array.replicate (fn.ntmps - args.toArray.size) undef)[i]?=some v:=fun i v hv => by
  rw [Array.getElem?_append_left (by simpa using (List.getElem?_eq_some_iff.1 hv).1)]
  simpa using hv
 refine calls_of_wp hf hb (H w Z f0 _ _ ⟨Z,fun s => if s=j then fj else fun _ => False,?_,fun k hk => absurd hk List.not_mem_nil,?_,hZ,fun i hi _ => hi,?_,?_,?_,?_,Grow.refl _ _,rfl,?_⟩)
 ·simp [hal]; omega
 ·intro k v1 v2 h1 h2
  obtain ⟨j1,t1,e1,g1,rfl⟩:=mem_entry h1
  obtain ⟨j2,t2,e2,g2,rfl⟩:=mem_entry h2
  have:j1=j2:=by omega
  subst this
  rw [g1] at g2
  cases g2
  rfl
 ·intro s i hi
  by_cases e:s=j
  ·simp only [e,if_true] at hi; exact .inl (hsub i hi)
  ·simp [e] at hi
 ·intro s i hi
  by_cases e:s=j
  ·simp only [e,if_true] at hi; exact hf0 i (hsub i hi)
  ·simp [e] at hi
 ·intro s i hi
  by_cases e:s=j
  ·simp only [e,if_true] at hi; exact VReps.lt hargs i (hsub i hi)
  ·simp [e] at hi
 ·intro s t i hs ht
  by_cases e:s=j
  ·by_cases e2:t=j
   ·rw [e,e2]
   ·simp [e2] at ht
  ·simp [e] at hs
 ·intro k sv hm
  obtain ⟨q,t,rfl,hq,rfl⟩:=mem_entry hm
  simp only [Nat.zero_add]
  by_cases e:q=j
  ·subst e
   rw [List.getElem?_eq_getElem hj] at hq
   cases hq
   exact ⟨v0,hget q v0 hvj,by simp only [if_true]; exact hrj⟩
  ·obtain ⟨v,fq,hv,hr,_⟩:=vreps_nth hargs hq
   refine ⟨v,hget q v hv,?_⟩
   simp only [e,if_false]
   exact VRep.noOwn (ho' q t e hq) hr
def insC (i:Nat) (c:List Prop):List (Nat × List Prop)→List (Nat × List Prop)
 | [] => [(i,c)]
 | (j,d) :: r => if i < j then (i,c) :: (j,d) :: r else (j,d) :: insC i c r
def flatC:List (Nat × List Prop)→List Prop
 | [] => []
 | (_,c) :: r => c ++ flatC r
theorem AllP.append:∀ {l r:List Prop},AllP l→AllP r→AllP (l ++ r)
 | [],r,_,h => h
 | p :: l,r,h1,h2 => ⟨h1.1,AllP.append h1.2 h2⟩
theorem insC_all {i:Nat} {c:List Prop}:∀ {C:List (Nat × List Prop)},AllP (flatC (insC i c C))→AllP c∧AllP (flatC C)
 | [],h => by simp only [insC,flatC] at h; exact ⟨h.left,trivial⟩
 | (j,d) :: r,h => by
   simp only [insC] at h
   split at h
   ·simp only [flatC] at h; exact ⟨h.left,h.right⟩
   ·simp only [flatC] at h ⊢
    obtain ⟨h1,h2⟩:=insC_all (C:=r) h.right
    exact ⟨h1,h.left.append h2⟩
def ordG (T:Tbl) (P:Program) (N:Fr) (orc:Nat→List TV) (md:Region.Mode) (ops:Array Oper):Nat→Array Bool→SS→List (Nat × List Prop)→List SP
 | 0,listed,S,C => match Region.ready md ops listed with
   | [] => [some (S,flatC C)]
   | _ => [none]
 | fuel+1,listed,S,C => match Region.ready md ops listed with
   | [] => [some (S,flatC C)]
   | rs => rs.flatMap fun i => match ops[i]? with
     | none => [none]
     | some o => match stepG T P N orc S ops o with
       | some (S1,c1) => ordG T P N orc md ops fuel (listed.setIfInBounds i true) S1 (insC i c1 C)
       | none => [none]
def modesOf (ops:Array Oper):List Region.Mode:=if Region.departs ops then [.any,.text,.gc] else [.any]
def ordL (T:Tbl) (P:Program) (N:Fr) (orc:Nat→List TV) (fz:List Nat) (ops:Array Oper) (S:SS):List SP :=
 match S.freezeL fz with
 | some S0 => (modesOf ops).flatMap fun md => ordG T P N orc md ops ops.size (Array.replicate ops.size false) S0 []
 | none => []
def ordT (T:Tbl) (P:Program) (N:Fr) (orc:Nat→List TV) (fz:List Nat) (ops:Array Oper) (S:SS):SP :=
 match S.freezeL fz with
 | some S0 => steps T P N orc ops ops.toList S0
 | none => none
theorem Rel.drew (h:Rel w0 Wr Zi N S a w):Rel w0 Wr Zi N S a { w with drawn:=w.drawn+1 }:=by
 obtain ⟨Z,F,h⟩:=h
 exact ⟨_,_,h.grown (w':={ w with drawn:=w.drawn+1 }) ⟨rfl,rfl,rfl,Nat.le_refl _,fun _ _ _ => rfl⟩ (fun _ => False) (fun i hi => hi.elim)⟩
end
end Go.Vm
