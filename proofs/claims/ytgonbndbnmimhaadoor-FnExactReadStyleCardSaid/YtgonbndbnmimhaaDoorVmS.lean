/- Regions, branches, loops; entering a function and returning. -/
import Derived.Test.YtgonbndbnmimhaaDoorVmR
set_option linter.unusedVariables false
set_option linter.unusedSimpArgs false
namespace Go.Vm
open Go
def SV.homes:SV→List Nat
 | .copy h _ => [h]
 | .addr h _ => [h]
 | .grown h _ _ => [h]
 | .clo _ caps => caps.map (·.1)
 | .cond _ _ v => v.homes
 | _ => []
theorem SV.homes_refs:∀ {v:SV} {k:Nat},v.refs k=true→k ∈ v.homes
 | .val _ _,k,h => by simp [SV.refs] at h
 | .copy h p,k,hk => by
   have:h=k:=by simpa [SV.refs] using hk
   subst this; exact List.mem_singleton.2 rfl
 | .addr h p,k,hk => by
   have:h=k:=by simpa [SV.refs] using hk
   subst this; exact List.mem_singleton.2 rfl
 | .grown h p tv,k,hk => by
   have:h=k:=by simpa [SV.refs] using hk
   subst this; exact List.mem_singleton.2 rfl
 | .clo f caps,k,hk => by
   simp only [SV.refs,List.any_eq_true,beq_iff_eq] at hk
   obtain ⟨c,hc,rfl⟩:=hk
   exact List.mem_map.2 ⟨c,hc,rfl⟩
 | .tup _,k,h => by simp [SV.refs] at h
 | .cond g b v,k,h => SV.homes_refs (v:=v) h
def SS.forget (S:SS) (l:List Nat):Option SS :=
 let S':=S.filter fun e => l.contains e.1
 if S'.all fun e => e.2.homes.all l.contains then some S' else none
def SS.freezeL (S:SS):List Nat→Option SS
 | [] => some S
 | k :: r => match S.get k with
   | some (.val s x) => SS.freezeL (S.put k (.val s.ro (s.fz x))) r
   | _ => none
def reg (T:Tbl) (P:Program) (N:Fr) (orc:Nat→List TV) (fz:List Nat) (ops:Array Oper) (l:List Nat) (S:SS):SP :=
 match S.freezeL fz with
 | some S0 => match steps T P N orc ops ops.toList S0 with
   | some (S1,c) => match S1.forget l with
     | some S2 => some (S2,c)
     | none => none
   | none => none
 | none => none
def regS (T:Tbl) (P:Program) (N:Fr) (orc:Nat→List TV) (fz:List Nat) (ops:Array Oper) (l:List Nat) (S:SS):SS:=match reg T P N orc fz ops l S with
 | some (S',_) => S'
 | none => []
def regC (T:Tbl) (P:Program) (N:Fr) (orc:Nat→List TV) (fz:List Nat) (ops:Array Oper) (l:List Nat) (S:SS):List Prop:=match reg T P N orc fz ops l S with
 | some (_,c) => c
 | none => [False]
def orcL (l:List (Nat × List TV)) (d:Nat):List TV:=match l.find? fun e => e.1 == d with
 | some e => e.2
 | none => []
section
variable {P:Program} {T:Tbl} {w0:World} {Wr Zi:Fp} {N:Fr} {S S' S1:SS} {a:Act} {w:World} {Q:Exit→Act→World→Prop}
theorem Rel.forget (h:Rel w0 Wr Zi N S a w) {l:List Nat} (hf:S.forget l=some S'):Rel w0 Wr Zi N S' a w:=by
 obtain ⟨Z,F,h⟩:=h
 unfold SS.forget at hf
 simp only at hf
 split at hf
 ·rename_i hall
  cases hf
  refine ⟨Z,F,h.sub (fun e he => (List.mem_filter.1 he).1) ?_⟩
  intro s sv hm k hk s1 x1 hm1
  refine List.mem_filter.2 ⟨hm1,?_⟩
  have:=List.all_eq_true.1 hall _ hm
  exact List.all_eq_true.1 this k (SV.homes_refs hk)
 ·cases hf
theorem Rel.freezeL (hWr:∀ i,¬ Wr i):∀ {l:List Nat} {S S':SS},Rel w0 Wr Zi N S a w→S.freezeL l=some S'→Rel w0 Wr Zi N S' a w
 | [],S,S',h,hf => by cases hf; exact h
 | k :: r,S,S',h,hf => by
   simp only [SS.freezeL] at hf
   split at hf
   ·rename_i s x hg
    obtain ⟨Z,F,hX⟩:=h
    exact Rel.freezeL hWr (hX.freeze hWr (SS.get_mem hg)) hf
   ·cases hf
theorem Rel.freezeO {l:List Nat} {S S':SS} (hWr:l=[]∨∀ i,¬ Wr i) (h:Rel w0 Wr Zi N S a w) (hf:S.freezeL l=some S'):Rel w0 Wr Zi N S' a w:=by
 rcases hWr with rfl | hWr
 ·simp only [SS.freezeL,Option.some.injEq] at hf
  subst hf; exact h
 ·exact Rel.freezeL hWr h hf
theorem wp_reg (hT:TOk P T) {id:Nat} {ops:Array Oper} {orc:Nat→List TV} {fz l:List Nat} {c:List Prop} (hWr:fz=[]∨∀ i,¬ Wr i) (h:Rel w0 Wr Zi N S a w) (hcq:regC T P N orc fz ops l S=c) (hc:AllP c)
 (hrest:∀ a' w',Rel w0 Wr Zi N (regS T P N orc fz ops l S) a' w'→Q .normal a' w'):(Code.region id ops false).wp P Q a w:=by
 rw [← hcq] at hc
 unfold regC at hc
 cases hr:reg T P N orc fz ops l S with
 | none => rw [hr] at hc; exact hc.1.elim
 | some r =>
   obtain ⟨S2,c2⟩:=r
   rw [hr] at hc
   simp only at hc
   have hS2:regS T P N orc fz ops l S=S2:=by unfold regS; rw [hr]
   rw [hS2] at hrest
   unfold reg at hr
   split at hr
   ·rename_i S0 h0
    split at hr
    ·rename_i S1 c1 h1
     split at hr
     ·rename_i S3 h3
      cases hr
      exact wp_region_list (steps_ok hT (Rel.freezeO hWr h h0) h1 hc (fun a' w' h' => hrest a' w' (h'.forget h3)))
     ·cases hr
    ·cases hr
   ·cases hr
theorem wp_reg_seq (hT:TOk P T) {id:Nat} {ops:Array Oper} {rest:Code} {orc:Nat→List TV} {fz l:List Nat} {c:List Prop} (hWr:fz=[]∨∀ i,¬ Wr i) (h:Rel w0 Wr Zi N S a w) (hcq:regC T P N orc fz ops l S=c) (hc:AllP c)
 (hrest:∀ a' w',Rel w0 Wr Zi N (regS T P N orc fz ops l S) a' w'→rest.wp P Q a' w'):((Code.region id ops false).seq rest).wp P Q a w :=
 wp_seq (wp_reg hT hWr h hcq hc hrest)
def boolAt (S:SS) (t:Nat):Option Bool:=match S.get t with
 | some (.val .bool b) => some b
 | _ => none
theorem wp_if {t:Nat} {x y:Code} {b:Bool} (h:Rel w0 Wr Zi N S a w) (hb:boolAt S t=some b) (h1:b=true→x.wp P Q a w) (h2:b=false→y.wp P Q a w):(Code.cond (.tmp t) x y).wp P Q a w:=by
 obtain ⟨Z,F,hX⟩:=h
 unfold boolAt at hb
 split at hb
 ·rename_i b' hg
  obtain rfl:b'=b:=by simpa using hb
  obtain ⟨v,hv,hr⟩:=hX.rep t _ (SS.get_mem hg)
  have e:a.eval (.tmp t)=.bool b':=by rw [eval_of hv]; exact scal_eval (Z:=Z) (w:=w) (tv:=⟨.bool,b'⟩) rfl hr
  exact wp_cond_split e h1 h2
 ·cases hb
theorem wp_mid {x y:Code} (J:Act→World→Prop) (h1:x.wp P (Exit.then J Q) a w) (h2:∀ a' w',J a' w'→y.wp P Q a' w'):(Code.seq x y).wp P Q a w :=
 wp_seq (Code.wp_mono (fun e a' w' q => by cases e <;> first | exact h2 _ _ q | exact q) h1)
theorem Rel.cast (h:Rel w0 Wr Zi N S a w) (he:S=S'):Rel w0 Wr Zi N S' a w:=he ▸ h
theorem wp_loop_fuel {V O:Type} (l:Nat→V→Option O) (St:V→SS) {c:Code} {o:O} (h0:∀ v,l 0 v≠some o)
 (hround:∀ (k:Nat) (v:V) (a:Act) (w:World),l (k+1) v=some o→Rel w0 Wr Zi N (St v) a w→c.wp P (Exit.then (fun a' w' => ∃ v',l k v'=some o∧Rel w0 Wr Zi N (St v') a' w') Q) a w)
 {k:Nat} {v:V} (hl:l k v=some o) (h:Rel w0 Wr Zi N (St v) a w):(Code.loop c).wp P Q a w:=by
 refine wp_loop_rounds k ?_
 induction k generalizing v a w with
 | zero => exact absurd hl (h0 v)
 | succ k ih =>
   rw [rounds_succ]
   refine Code.wp_mono ?_ (hround k v a w hl h)
   intro e a' w' q
   cases e with
   | normal =>
     obtain ⟨v',hl',h'⟩:=q
     exact ih hl' h'
   | _ => exact q
def entryS:Nat→List TV→SS
 | _,[] => []
 | i,t :: r => (i,.val t.sh t.x) :: entryS (i+1) r
theorem mem_entry:∀ {i:Nat} {ts:List TV} {k:Nat} {v:SV},(k,v) ∈ entryS i ts→∃ j t,k=i+j∧ts[j]?=some t∧v=.val t.sh t.x
 | i,[],k,v,h => by simp [entryS] at h
 | i,t :: r,k,v,h => by
   rcases List.mem_cons.1 h with h | h
   ·simp only [Prod.mk.injEq] at h
    exact ⟨0,t,h.1,rfl,h.2⟩
   ·obtain ⟨j,t',h1,h2,h3⟩:=mem_entry h
    exact ⟨j+1,t',by omega,by simpa using h2,h3⟩
theorem vreps_at {Z:Fp}:∀ {ts:List TV} {vs:List Value} {j:Nat} {t:TV},VReps Z w ts vs (fun _ => False)→ts[j]?=some t→∃ v,vs[j]?=some v∧VRep Z w t.sh t.x v (fun _ => False)
 | [],vs,j,t,h,hj => by simp at hj
 | u :: ts,vs,0,t,h,hj => by
   obtain ⟨v,vs',f1,f2,rfl,he,hd,h1,h2⟩:=h
   simp only [List.getElem?_cons_zero,Option.some.injEq] at hj
   subst hj
   have:f1=fun _ => False:=funext fun i => propext ⟨fun h => (he i).2 (.inl h),False.elim⟩
   subst this
   exact ⟨v,rfl,h1⟩
 | u :: ts,vs,j+1,t,h,hj => by
   obtain ⟨v,vs',f1,f2,rfl,he,hd,h1,h2⟩:=h
   have:f2=fun _ => False:=funext fun i => propext ⟨fun h => (he i).2 (.inr h),False.elim⟩
   subst this
   obtain ⟨v',q1,q2⟩:=vreps_at h2 (by simpa using hj)
   exact ⟨v',by simpa using q1,q2⟩
theorem VReps.length {Z:Fp}:∀ {ts:List TV} {vs:List Value} {f:Fp},VReps Z w ts vs f→vs.length=ts.length
 | [],vs,f,h => by obtain ⟨rfl,_⟩:=h; rfl
 | t :: ts,vs,f,h => by
   obtain ⟨v,vs',f1,f2,rfl,_,_,_,h2⟩:=h
   simp [VReps.length h2]
def RetOk (P:Program) (fn:Func) (w0:World) (Zi:Fp) (outs:List TV):Exit→Act→World→Prop :=
 bodyPost P fn fun e w' => ∃ vs Fr Zn,e=.returned (RetV vs) ∧ (∀ i,Zn i→i < w'.heap.size ∧ (i < w0.heap.size→Zi i))∧VReps Zn w' outs vs Fr ∧ (∀ i,Fr i→w0.heap.size≤i∧¬ Zn i)∧Grow (fun _ => False) w0 w'
theorem pcall_intro {f : Nat} {fn : Func} {c : Code} (hf : P.funcs[f]? = some fn) (hname : (fn.name == "runtime.NumGoroutine") = false) (hb : fn.body = some c) {ins outs : List TV} (hlen : ins.length ≤ fn.ntmps)
 (H:∀ (w0:World) (Zi:Fp) (a:Act) (w:World),Rel w0 (fun _ => False) Zi fn.ntmps (entryS 0 ins) a w→c.wp P (RetOk P fn w0 Zi outs) a w):PCall P f ins outs:=by
 refine ⟨⟨fn,hf,hname,by rw [hb]; rfl⟩,?_⟩
 intro Z w args hZ hargs
 have hal:=VReps.length hargs
 refine calls_of_wp hf hb (H w Z _ _ ⟨Z,fun _ _ => False,?_,fun k hk => absurd hk List.not_mem_nil,?_,hZ,fun i hi _ => hi,fun _ i hi => hi.elim,fun _ i hi => hi.elim,fun _ i hi => hi.elim,fun _ _ i hi => hi.elim,Grow.refl _ _,rfl,?_⟩)
 ·simp [hal]; omega
 ·intro k v1 v2 h1 h2
  obtain ⟨j1,t1,e1,g1,rfl⟩:=mem_entry h1
  obtain ⟨j2,t2,e2,g2,rfl⟩:=mem_entry h2
  have:j1=j2:=by omega
  subst this
  rw [g1] at g2
  cases g2
  rfl
 ·intro k sv hm
  obtain ⟨j,t,rfl,hj,rfl⟩:=mem_entry hm
  obtain ⟨v,hv,hr⟩:=vreps_at hargs hj
  refine ⟨v,?_,hr⟩
  have hjl:j < args.length:=(List.getElem?_eq_some_iff.1 hv).1
  simp only [Nat.zero_add]
  rw [Array.getElem?_append_left (by simpa using hjl)]
  simpa using hv
theorem results_run {fn:Func} {l:List Nat} (h:fn.results = (l.map ResultVar.tmp).toArray) (a:Act) (w:World):(results fn a.tmps).run P w=.ok (RetV ((l.map Operand.tmp).map a.eval)) w:=by
 have hm:∀ (g:ResultVar→Sem Value),(∀ t,g (.tmp t)=pure (a.tmps.getD t undef))→∀ (l:List Nat),((l.map ResultVar.tmp).mapM g).run P w=.ok ((l.map Operand.tmp).map a.eval) w:=by
  intro g hg l
  induction l with
  | nil => simp
  | cons x r ih =>
    simp only [List.map_cons,List.mapM_cons,Sem.run_bind,hg,Sem.run_pure,Result.andThen_ok,ih]
    rfl
 unfold results
 rw [h,List.mapM_toArray]
 simp only [Sem.run_bind,Sem.run_map]
 rw [hm _ (fun t => rfl)]
 simp only [Result.andThen_ok,Sem.run_pure]
 generalize (l.map Operand.tmp).map a.eval=vs
 match vs with
 | [] => rfl
 | [v] => rfl
 | u :: v :: r => simp [RetV]
theorem ret_ok {fn:Func} {Zi:Fp} {l:List Nat} {outs:List TV} (h:Rel w0 (fun _ => False) Zi N S a w) (hres:fn.results = (l.map ResultVar.tmp).toArray) (htk:(takeL T S 0 (l.map .tmp)).map (·.1)=some outs) :
 RetOk P fn w0 Zi outs .ret a w∧RetOk P fn w0 Zi outs .normal a w:=by
 obtain ⟨Z,F,hX⟩:=h
 obtain ⟨r,hr,rfl⟩:=Option.map_eq_some_iff.1 htk
 obtain ⟨tvs,S1⟩:=r
 obtain ⟨F1,f,hv,h1,hh,_⟩:=takeL_rep hX hr
 have key:∃ v,(results fn a.tmps).run P w=.ok v w∧∃ vs Fr Zn,Ending.returned v=.returned (RetV vs) ∧ (∀ i,Zn i→i < w.heap.size ∧ (i < w0.heap.size→Zi i))∧VReps Zn w tvs vs Fr ∧ (∀ i,Fr i→w0.heap.size≤i∧¬ Zn i)∧Grow (fun _ => False) w0 w :=
  ⟨_,results_run hres a w,_,f,Z,rfl,fun i hi => ⟨hX.zlt i hi,hX.zin i hi⟩,hv,fun i hi => ⟨((hh i hi).2.2.2).elim False.elim id,(hh i hi).2.1⟩,hX.grow⟩
 exact ⟨⟨hX.defers,key⟩,⟨hX.defers,key⟩⟩
end
end Go.Vm
