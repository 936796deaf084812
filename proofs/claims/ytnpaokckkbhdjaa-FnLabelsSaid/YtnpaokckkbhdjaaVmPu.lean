/- A row appended to a row of rows, its slot kept as a copy of the new last element; a loop whose first round is walked alone. -/
import Derived.Test.YtnpaokckkbhdjaaVmSr
import Derived.LoopN
set_option linter.unusedVariables false
set_option linter.unusedSimpArgs false
namespace Go.Vm
open Go
section
variable {P:Program} {T:Tbl} {Z:Fp} {F:Nat→Fp} {w0:World} {Wr Zi:Fp} {N:Fr} {S S' S1:SS} {a:Act} {w:World} {Q:Exit→Act→World→Prop}
theorem wp_peel {c:Code} (n:Nat) (h:c.wp P (Exit.then (Code.rounds P c Q n) Q) a w):(Code.loop c).wp P Q a w:=wp_loop_rounds (n+1) h
theorem rounds_fuel {V O:Type} (l:Nat→V→Option O) (St:V→SS) {c:Code} {o:O} (h0:∀ v,l 0 v≠some o)
 (hround:∀ (k:Nat) (v:V) (a:Act) (w:World),l (k+1) v=some o→Rel w0 Wr Zi N (St v) a w→c.wp P (Exit.then (fun a' w' => ∃ v',l k v'=some o∧Rel w0 Wr Zi N (St v') a' w') Q) a w)
 {k:Nat} {v:V} (hl:l k v=some o) (h:Rel w0 Wr Zi N (St v) a w):Code.rounds P c Q k a w:=by
 induction k generalizing v a w with
 | zero => exact absurd hl (h0 v)
 | succ k ih =>
   rw [rounds_succ]
   refine Code.wp_mono ?_ (hround k v a w hl h)
   intro e a' w' q
   cases e with
   | normal =>
     obtain ⟨v',hl',h'⟩:=q
     exact ih hl' h'
   | _ => exact q
def pushB (P:Program) (t te by_:Nat):Bool:=(match P.underlying t with | some (.slice e) => Nat.beq e te | _ => false) && (match P.info? te with
 | some i => match i.zero with
   | some z => Nat.beq z.cells.size 1 && Nat.beq i.size 1 && Nat.beq i.bytes by_ && Nat.blt 0 by_
   | none => false
 | none => false)
theorem append_one {t te:Nat} {e:Sh} {info:TypeInfo} {z:Value} (hd:P.underlying t=some (.slice te)) (hinfo:P.info? te=some info) (hz:info.zero=some z) (hsz:info.size=e.size) (hzs:z.cells.size=e.size) (he:e.size=1) (hbp:0 < info.bytes)
 {xs:List e.den} {y:e.den} {vx vy:Value} {b:Nat} {f fr:Fp} (hx:CRep Z w (.sl true te e) xs [vx] f) (hy:CRep Z w e y [vy] fr) (hcell:w.cell? ⟨b,0,none⟩=some vy) (hdis:∀ i,fr i→¬ f i) (hlt:∀ i,fr i→i < w.heap.size) (hZ:∀ i,Z i→¬ f i) (hZs:∀ i,Z i→i < w.heap.size) (hb:(xs.length+1)*info.bytes≤140737488355328) (ty:Nat) :
 ∃ v' w' f',(Builtin.append_ #[t,t] ty #[vx,.slice (some ⟨b,0,none⟩) 1 1]).run P w=.ok v' w'∧CRep Z w' (.sl true te e) (xs ++ [y]) [v'] f'∧Grow (fun i => vx.ownBlock=some i) w w' ∧
   (∀ i,f' i→i < w'.heap.size ∧ (w.heap.size≤i∨f i∨fr i))∧∃ g cap,v'=.slice (some ⟨g,0,none⟩) (xs.length+1) cap∧w'.cell? ⟨g,xs.length,none⟩=some vy:=by
 have hlt0:=CRep.lt hx
 obtain ⟨v',inner,fx,hvv,hrr,ho,hfe,hfd⟩:=hx
 obtain rfl:vx=v':=by simpa using hvv
 have hry:RRep (CRep Z w e) [y] [vy] fr:=⟨[vy],[],fr,fun _ => False,rfl,fun i => by simp,fun i _ h => h,hy,rfl,fun i h => h⟩
 have hn:xs.length+1≤140737488355328:=Nat.le_trans (Nat.le_mul_of_pos_right _ hbp) hb
 obtain ⟨v1,w1,hr,hown,hg,_,hat⟩:=run_append_own_at (P:=P) w 0 t ty te info z e.size info.bytes hd hinfo hz hsz rfl hzs (by omega) vx xs.length inner ho ⟨b,0,none⟩ 1 1 [vy] (by rw [he]; rfl)
  (fun j u hu => by
   have hj:=(List.getElem?_eq_some_iff.1 hu).1
   have:j=0:=by simpa using hj
   subst this
   have:u=vy:=by simpa using hu.symm
   subst this
   simpa [Addr.add] using hcell)
  (RRep.one (fun x cs f h => CRep.one h) hry) (by unfold maxLen; omega) hb (Nat.zero_le _)
 have hsame:∀ i,i < w.heap.size→vx.ownBlock≠some i→w1.heap[i]?=w.heap[i]?:=fun i hi hne => hg.block i hi (fun e => hne e.symm)
 have hfxv:∀ i,fx i→vx.ownBlock≠some i:=fun i hi e => hfd i e hi
 have hfrv:∀ i,fr i→vx.ownBlock≠some i:=fun i hi e => hdis i hi ((hfe i).2 (.inl e))
 have hzv:∀ i,Z i→vx.ownBlock≠some i:=fun i hi e => hZ i hi ((hfe i).2 (.inl e))
 have hx1:RRep (CRep Z w1 e) xs inner fx:=RRep.imp (P:=fun i => i < w.heap.size∧vx.ownBlock≠some i) (fun i hi => ⟨hlt0 i ((hfe i).2 (.inr hi)),hfxv i hi⟩) (fun x cs f hP hx => CRep.same (fun _ => id) (fun i hi => hsame i (hZs i hi) (hzv i hi)) (fun i hi => hsame i (hP i hi).1 (hP i hi).2) hx) hrr
 have hy1:RRep (CRep Z w1 e) [y] [vy] fr:=RRep.imp (P:=fun i => i < w.heap.size∧vx.ownBlock≠some i) (fun i hi => ⟨hlt i hi,hfrv i hi⟩) (fun x cs f hP hx => CRep.same (fun _ => id) (fun i hi => hsame i (hZs i hi) (hzv i hi)) (fun i hi => hsame i (hP i hi).1 (hP i hi).2) hx) hry
 have hxy:=RRep.append hx1 hy1 (fun i hi hi2 => hdis i hi2 ((hfe i).2 (.inr hi)))
 have hvn:∀ i,v1.ownBlock=some i→¬ (fx i∨fr i):=by
  intro i hi hor
  rcases hat with hat | hat
  ·rw [hat] at hi
   exact hor.elim (fun h => hfd i hi h) (fun h => hfrv i h hi)
  ·rw [hat] at hi
   obtain rfl:w.heap.size=i:=by simpa using hi
   exact hor.elim (fun h => Nat.lt_irrefl _ (hlt0 _ ((hfe _).2 (.inr h)))) (fun h => Nat.lt_irrefl _ (hlt _ h))
 refine ⟨v1,w1,fun i => v1.ownBlock=some i ∨ (fx i∨fr i),hr,⟨v1,inner ++ [vy],_,rfl,hxy,by simpa using hown,fun i => Iff.rfl,hvn⟩,⟨hg.os,hg.tape,hg.output,hg.size,fun i hi hne => hsame i hi hne⟩,?_,?_⟩
 ·rintro i (hi | hi | hi)
  ·refine ⟨owns_lt hown i hi,?_⟩
   rcases hat with hat | hat
   ·rw [hat] at hi; exact .inr (.inl ((hfe i).2 (.inl hi)))
   ·rw [hat] at hi; exact .inl (Nat.le_of_eq (by simpa using hi))
  ·exact ⟨Nat.lt_of_lt_of_le (hlt0 i ((hfe i).2 (.inr hi))) hg.size,.inr (.inl ((hfe i).2 (.inr hi)))⟩
  ·exact ⟨Nat.lt_of_lt_of_le (hlt i hi) hg.size,.inr (.inr hi)⟩
 ·have hil:=ho.1
  rw [he,Nat.mul_one] at hil
  rcases hown.2 with ⟨_,h0⟩ | ⟨g,cap,cur,rfl,_,hgc,_,_,hcur⟩
  ·omega
  ·refine ⟨g,cap,rfl,?_⟩
   have h1:cur.toList[xs.length]?=some vy:=by
    have h2:=congrArg (fun l:List Value => l[xs.length]?) hcur.2
    simp only [he,Nat.mul_one] at h2
    rw [List.getElem?_take_of_lt (by omega),List.getElem?_append_right (by omega),hil] at h2
    simpa using h2
   rw [Array.getElem?_toList] at h1
   simp [World.cell?,hgc,h1]
theorem RelX.any2 (h:RelX Z F w0 Wr Zi N S a w) {d:Nat} (v:Value) (hd:d < N.n) (hk:d ∉ N.keep):∃ F',RelX Z F' w0 Wr Zi N (S.put d anyS) (a.put (some d) v) w∧∀ s i,F' s i→F s i :=
 ⟨_,h.putR (d:=d) (sv:=anyS) (v:=v) (by rw [h.tsize]; exact hd) (fun hm => absurd hm hk) ⟨[.bool true],⟨⟨_,rfl,rfl⟩,fun _ => id⟩,trivial⟩ rfl rfl,fun s i hi => by
  by_cases e:s=d
  ·simp [e] at hi
  ·simpa [e] using hi⟩
def pushS (S:SS) (p q t te:Nat) (e:Sh) (xs:List e.den) (y:e.den) (d0 d1 d2 d3:Nat):SS:=((((((S.kill p).kill q).put d0 anyS).put d1 anyS).put d2 anyS).put d3 anyS).put p (.val (.sl true te e) (List.append xs [y])) |>.put q (.copy p [.idx xs.length])
def rowSh:Sh→Bool
 | .sl true _ _ => true
 | _ => false
def pushOk (N:Fr) (p q:Nat) (ds:List Nat):Bool:=(Nat.blt p N.n && Nat.blt q N.n && !(Nat.beq p q) && !(N.keep.any (Nat.beq p)) && !(N.keep.any (Nat.beq q))) && (ds.all fun d => Nat.blt d N.n && !(N.keep.any (Nat.beq d)) && !(Nat.beq d p) && !(Nat.beq d q))
theorem wp_push {rid:Nat} {ops:Array Oper} {o0 o1 o2 o3 o4:Oper} {t te p q d0 d1 d2 d3 by_:Nat} {e:Sh} {xs:List e.den} {y:e.den} (h:Rel w0 Wr Zi N S a w) (hops:ops.toList=[o0,o1,o2,o3,o4])
 (e0:o0.op=.move (.tmp p)) (g0:o0.dst=some d0) (u0:o0.guard=none) (e1:o1.op=.move (.tmp q)) (g1:o1.dst=some d1) (u1:o1.guard=none)
 (e2:o2.op=.buildSlice t 1 #[(0,.tmp d1)]) (g2:o2.dst=some d2) (u2:o2.guard=none) (e3:o3.op=.call { callee:=.builtin .append,args:=#[.tmp d0,.tmp d2],argTypes:=#[t,t] }) (g3:o3.dst=some d3) (u3:o3.guard=none)
 (e4:o4.op=.assign (.tmp d3)) (g4:o4.dst=some p) (u4:o4.guard=none) (hok:pushOk N p q [d0,d1,d2,d3]=true) (hdd:(!(Nat.beq d0 d1) && !(Nat.beq d0 d2) && !(Nat.beq d1 d2) && !(Nat.beq d0 d3) && !(Nat.beq d2 d3))=true)
 (hp:S.get p=some (.val (.sl true te e) xs)) (hq:S.get q=some (.val e y)) (he:rowSh e=true) (hB:pushB P t te by_=true) (hlen:(List.length xs+1)*by_≤140737488355328)
 (hQ:∀ a' w',Rel w0 Wr Zi N (pushS S p q t te e xs y d0 d1 d2 d3) a' w'→Q .normal a' w'):(Code.region rid ops false).wp P Q a w:=by
 obtain ⟨Z,F,hX⟩:=h
 simp only [pushOk,List.all_cons,List.all_nil,Bool.and_eq_true,Bool.and_true] at hok
 have nk:∀ d,(!(N.keep.any (Nat.beq d)))=true→d ∉ N.keep:=fun d hd hm => by
  have:N.keep.any (Nat.beq d)=true:=List.any_eq_true.2 ⟨d,hm,by simp⟩
  rw [this] at hd; cases hd
 obtain ⟨⟨⟨⟨⟨bp,bq⟩,hpq⟩,kp⟩,kq⟩,⟨⟨⟨b0,k0⟩,n0p⟩,n0q⟩,⟨⟨⟨b1,k1⟩,n1p⟩,n1q⟩,⟨⟨⟨b2,k2⟩,n2p⟩,n2q⟩,⟨⟨⟨b3,k3⟩,n3p⟩,n3q⟩⟩:=hok
 have lt:=fun {x:Nat} (h:Nat.blt x N.n=true) => (Nat.blt_eq.mp h:x < N.n)
 simp only [Bool.and_eq_true] at hdd
 obtain ⟨⟨⟨⟨hd01,hd02⟩,hd12⟩,hd03⟩,hd23⟩:=hdd
 have hpq:=beq_ne hpq
 have n0p:=beq_ne n0p
 have n0q:=beq_ne n0q
 have n1p:=beq_ne n1p
 have n1q:=beq_ne n1q
 have n2p:=beq_ne n2p
 have n2q:=beq_ne n2q
 have n3p:=beq_ne n3p
 have n3q:=beq_ne n3q
 have n01:=beq_ne hd01
 have n02:=beq_ne hd02
 have n12:=beq_ne hd12
 have n03:=beq_ne hd03
 have n23:=beq_ne hd23
 obtain ⟨te2,e2',rfl⟩:∃ te2 e2,e=.sl true te2 e2:=by
  unfold rowSh at he
  split at he
  ·exact ⟨_,_,rfl⟩
  ·cases he
 obtain ⟨vo,hvo,ro,X1,hh1⟩:=hX.take (SS.get_mem hp)
 have hq1:(q,SV.val (.sl true te2 e2') y) ∈ S.kill p:=SS.mem_kill.2 ⟨SS.get_mem hq,fun h => hpq h.symm,rfl,rfl⟩
 obtain ⟨vq,hvq,rq,X2,hh2⟩:=X1.take hq1
 obtain ⟨cso,hco,hvalo⟩:=ro
 obtain rfl:cso=[vo]:=hvalo
 obtain ⟨csq,hcq,hvalq⟩:=rq
 obtain rfl:csq=[vq]:=hvalq
 simp only [show (q=p)=False from by simpa using fun h => hpq h.symm,if_false] at hcq hh2
 obtain ⟨info,z,hd,hinfo,hz,hzs,hsz,hby,hbp⟩:∃ info z,P.underlying t=some (.slice te)∧P.info? te=some info∧info.zero=some z∧z.cells.size=1∧info.size=1∧info.bytes=by_∧0 < by_:=by
  unfold pushB at hB
  rw [Bool.and_eq_true] at hB
  obtain ⟨hB1,hB2⟩:=hB
  split at hB1
  ·rename_i e0 hd
   have:=Nat.eq_of_beq_eq_true hB1
   subst this
   split at hB2
   ·rename_i i hi
    split at hB2
    ·rename_i z hz
     simp only [Bool.and_eq_true] at hB2
     exact ⟨i,z,hd,hi,hz,Nat.eq_of_beq_eq_true hB2.1.1.1,Nat.eq_of_beq_eq_true hB2.1.1.2,Nat.eq_of_beq_eq_true hB2.1.2,Nat.blt_eq.mp hB2.2⟩
    ·cases hB2
   ·cases hB2
  ·cases hB1
 have hvc:vq.cells=#[vq]:=by
  obtain ⟨v1,_,_,hv1,_,ho,_⟩:=hcq
  obtain rfl:vq=v1:=by simpa using hv1
  rcases ho.2 with ⟨rfl,_⟩ | ⟨g,cap,cur,rfl,_⟩ <;> rfl
 have hfill:Instr.fill (fun i => some (i*info.size,info.size)) (madeCells z.cells (1*info.size)) (#[(0,vq)]:Array (Nat × Value)).toList=some #[vq]:=by
  have:=fill_lits info.size [vq] 0 [] (madeCells z.cells (1*info.size)).toList (by simp) (by simp [madeCells]) (fun v hv => by
   have:v=vq:=by simpa using hv
   rw [this,hvc,hsz]; rfl)
  simpa [hvc] using this
 have hrun2:(Instr.buildSlice t 1 #[(0,vq)]).run P w=.ok (.slice (some ⟨w.heap.size,0,none⟩) 1 1) (w.alloc (.cells #[vq] te)):=buildSlice_run hd hinfo hz (by rw [hsz]; decide) (by rw [hsz]; decide) #[(0,vq)] #[vq] hfill w
 have hg1:=Grow.alloc w (.cells #[vq] te)
 have hsame:∀ i,i < w.heap.size → (w.alloc (.cells #[vq] te)).heap[i]?=w.heap[i]?:=alloc_old w _
 have hnew:=alloc_new w (.cells #[vq] te)
 have hs1:=hg1.size
 have hlo:=CRep.lt hco
 have hlq:=CRep.lt hcq
 have hco1:=CRep.same (fun _ => id) (fun i hi => hsame i (hX.zlt i hi)) (fun i hi => hsame i (hlo i hi)) hco
 have hcq1:=CRep.same (fun _ => id) (fun i hi => hsame i (hX.zlt i hi)) (fun i hi => hsame i (hlq i hi)) hcq
 obtain ⟨v',w2,f',hrun3,hcr,hg2,hf',g,cap,hv',hcell⟩:=append_one (P:=P) (e:=.sl true te2 e2') hd hinfo hz hsz hzs rfl (by omega) hco1 hcq1 (b:=w.heap.size) (by unfold World.cell?; simp only; rw [hnew]; rfl) (fun i hi hi' => by
  have:=(hh1 i hi').2.2.1 q
  simp only [show (q=p)=False from by simpa using fun h => hpq h.symm,if_false] at this
  exact this hi) (fun i hi => Nat.lt_of_lt_of_le (hlq i hi) hs1) (fun i hi hi' => (hh1 i hi').2.1 hi) (fun i hi => Nat.lt_of_lt_of_le (hX.zlt i hi) hs1) (by rw [hby]; exact hlen) o3.type
 have hgg:Grow (fun i => vo.ownBlock=some i) w w2:=(⟨hg1.os,hg1.tape,hg1.output,hg1.size,fun i hi _ => hg1.block i hi id⟩:Grow (fun i => vo.ownBlock=some i) w (w.alloc (.cells #[vq] te))).step hg2 (fun i hi => .inl hi)
 have hoB:∀ i,vo.ownBlock=some i→F p i:=fun i hi => by
  obtain ⟨_,_,_,hob⟩:=own_src hco
  exact (hob i hi).1
 have X3:=X2.grownU hgg (fun i hi _ => by
  have h1:=hh1 i (hoB i hi)
  refine ⟨h1.2.1,fun s => ?_,h1.2.2.2⟩
  have h2:=h1.2.2.1 s
  by_cases hs:s=q
  ·simp [hs]
  ·simpa [hs] using h2) (fun _ => False) (fun i hi => hi.elim)
 rw [show (fun i => Z i∨False)=Z from funext fun i => by simp] at X3
 have hts:=hX.tsize
 have l0:d0 < a.tmps.size:=by rw [hts]; exact lt b0
 have l1:d1 < a.tmps.size:=by rw [hts]; exact lt b1
 have l2:d2 < a.tmps.size:=by rw [hts]; exact lt b2
 have l3:d3 < a.tmps.size:=by rw [hts]; exact lt b3
 have lp:p < a.tmps.size:=by rw [hts]; exact lt bp
 refine wp_region_list ?_
 rw [hops]
 refine wpList_step fun K hK => ?_
 rw [if_pos (by simp [Region.wanted,u0])]
 unfold Oper.wp
 have hr0:(execOp a.eval o0).run P w=.ok (.value vo) w:=by simp [execOp,e0,eval_of hvo]
 rw [hr0]
 refine hK _ _ ?_
 rw [g0]
 refine wpList_step fun K hK => ?_
 rw [if_pos (by simp [Region.wanted,u1])]
 unfold Oper.wp
 have hvq1:(a.put (some d0) vo).tmps[q]?=some vq:=by rw [put_other _ _ _ _ (fun h => n0q h.symm)]; exact hvq
 have hr1:(execOp (a.put (some d0) vo).eval o1).run P w=.ok (.value vq) w:=by simp [execOp,e1,eval_of hvq1]
 rw [hr1]
 refine hK _ _ ?_
 rw [g1]
 refine wpList_step fun K hK => ?_
 rw [if_pos (by simp [Region.wanted,u2])]
 unfold Oper.wp
 have ht1:((a.put (some d0) vo).put (some d1) vq).eval (.tmp d1)=vq:=eval_of (put_same _ d1 _ (by simp [Act.put,l1]))
 have hr2:(execOp ((a.put (some d0) vo).put (some d1) vq).eval o2).run P w=.ok (.value (.slice (some ⟨w.heap.size,0,none⟩) 1 1)) (w.alloc (.cells #[vq] te)):=by
  have:(#[(0,Operand.tmp d1)]:Array (Nat × Operand)).map (fun x => match x with | (i,x) => (i,((a.put (some d0) vo).put (some d1) vq).eval x))=#[(0,vq)]:=by simp [ht1]
  simp only [execOp,e2,Sem.run_bind]
  rw [this,hrun2]
  rfl
 rw [hr2]
 refine hK _ _ ?_
 rw [g2]
 refine wpList_step fun K hK => ?_
 rw [if_pos (by simp [Region.wanted,u3])]
 unfold Oper.wp
 obtain ⟨a2,ha2⟩:∃ a2,a2 = ((a.put (some d0) vo).put (some d1) vq).put (some d2) (.slice (some ⟨w.heap.size,0,none⟩) 1 1):=⟨_,rfl⟩
 rw [← ha2]
 have t0:a2.eval (.tmp d0)=vo:=eval_of (by rw [ha2,put_other _ _ _ _ n02,put_other _ _ _ _ n01,put_same _ _ _ l0])
 have t2:a2.eval (.tmp d2)=.slice (some ⟨w.heap.size,0,none⟩) 1 1:=eval_of (by rw [ha2,put_same _ _ _ (by simp [Act.put,l2])])
 have hr3:(execOp a2.eval o3).run P (w.alloc (.cells #[vq] te))=.ok (.value v') w2:=by
  simp [execOp,e3,resolve,invoke,builtin,t0,t2,hrun3]
 rw [hr3]
 refine hK _ _ ?_
 rw [g3]
 refine wpList_step fun K hK => ?_
 rw [if_pos (by simp [Region.wanted,u4])]
 unfold Oper.wp
 have t3:(a2.put (some d3) v').eval (.tmp d3)=v':=eval_of (put_same _ _ _ (by rw [ha2]; simp [Act.put,l3]))
 have hr4:(execOp (a2.put (some d3) v').eval o4).run P w2=.ok (.value v') w2:=by simp [execOp,e4,t3]
 rw [hr4]
 refine hK _ _ (hQ _ _ ?_)
 rw [g4]
 obtain ⟨F4,X4,c4⟩:=X3.any2 vo (lt b0) (nk d0 k0)
 obtain ⟨F5,X5,c5⟩:=X4.any2 vq (lt b1) (nk d1 k1)
 obtain ⟨F6,X6,c6⟩:=X5.any2 (.slice (some ⟨w.heap.size,0,none⟩) 1 1) (lt b2) (nk d2 k2)
 obtain ⟨F7,X7,c7⟩:=X6.any2 v' (lt b3) (nk d3 k3)
 rw [← ha2] at X7
 have cF:=fun s i (hi:F7 s i) => c4 s i (c5 s i (c6 s i (c7 s i hi)))
 have X8:=X7.putG (d:=p) (sv:=.val (.sl true te (.sl true te2 e2')) (List.append xs [y])) (v:=v') (w':=w2) (f:=f') (U:=fun _ => False) (by rw [X7.tsize]; exact lt bp) (fun hm => absurd hm (nk p kp)) (Grow.refl _ _) (fun i hi => hi.elim)
  (fun i hi => by
   obtain ⟨q1,q2⟩:=hf' i hi
   refine ⟨q1,.inr ?_⟩
   rcases q2 with q2 | q2 | q2
   ·have hge:w.heap.size≤i:=Nat.le_trans hs1 q2
    refine ⟨fun hz => ?_,fun s _ hs => ?_,.inr (Nat.le_trans hX.grow.size hge)⟩
    ·have:=hX.zlt i hz; omega
    ·have:=X2.lt s i (cF s i hs); omega
   ·have h1:=hh1 i q2
    refine ⟨h1.2.1,fun s _ hs => ?_,h1.2.2.2⟩
    have h2:=cF s i hs
    have h3:=h1.2.2.1 s
    by_cases e:s=q
    ·simp [e] at h2
    ·simp only [e,if_false] at h2
     exact h3 h2
   ·have h1:=hh2 i q2
    exact ⟨h1.2.1,fun s _ hs => h1.2.2.1 s (cF s i hs),h1.2.2.2⟩) ⟨[v'],hcr,rfl⟩
 have tq2:a2.tmps[q]?=some vq:=by
  rw [ha2,put_other _ _ _ _ (fun h => n2q h.symm),put_other _ _ _ _ (fun h => n1q h.symm)]; exact hvq1
 have tq:((a2.put (some d3) v').put (some p) v').tmps[q]?=some vq:=by
  rw [put_other _ _ _ _ (fun h => hpq h.symm),put_other _ _ _ _ (fun h => n3q h.symm)]; exact tq2
 have tp:((a2.put (some d3) v').put (some p) v').tmps[p]?=some v':=put_same _ _ _ (by rw [ha2]; simp [Act.put,lp])
 have hcopy:CopyRep ((((((S.kill p).kill q).put d0 anyS).put d1 anyS).put d2 anyS).put d3 anyS |>.put p (.val (.sl true te (.sl true te2 e2')) (List.append xs [y]))) w2 ((a2.put (some d3) v').put (some p) v').tmps p [.idx xs.length] vq:=by
  refine ⟨.sl true te (.sl true te2 e2'),List.append xs [y],v',⟨SS.mem_put.2 (.inl rfl),tp⟩,.inr ⟨g,0+xs.length*1,.sl true te2 e2',y,[vq],trivial,by simp,?_,?_,?_,rfl,?_,rfl⟩⟩
  ·refine ⟨?_,trivial⟩
   show xs.length < (xs ++ [y]).length
   simp
  ·have:List.getD (xs ++ [y]) xs.length (Sh.dflt (.sl true te2 e2'))=y:=by
    rw [List.getD_eq_getElem?_getD,List.getElem?_append_right (Nat.le_refl _)]; simp
   show some (⟨.sl true te2 e2',List.getD (xs ++ [y]) xs.length (Sh.dflt (.sl true te2 e2'))⟩:TV)=some ⟨.sl true te2 e2',y⟩
   rw [this]
  ·rw [hv']; exact locN _ _ _ _
  ·intro j u hu
   have hj:=(List.getElem?_eq_some_iff.1 hu).1
   have:j=0:=by simpa using hj
   subst this
   have:u=vq:=by simpa using hu.symm
   subst this
   simpa using hcell
 have X9:=X8.putR (d:=q) (sv:=.copy p [.idx xs.length]) (v:=vq) (by rw [X8.tsize]; exact lt bq) (fun hm => absurd hm (nk q kq)) ⟨fun i h => h,hcopy⟩ (by simp [SV.refs,hpq]) rfl
 rw [put_idem tq] at X9
 exact ⟨_,_,X9⟩
end
end Go.Vm
