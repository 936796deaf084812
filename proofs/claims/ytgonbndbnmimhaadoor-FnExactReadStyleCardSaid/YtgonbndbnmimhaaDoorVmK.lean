/- What writes: stores, appends, cuts; moving a variable's value; freezing. -/
import Derived.Test.YtgonbndbnmimhaaDoorVmJ
set_option linter.unusedVariables false
set_option linter.unusedSimpArgs false
namespace Go.Vm
open Go
section
variable {P:Program} {T:Tbl} {Z:Fp} {F:Nat→Fp} {w0:World} {Wr Zi:Fp} {N:Fr} {S S' S1:SS} {a:Act} {w:World} {o:Oper}
theorem put_idem {a:Act} {k:Nat} {v:Value} (h:a.tmps[k]?=some v):a.put (some k) v=a:=by
 have hk:k < a.tmps.size:=(Array.getElem?_eq_some_iff.1 h).1
 have he:a.tmps[k]=v:=(Array.getElem?_eq_some_iff.1 h).2
 have:a.tmps.setIfInBounds k v=a.tmps:=by
  apply Array.ext_getElem?
  intro i
  rw [Array.getElem?_setIfInBounds]
  split
  ·rename_i e
   subst e
   simp [hk,he]
  ·rfl
 simp [Act.put,this]
def storeV (T:Tbl) (S1:SS) (t:Nat) (tv:TV):SV→Option SS
 | .addr k p => match S1.get k with
   | some (.val s x) => if s.isRoot then match getAt s x p,T.find t with
     | some old,some i => if fits i tv.sh && tv.sh.size == old.sh.size && tv.sh != .any then
      match upd s x p tv with
      | some r => some (S1.put k (.val r.sh r.x))
      | none => none
       else none
     | _,_ => none
     else none
   | _ => none
 | _ => none
theorem store_main (hT:TOk P T) (h:RelX Z F w0 Wr Zi N S a w) {t:Nat} {X Y:Operand} {sv:SV} {tv:TV} (ho:o.op=.store t X Y) (hd:o.dst=none) (hy:takeO T S t Y=some (tv,S1)) (hx:(opd T S1 t X).map (derefV S1)=some sv)
 (hr:storeV T S1 t tv sv=some S'):∃ (w':World) (F1 F':Nat→Fp) (k:Nat) (p:Path) (s:Sh) (x:s.den) (r:TV) (vh:Value) (g oo:Nat),
  (execOp a.eval o).run P w=.ok .skip w'∧sv=.addr k p∧S1.get k=some (.val s x)∧IsRoot s∧okAt s x p∧p≠[]∧upd s x p tv=some r∧S'=S1.put k (.val r.sh r.x)∧RelX Z F1 w0 Wr Zi N S1 a w∧RelX Z F' w0 Wr Zi N S' a w' ∧
  a.tmps[k]?=some vh∧CRep Z w s x [vh] (F1 k)∧rootLoc w s vh p=some (g,oo)∧∀ i,i≠g→w'.heap[i]?=w.heap[i]?:=by
 obtain ⟨F1,ft,⟨cs2,hc2,hv2⟩,h1,hh,_⟩:=takeO_rep h hy
 have hrep:sv.rep Z S1 w a.tmps (a.eval X) (fun _ => False):=by
  obtain ⟨sv0,hx0,rfl⟩:=Option.map_eq_some_iff.1 hx
  exact derefV_rep h1 (opd_rep h1 hx0)
 unfold storeV at hr
 split at hr
 ·rename_i k p
  split at hr
  ·rename_i s x hg
   split at hr
   ·rename_i hroot
    have hroot:=Sh.isRoot_iff hroot
    split at hr
    ·rename_i old i hat hi
     split at hr
     ·rename_i hfit
      split at hr
      ·rename_i r hu
       cases hr
       simp only [Bool.and_eq_true,beq_iff_eq,bne_iff_ne,ne_eq] at hfit
       obtain ⟨⟨hfit,hsz⟩,hany⟩:=hfit
       obtain ⟨_,s',x',vh,g,oo,hhome,_,hpn,hok,hl,hv⟩:=hrep
       have he:=home_is h1 hhome hg
       simp only [TV.mk.injEq] at he
       obtain ⟨rfl,he⟩:=he
       obtain rfl:=eq_of_heq he
       obtain ⟨g',t',pre',cs',post',f',R⟩:=rfocus p s' x' vh (F1 k) old (root_cells hroot (home_rep h1 hhome)) hpn (by cases s' <;> first | exact hroot.elim | trivial | exact absurd (mp_path hok) (by assumption)) hok hat
       have hgo:=R.at_
       rw [hl] at hgo
       simp only [Option.some.injEq,Prod.mk.injEq] at hgo
       obtain ⟨rfl,rfl⟩:=hgo
       have hlen2:cs2.length=cs'.length:=by rw [CRep.length hc2,CRep.length R.rep,hsz]
       have hcells:(a.eval Y).cells.toList=cs2:=val_cells hc2 hv2 hany
       obtain ⟨ht,hty⟩:=hT.find hi
       obtain ⟨info,hinfo,hisz,_⟩:=hty.info
       rw [ht] at hinfo
       simp only [fits,Bool.and_eq_true,beq_iff_eq] at hfit
       have hst:=run_storeCells_at (P:=P) g pre'.length t' cs2 0 (pre' ++ cs' ++ post').toArray w R.heap (by simp [hlen2]) (CRep.one hc2)
       have hnew:(((pre' ++ cs' ++ post').toArray.toList.take (pre'.length+0) ++ cs2 ++ (pre' ++ cs' ++ post').toArray.toList.drop (pre'.length+0+cs2.length)):List Value)=pre' ++ cs2 ++ post':=by
        simp only [Nat.add_zero,List.append_assoc,List.take_left',List.drop_append,hlen2]
        simp
       rw [hnew] at hst
       have hcs:(a.eval Y).cells.size=info.size:=by
        rw [← Array.length_toList,hcells,CRep.length hc2,hisz,hfit.1.1]
       have hrun:(execOp a.eval o).run P w=.ok .skip (w.setRow g (pre' ++ cs2 ++ post').toArray):=by
        simp [execOp,ho,hv,Instr.storeAt,Instr.sureAddr,storeVar,Go.sizeOf,typeInfo,hinfo,hcs,hcells,hst]
       have hfkg:F1 k g:=R.in_
       have hsame:∀ i,i≠g → (w.setRow g (pre' ++ cs2 ++ post').toArray).heap[i]?=w.heap[i]?:=fun i hi => setRow_other w g i _ (fun e => hi e)
       have hftg:∀ i,ft i→i≠g:=fun i hi e => (hh i hi).2.2.1 k (e ▸ hfkg)
       have hzg:∀ i,Z i→i≠g:=fun i hi e => h1.nz k g hfkg (e ▸ hi)
       obtain ⟨f3,hc3,hf3⟩:=R.put Z (w.setRow g (pre' ++ cs2 ++ post').toArray) tv cs2 ft r hu (CRep.same (fun _ => id) (fun i hi => hsame i (hzg i hi)) (fun i hi => hsame i (hftg i hi)) hc2) hlen2 (fun _ => id) (fun i hi => hsame i (hzg i hi)) (fun i _ _ hne => hsame i hne) (setRow_heap w g _ _ _ _ R.heap) (fun i hi hi2 => absurd hi2 ((hh i hi).2.2.1 k)) (fun hi => hftg g hi rfl)
       have hgsz:(w.setRow g (pre' ++ cs2 ++ post').toArray).heap.size=w.heap.size:=by simp [World.setRow]
       have hrs:IsRoot r.sh:=by
        cases p with
        | nil => exact absurd rfl hpn
        | cons q p =>
          cases s' with
          | sl ow te e =>
            cases ow with
            | false => exact hroot.elim
            | true =>
              cases q <;> simp only [upd] at hu
              ·cases hu
              ·cases hu
              ·split at hu
               ·split at hu
                ·cases hu; trivial
                ·cases hu
               ·cases hu
              ·cases hu
          | pt ow te e =>
            cases ow with
            | false => exact hroot.elim
            | true =>
              cases q <;> simp only [upd] at hu
              ·cases hu
              ·cases hu
              ·cases hu
              ·split at hu
               ·cases hu; trivial
               ·cases hu
          | mp ow km mv => exact absurd (mp_path hok) (by simp)
          | _ => exact hroot.elim
       have:=h1.putG (d:=k) (sv:=.val r.sh r.x) (v:=vh) (f:=f3) (U:=fun i => i=g) (w':=w.setRow g (pre' ++ cs2 ++ post').toArray) (by have:=(Array.getElem?_eq_some_iff.1 hhome.tmp).1; exact this) (fun _ => hhome.tmp)
        (Grow.mk rfl rfl rfl (by rw [hgsz]; exact Nat.le_refl _) (fun i _ hi => hsame i hi))
        (fun i hi _ => by subst hi; exact ⟨fun hz => h1.nz k i hfkg hz,fun s hs hf => hs (h1.apart s k i hf hfkg),h1.wr k i hfkg⟩)
        (fun i hi => by
         rw [hgsz]
         rcases (hf3 i).1 hi with ⟨hk,_⟩ | hk
         ·exact ⟨h1.lt k i hk,.inr ⟨h1.nz k i hk,fun s hs hf => hs (h1.apart s k i hf hk),h1.wr k i hk⟩⟩
         ·obtain ⟨q1,q2,q3,q4⟩:=hh i hk
          exact ⟨q1,.inr ⟨q2,fun s _ => q3 s,q4⟩⟩)
        ⟨[vh],hc3,by cases hrsh:r.sh <;> simp [hrsh,IsRoot] at hrs <;> rfl⟩
       rw [put_idem hhome.tmp] at this
       exact ⟨_,F1,_,k,p,s',x',r,vh,g,pre'.length,hrun,rfl,hg,hroot,hok,hpn,hu,rfl,h1,this,hhome.tmp,root_cells hroot (home_rep h1 hhome),hl,fun i hi => hsame i hi⟩
      ·cases hr
     ·cases hr
    ·cases hr
   ·cases hr
  ·cases hr
 ·cases hr
theorem store_ok (hT:TOk P T) (h:RelX Z F w0 Wr Zi N S a w) {t:Nat} {X Y:Operand} {sv:SV} {tv:TV} (ho:o.op=.store t X Y) (hd:o.dst=none) (hy:takeO T S t Y=some (tv,S1)) (hx:(opd T S1 t X).map (derefV S1)=some sv)
 (hr:storeV T S1 t tv sv=some S'):Runs P o a w (Rel w0 Wr Zi N S'):=by
 obtain ⟨w',F1,F',k,p,s,x,r,vh,g,oo,hrun,_,_,_,_,_,_,rfl,_,h2,_⟩:=store_main hT h ho hd hy hx hr
 refine ⟨_,undef,_,hrun,.inr ⟨rfl,rfl⟩,?_⟩
 rw [hd]
 exact ⟨Z,_,h2⟩
theorem assign_ok (h:RelX Z F w0 Wr Zi N S a w) {X:Operand} {tv:TV} (ho:o.op=.assign X∨o.op=.move X) (hx:takeO T S o.type X=some (tv,S1)) (hp:putS N S1 o.dst (.val tv.sh tv.x)=some S'):Runs P o a w (Rel w0 Wr Zi N S'):=by
 obtain ⟨F1,f,hrep,h1,hh,_⟩:=takeO_rep h hx
 refine Runs.make (U:=fun _ => False) (f:=f) h1 hp (v:=a.eval X) (by rcases ho with ho | ho <;> simp [execOp,ho]) (Grow.refl _ _) (fun i hi => hi.elim) (fun i hi => ?_) hrep
 obtain ⟨q1,q2,q3,q4⟩:=hh i hi
 exact ⟨q1,.inr ⟨q2,q3,q4⟩⟩
def SrcRep (Z:Fp) (w:World) (e:Sh) (ys:List e.den) (v:Value) (fr:Fp):Prop :=
 ∃ A c inner,v=.slice A ys.length c∧RRep (CRep Z w e) ys inner fr∧∀ j u,inner[j]?=some u→∃ ad,A=some ad∧w.cell? (ad.add j)=some u
theorem own_src {t:Nat} {e:Sh} {ys:List e.den} {v:Value} {f:Fp} (h:CRep Z w (.sl true t e) ys [v] f):∃ fr,SrcRep Z w e ys v fr ∧ (∀ i,fr i→f i) ∧ (∀ i,v.ownBlock=some i→f i∧¬ fr i):=by
 obtain ⟨v',inner,fr,hvv,hrr,ho,hfe,hfd⟩:=h
 obtain rfl:v=v':=by simpa using hvv
 refine ⟨fr,?_,fun i hi => (hfe i).2 (.inr hi),fun i hi => ⟨(hfe i).2 (.inl hi),hfd i hi⟩⟩
 have hin:=RRep.length (size:=e.size) (fun x cs f h => CRep.length h) hrr
 rcases ho.2 with ⟨rfl,h0⟩ | ⟨g,cap,cur,rfl,_⟩
 ·have:ys=[]:=List.eq_nil_of_length_eq_zero h0
  subst this
  have:inner=[]:=List.eq_nil_of_length_eq_zero (by simpa using hin)
  subst this
  exact ⟨none,0,[],rfl,hrr,fun j u hu => by simp at hu⟩
 ·exact ⟨_,cap,inner,rfl,hrr,fun j u hu => ⟨_,rfl,ho.cells (g:=g) rfl j u hu⟩⟩
theorem ro_src {t:Nat} {e:Sh} {ys:List e.den} {v:Value} {f:Fp} (h:CRep Z w (.sl false t e) ys [v] f):∃ fr,SrcRep Z w e ys v fr∧∀ i,¬ fr i:=by
 obtain ⟨v',inner,fr,hvv,hrr,hf0,hfr,A,c,hv,hnc,hcm,hs,hread⟩:=h
 obtain rfl:v=v':=by simpa using hvv
 refine ⟨fr,⟨A,c,inner,hv,hrr,fun j u hu => ?_⟩,hfr⟩
 obtain ⟨ad,hA,_,hc⟩:=hread j u hu
 exact ⟨ad,hA,hc⟩
theorem RRep.append {α:Type} {R:α→List Value→Fp→Prop}:∀ {xs ys:List α} {c1 c2:List Value} {f1 f2:Fp},RRep R xs c1 f1→RRep R ys c2 f2 → (∀ i,f1 i→¬ f2 i)→RRep R (xs ++ ys) (c1 ++ c2) (fun i => f1 i∨f2 i)
 | [],ys,c1,c2,f1,f2,h1,h2,hd => by
   obtain ⟨rfl,h0⟩:=h1
   have:(fun i => f1 i∨f2 i)=f2:=funext fun i => propext ⟨fun h => h.elim (fun h => absurd h (h0 i)) id,.inr⟩
   simpa [this] using h2
 | x :: xs,ys,c1,c2,f1,f2,h1,h2,hd => by
   obtain ⟨d1,d2,g1,g2,rfl,hf,hdd,hx,hxs⟩:=h1
   refine ⟨d1,d2 ++ c2,g1,fun i => g2 i∨f2 i,by simp,fun i => ?_,fun i hi hi2 => ?_,hx,RRep.append hxs h2 (fun i hi => hd i ((hf i).2 (.inr hi)))⟩
   ·show f1 i∨f2 i↔g1 i ∨ (g2 i∨f2 i)
    rw [hf i,or_assoc]
   ·rcases hi2 with h' | h'
    ·exact hdd i hi h'
    ·exact hd i ((hf i).2 (.inl hi)) h'
theorem append_run {t te:Nat} {e:Sh} {info:TypeInfo} {z:Value} (hd:P.underlying t=some (.slice te)) (hinfo:P.info? te=some info) (hz:info.zero=some z) (hsz:info.size=e.size) (hzs:z.cells.size=e.size) (hpos:0 < e.size) (hbp:0 < info.bytes)
 {xs ys:List e.den} {vx vy:Value} {f fr:Fp} (hx:CRep Z w (.sl true te e) xs [vx] f) (hy:SrcRep Z w e ys vy fr) (hdis:∀ i,fr i→¬ f i) (hlt:∀ i,fr i→i < w.heap.size) (hZ:∀ i,Z i→¬ f i) (hZs:∀ i,Z i→i < w.heap.size) (hb:(xs.length+ys.length)*info.bytes≤140737488355328) (ty:Nat) :
 ∃ v' w' f',(Builtin.append_ #[t,t] ty #[vx,vy]).run P w=.ok v' w'∧CRep Z w' (.sl true te e) (xs ++ ys) [v'] f'∧Grow (fun i => vx.ownBlock=some i) w w' ∧
   (∀ i,f' i→i < w'.heap.size ∧ (w.heap.size≤i∨f i∨fr i)):=by
 have hlt0:=CRep.lt hx
 obtain ⟨v',inner,fx,hvv,hrr,ho,hfe,hfd⟩:=hx
 obtain rfl:vx=v':=by simpa using hvv
 obtain ⟨A,c,news,rfl,hry,hread⟩:=hy
 have hln:=RRep.length (size:=e.size) (fun x cs f h => CRep.length h) hry
 have hn:xs.length+ys.length≤140737488355328:=Nat.le_trans (Nat.le_mul_of_pos_right _ hbp) hb
 have fin:∀ v1 w1,w1.ownsRow 0 te e.size v1 (xs.length+ys.length) (inner ++ news)→w.grownBy w1 vx.ownBlock → (v1.ownBlock=vx.ownBlock∨v1.ownBlock=some w.heap.size) →
  ∃ f',CRep Z w1 (.sl true te e) (xs ++ ys) [v1] f'∧Grow (fun i => vx.ownBlock=some i) w w1 ∧ (∀ i,f' i→i < w1.heap.size ∧ (w.heap.size≤i∨f i∨fr i)):=by
  intro v1 w1 hown hg hat
  have hsame:∀ i,i < w.heap.size→vx.ownBlock≠some i→w1.heap[i]?=w.heap[i]?:=fun i hi hne => hg.block i hi (fun e => hne e.symm)
  have hfxv:∀ i,fx i→vx.ownBlock≠some i:=fun i hi e => hfd i e hi
  have hfrv:∀ i,fr i→vx.ownBlock≠some i:=fun i hi e => hdis i hi ((hfe i).2 (.inl e))
  have hzv:∀ i,Z i→vx.ownBlock≠some i:=fun i hi e => hZ i hi ((hfe i).2 (.inl e))
  have hx1:RRep (CRep Z w1 e) xs inner fx:=RRep.imp (P:=fun i => i < w.heap.size∧vx.ownBlock≠some i) (fun i hi => ⟨hlt0 i ((hfe i).2 (.inr hi)),hfxv i hi⟩) (fun x cs f hP hx => CRep.same (fun _ => id) (fun i hi => hsame i (hZs i hi) (hzv i hi)) (fun i hi => hsame i (hP i hi).1 (hP i hi).2) hx) hrr
  have hy1:RRep (CRep Z w1 e) ys news fr:=RRep.imp (P:=fun i => i < w.heap.size∧vx.ownBlock≠some i) (fun i hi => ⟨hlt i hi,hfrv i hi⟩) (fun x cs f hP hx => CRep.same (fun _ => id) (fun i hi => hsame i (hZs i hi) (hzv i hi)) (fun i hi => hsame i (hP i hi).1 (hP i hi).2) hx) hry
  have hxy:=RRep.append hx1 hy1 (fun i hi hi2 => hdis i hi2 ((hfe i).2 (.inr hi)))
  have hvn:∀ i,v1.ownBlock=some i→¬ (fx i∨fr i):=by
   intro i hi hor
   rcases hat with hat | hat
   ·rw [hat] at hi
    exact hor.elim (fun h => hfd i hi h) (fun h => hfrv i h hi)
   ·rw [hat] at hi
    obtain rfl:w.heap.size=i:=by simpa using hi
    exact hor.elim (fun h => Nat.lt_irrefl _ (hlt0 _ ((hfe _).2 (.inr h)))) (fun h => Nat.lt_irrefl _ (hlt _ h))
  refine ⟨fun i => v1.ownBlock=some i ∨ (fx i∨fr i),⟨v1,inner ++ news,_,rfl,hxy,by simpa using hown,fun i => Iff.rfl,hvn⟩,⟨hg.os,hg.tape,hg.output,hg.size,fun i hi hne => hsame i hi hne⟩,?_⟩
  rintro i (hi | hi | hi)
  ·refine ⟨owns_lt hown i hi,?_⟩
   rcases hat with hat | hat
   ·rw [hat] at hi; exact .inr (.inl ((hfe i).2 (.inl hi)))
   ·rw [hat] at hi; exact .inl (Nat.le_of_eq (by simpa using hi))
  ·exact ⟨Nat.lt_of_lt_of_le (hlt0 i ((hfe i).2 (.inr hi))) hg.size,.inr (.inl ((hfe i).2 (.inr hi)))⟩
  ·exact ⟨Nat.lt_of_lt_of_le (hlt i hi) hg.size,.inr (.inr hi)⟩
 cases A with
 | none =>
   have h0:news=[]:=by
    match news,hread with
    | [],_ => rfl
    | u :: r,hread => (obtain ⟨ad,hA,_⟩:=hread 0 u rfl); cases hA
   subst h0
   have hy0:ys.length=0:=by
    have:ys.length*e.size=0:=by rw [← hln]; rfl
    exact (Nat.mul_eq_zero.1 this).resolve_right (by omega)
   have hys:ys=[]:=List.eq_nil_of_length_eq_zero hy0
   subst hys
   obtain ⟨f',h1,h2,h3⟩:=fin vx w (by simpa using ho) (World.grownBy.refl w _) (.inl rfl)
   refine ⟨vx,w,f',?_,h1,h2,h3⟩
   rcases ho.2 with ⟨rfl,hn0⟩ | ⟨g,cap,cur,rfl,_,hgc,hnc,_⟩
   ·simp [Builtin.append_,run_underlying hd,Go.sizeOf,typeInfo,hinfo,Builtin.lenOf,Builtin.firstCells]
   ·simp [Builtin.append_,run_underlying hd,Go.sizeOf,typeInfo,hinfo,Builtin.lenOf,Builtin.firstCells,hnc,storeCells]
 | some ad =>
   obtain ⟨v1,w1,hr,h2,h3,_,h5⟩:=run_append_own_at (P:=P) w 0 t ty te info z e.size info.bytes hd hinfo hz hsz rfl hzs hpos vx xs.length inner ho ad ys.length c news hln
    (fun j u hu => by obtain ⟨ad',hA,hc⟩:=hread j u hu; obtain rfl:ad=ad':=(by simpa using hA); exact hc)
    (RRep.one (fun x cs f h => CRep.one h) hry) (by unfold maxLen; omega) hb (Nat.zero_le _)
   obtain ⟨f',k1,k2,k3⟩:=fin v1 w1 h2 h3 h5
   exact ⟨v1,w1,f',hr,k1,k2,k3⟩
end
end Go.Vm
