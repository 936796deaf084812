/- Struct literals, tuples, cuts that are read; calls. -/
import Derived.Test.YtgonbndbnmimhaaDoorVmM
set_option linter.unusedVariables false
set_option linter.unusedSimpArgs false
namespace Go.Vm
open Go
theorem upd_cells {Z:Fp} {w:World}:∀ (p:Path) (s:Sh) (x:s.den) (old:TV) (k:Nat),fOff s x p=some (old,k)→∀ (cs:List Value) (f:Fp) (v:TV) (c:List Value) (ft:Fp) (r:TV),
 CRep Z w s x cs f→CRep Z w v.sh v.x c ft→v.sh.size=old.sh.size → (∀ i,ft i→¬ f i)→upd s x p v=some r →
 ∃ c1 c0 c2 f3,cs=c1 ++ c0 ++ c2∧c1.length=k∧c0.length=old.sh.size∧CRep Z w r.sh r.x (c1 ++ c ++ c2) f3∧∀ i,f3 i→f i∨ft i:=by
 intro p s
 have base:∀ (s:Sh) (x:s.den) (old:TV) (k:Nat),fOff s x []=some (old,k)→∀ (cs:List Value) (f:Fp) (v:TV) (c:List Value) (ft:Fp) (r:TV),
  CRep Z w s x cs f→CRep Z w v.sh v.x c ft→v.sh.size=old.sh.size → (∀ i,ft i→¬ f i)→upd s x [] v=some r →
  ∃ c1 c0 c2 f3,cs=c1 ++ c0 ++ c2∧c1.length=k∧c0.length=old.sh.size∧CRep Z w r.sh r.x (c1 ++ c ++ c2) f3∧∀ i,f3 i→f i∨ft i:=by
  intro s x old k h cs f v c ft r hc hv hsz hd hu
  have h1:old=⟨s,x⟩∧k=0:=by cases s <;> (simp only [fOff,Option.some.injEq,Prod.mk.injEq] at h; exact ⟨h.1.symm,h.2.symm⟩)
  have h2:r=v:=by cases s <;> (simp only [upd,Option.some.injEq] at hu; exact hu.symm)
  obtain ⟨rfl,rfl⟩:=h1
  subst h2
  exact ⟨[],cs,[],ft,by simp,rfl,CRep.length hc,by simpa using hv,fun i hi => .inr hi⟩
 induction s generalizing p with
 | int k | bool | str | unit | any | raw | gh _ | mp mo mk mv _ _ | fn ff fc _ =>
   intro x old k h
   cases p with
   | nil => exact base _ x old k h
   | cons c p => cases c <;> simp [fOff] at h
 | st f ih =>
   intro x old k h
   cases p with
   | nil => exact base _ x old k h
   | cons q p =>
     intro cs g v c ft r hc hv hsz hd hu
     have h':fOff f x (q :: p)=some (old,k):=by cases q <;> simpa [fOff] using h
     have hu':∃ r',upd f x (q :: p) v=some r'∧r=⟨.st r'.sh,r'.x⟩:=by
      cases hq:upd f x (q :: p) v with
      | none => cases q <;> simp [upd,hq] at hu
      | some r' => refine ⟨r',rfl,?_⟩; cases q <;> · simp only [upd,hq,Option.some.injEq] at hu; exact hu.symm
     obtain ⟨r',hr',rfl⟩:=hu'
     exact ih (q :: p) x old k h' cs g v c ft r' hc hv hsz hd hr'
 | pair a b iha ihb =>
   intro x old k h
   cases p with
   | nil => exact base _ x old k h
   | cons q p =>
     intro cs g v c ft r hc hv hsz hd hu
     obtain ⟨ca,cb,fa,fb,rfl,hf,hdd,h1,h2⟩:=hc
     cases q with
     | fst =>
       have hu':∃ r',upd a x.1 p v=some r'∧r=⟨.pair r'.sh b,(r'.x,x.2)⟩:=by
        cases hq:upd a x.1 p v with
        | none => simp [upd,hq] at hu
        | some r' => exact ⟨r',rfl,by simp only [upd,hq,Option.some.injEq] at hu; exact hu.symm⟩
       obtain ⟨r',hr',rfl⟩:=hu'
       obtain ⟨c1,c0,c2,f3,rfl,q1,q2,q3,q4⟩:=iha p x.1 old k (by simpa [fOff] using h) ca fa v c ft r' h1 hv hsz (fun i hi hfa => hd i hi ((hf i).2 (.inl hfa))) hr'
       refine ⟨c1,c0,c2 ++ cb,fun i => f3 i∨fb i,by simp,q1,q2,⟨c1 ++ c ++ c2,cb,f3,fb,by simp,fun i => Iff.rfl,fun i hi hi2 => ?_,q3,h2⟩,fun i hi => ?_⟩
       ·rcases q4 i hi with h' | h'
        ·exact hdd i h' hi2
        ·exact hd i h' ((hf i).2 (.inr hi2))
       ·rcases hi with hi | hi
        ·exact (q4 i hi).imp (fun h => (hf i).2 (.inl h)) id
        ·exact .inl ((hf i).2 (.inr hi))
     | snd =>
       simp only [fOff] at h
       split at h
       ·rename_i v' k' h'
        simp only [Option.some.injEq,Prod.mk.injEq] at h
        obtain ⟨rfl,rfl⟩:=h
        have hu':∃ r',upd b x.2 p v=some r'∧r=⟨.pair a r'.sh,(x.1,r'.x)⟩:=by
         cases hq:upd b x.2 p v with
         | none => simp [upd,hq] at hu
         | some r' => exact ⟨r',rfl,by simp only [upd,hq,Option.some.injEq] at hu; exact hu.symm⟩
        obtain ⟨r',hr',rfl⟩:=hu'
        obtain ⟨c1,c0,c2,f3,rfl,q1,q2,q3,q4⟩:=ihb p x.2 v' k' h' cb fb v c ft r' h2 hv hsz (fun i hi hfb => hd i hi ((hf i).2 (.inr hfb))) hr'
        refine ⟨ca ++ c1,c0,c2,fun i => fa i∨f3 i,by simp,by simp [CRep.length h1,q1],q2,⟨ca,c1 ++ c ++ c2,fa,f3,by simp,fun i => Iff.rfl,fun i hi hi2 => ?_,h1,q3⟩,fun i hi => ?_⟩
        ·rcases q4 i hi2 with h' | h'
         ·exact hdd i hi h'
         ·exact hd i h' ((hf i).2 (.inl hi))
        ·rcases hi with hi | hi
         ·exact .inl ((hf i).2 (.inl hi))
         ·exact (q4 i hi).imp (fun h => (hf i).2 (.inr h)) id
       ·cases h
     | idx i => simp [fOff] at h
     | der => simp [fOff] at h
 | sl ow t e ih =>
   intro x old k h
   cases p with
   | nil => exact base _ x old k h
   | cons c p => cases c <;> simp [fOff] at h
 | pt ow t e ih =>
   intro x old k h
   cases p with
   | nil => exact base _ x old k h
   | cons c p => cases c <;> simp [fOff] at h
def fieldsT (T:Tbl):List (Nat × Nat)→Option (List (Nat × Nat))
 | [] => some []
 | (ft,off) :: r => match T.find ft,fieldsT T r with
   | some fi,some ps => some ((off,fi.size) :: ps)
   | _,_ => none
def buildFold (n:Nat) (places:List (Nat × Nat)):TV→List (Nat × TV)→Option TV
 | cur,[] => some cur
 | cur,(j,v) :: r => match fOff cur.sh cur.x (fpath n j),places[j]? with
   | some (old,k),some (off,sz) => if k == off && sz == v.sh.size && old.sh.size == v.sh.size && v.sh != .any then match upd cur.sh cur.x (fpath n j) v with
     | some nx => buildFold n places nx r
     | none => none
     else none
   | _,_ => none
def buildV (T:Tbl) (t:Nat) (js:List Nat) (tvs:List TV):Option TV :=
 match T.find t with
 | some i => match i.kd with
   | .struct fs => match fieldsT T fs with
     | some places => if i.zero.isSt && fits i i.zero then match buildFold fs.length places ⟨i.zero,i.zero.dflt⟩ (js.zip tvs) with
       | some r => if r.sh.isSt then some r else none
       | none => none
       else none
     | none => none
   | _ => none
 | none => none
section
variable {P:Program} {T:Tbl} {Z:Fp} {F:Nat→Fp} {w0:World} {Wr Zi:Fp} {N:Fr} {S S' S1:SS} {a:Act} {w:World} {o:Oper}
theorem fieldsT_places (hT:TOk P T):∀ {fields:List Field} {places:List (Nat × Nat)},fieldsT T (fields.map fun f => (f.type,f.offset))=some places→fields.mapM (fun f => (P.info? f.type).map fun i => (f.offset,i.size))=some places
 | [],places,h => by cases h; rfl
 | f :: r,places,h => by
   simp only [List.map_cons,fieldsT] at h
   split at h
   ·rename_i fi ps h1 h2
    cases h
    obtain ⟨ht,hty⟩:=hT.find h1
    obtain ⟨info,hinfo,hsz,_⟩:=hty.info
    rw [ht] at hinfo
    have:=fieldsT_places hT h2
    simp [List.mapM_cons,hinfo,hsz,this]
   ·cases h
theorem buildFold_run {n:Nat} {places:List (Nat × Nat)}:∀ {js:List Nat} {tvs:List TV} {vs:List Value} {cur r:TV} {cs:List Value} {f ft:Fp},js.length=tvs.length→buildFold n places cur (js.zip tvs)=some r→CRep Z w cur.sh cur.x cs f→VReps Z w tvs vs ft → (∀ i,ft i→¬ f i) →
 ∃ cs' f',Instr.fill (places.toArray[·]?) cs.toArray (js.zip vs)=some cs'.toArray∧CRep Z w r.sh r.x cs' f'∧∀ i,f' i→f i∨ft i
 | [],tvs,vs,cur,r,cs,f,ft,hl,hb,hc,hv,hd => by
   have:tvs=[]:=List.eq_nil_of_length_eq_zero hl.symm
   subst this
   simp only [List.zip_nil_left,buildFold,Option.some.injEq] at hb
   subst hb
   exact ⟨cs,f,by simp [Instr.fill],hc,fun i => .inl⟩
 | j :: js,[],vs,cur,r,cs,f,ft,hl,hb,hc,hv,hd => by simp at hl
 | j :: js,tv :: tvs,vs,cur,r,cs,f,ft,hl,hb,hc,hv,hd => by
   obtain ⟨v,vs',f1,f2,rfl,hf,hdd,⟨c,hcv,hval⟩,h2⟩:=hv
   simp only [List.zip_cons_cons,buildFold] at hb
   split at hb
   ·rename_i old k off sz hfo hpl
    split at hb
    ·rename_i hck
     simp only [Bool.and_eq_true,beq_iff_eq,bne_iff_ne,ne_eq] at hck
     obtain ⟨⟨⟨rfl,hsz⟩,hold⟩,hany⟩:=hck
     split at hb
     ·rename_i nx hu
      obtain ⟨c1,c0,c2,f3,rfl,q1,q2,q3,q4⟩:=upd_cells _ _ _ _ _ hfo cs f tv c f1 nx hc hcv hold.symm (fun i hi => hd i ((hf i).2 (.inl hi))) hu
      have hcells:=val_cells hcv hval hany
      have hvs:v.cells.size=sz:=by rw [← Array.length_toList,hcells,CRep.length hcv,hsz]
      have hst:=fill_step (place:=(places.toArray[·]?)) (A:=c1) (M:=c0) (B:=c2) (i:=j) (size:=sz) (v:=v) (rest:=js.zip vs') (by simp [hpl,q1]) hvs (by rw [q2,hold,hsz])
      obtain ⟨cs',f',r1,r2,r3⟩:=buildFold_run (by simpa using hl) hb q3 h2 (fun i hi hi3 => by
       rcases q4 i hi3 with h' | h'
       ·exact hd i ((hf i).2 (.inr hi)) h'
       ·exact hdd i h' hi)
      refine ⟨cs',f',?_,r2,fun i hi => ?_⟩
      ·simp only [List.zip_cons_cons]
       rw [hst,hcells]
       exact r1
      ·rcases r3 i hi with h' | h'
       ·rcases q4 i h' with h'' | h''
        ·exact .inl h''
        ·exact .inr ((hf i).2 (.inl h''))
       ·exact .inr ((hf i).2 (.inr h'))
     ·cases hb
    ·cases hb
   ·cases hb
theorem build_ok (hT:TOk P T) (h:RelX Z F w0 Wr Zi N S a w) {t:Nat} {parts:Array (Nat × Operand)} {tvs:List TV} {r:TV} (ho:o.op=.build t parts)
 (htk:takeL T S o.type (parts.toList.map (·.2))=some (tvs,S1)) (hl:(parts.toList.map (·.1)).length=tvs.length) (hr:buildV T t (parts.toList.map (·.1)) tvs=some r) (hp:putS N S1 o.dst (.val r.sh r.x)=some S'):Runs P o a w (Rel w0 Wr Zi N S'):=by
 obtain ⟨F1,f,hvs,h1,hh,_⟩:=takeL_rep h htk
 unfold buildV at hr
 split at hr
 ·rename_i i hi
  split at hr
  ·rename_i fs hk
   split at hr
   ·rename_i places hpl
    split at hr
    ·rename_i hst
     simp only [Bool.and_eq_true] at hst
     split at hr
     ·rename_i r' hbf
      split at hr
      ·rename_i hrst
       cases hr
       obtain ⟨ht,hty⟩:=hT.find hi
       obtain ⟨d,hd,hdk⟩:=hty.desc
       rw [ht] at hd
       rw [hk] at hdk
       obtain ⟨info,hinfo,hsz,hby,hz⟩:=hty.info
       rw [ht] at hinfo
       cases d with
       | struct fields =>
         simp only [kdOf,KD.struct.injEq] at hdk
         rw [← hdk] at hpl
         have hm:=fieldsT_places hT hpl
         obtain ⟨cs',f',q1,q2,q3⟩:=buildFold_run hl hbf (Sh.zeros_rep Z w i.zero) hvs (fun i _ h => h.elim)
         have hzc:i.zero.zeroV.cells=i.zero.zeros.toArray:=by rw [← zero_cells i hst.2]
         have hpe:(parts.map fun x => match x with | (i,x) => (i,a.eval x)).toList = (parts.toList.map (·.1)).zip ((parts.toList.map (·.2)).map a.eval):=by
          simp only [Array.toList_map]
          generalize parts.toList=l
          induction l with
          | nil => rfl
          | cons x l ih => simp [ih]
         have hb:P.built t (parts.map fun x => match x with | (i,x) => (i,a.eval x)).toList=some cs'.toArray:=by
          unfold Program.built
          rw [hinfo,hd]
          simp only [hz,hm,hzc]
          rw [hpe]
          exact q1
         have hrun:=run_build (P:=P) w t _ _ hb
         refine Runs.make (U:=fun _ => False) (f:=f') h1 hp (v:=.agg cs'.toArray) (by simp only [execOp,ho,Sem.run_bind]; rw [hrun]; rfl) (Grow.refl _ _) (fun i hi => hi.elim) (fun i hi => ?_) ⟨cs',q2,?_⟩
         ·rcases q3 i hi with h' | h'
          ·exact h'.elim
          ·obtain ⟨p1,p2,p3,p4⟩:=hh i h'
           exact ⟨p1,.inr ⟨p2,p3,p4⟩⟩
         ·cases hsh:r.sh <;> simp [hsh,Sh.isSt] at hrst <;> rfl
       | _ => simp [kdOf] at hdk
      ·cases hr
     ·cases hr
    ·cases hr
   ·cases hr
  ·cases hr
 ·cases hr
theorem vreps_set:∀ {ts:List TV} {vs:List Value} {f:Fp} {j:Nat} {tv:TV},VReps Z w ts vs f→ts[j]?=some tv→∃ v f1 f2,vs[j]?=some v∧VRep Z w tv.sh tv.x v f1∧VReps Z w (ts.set j ⟨.any,()⟩) vs f2 ∧ (∀ i,f i↔f1 i∨f2 i)∧∀ i,f1 i→¬ f2 i
 | [],vs,f,j,tv,h,hj => by simp at hj
 | t :: ts,vs,f,0,tv,h,hj => by
   obtain ⟨v,vs',f1,f2,rfl,hf,hd,h1,h2⟩:=h
   simp only [List.getElem?_cons_zero,Option.some.injEq] at hj
   subst hj
   exact ⟨v,f1,f2,rfl,h1,⟨v,vs',fun _ => False,f2,rfl,fun i => ⟨.inr,fun h => h.elim False.elim id⟩,fun i h => h.elim,⟨[.int .i64 0],⟨⟨_,rfl,rfl⟩,fun _ => id⟩,trivial⟩,h2⟩,hf,hd⟩
 | t :: ts,vs,f,j+1,tv,h,hj => by
   obtain ⟨v,vs',f1,f2,rfl,hf,hd,h1,h2⟩:=h
   obtain ⟨u,g1,g2,q1,q2,q3,q4,q5⟩:=vreps_set (j:=j) h2 (by simpa using hj)
   refine ⟨u,g1,fun i => f1 i∨g2 i,by simpa using q1,q2,⟨v,vs',f1,g2,rfl,fun i => Iff.rfl,fun i hi hi2 => hd i hi ((q4 i).2 (.inr hi2)),h1,q3⟩,fun i => ?_,fun i hi hi2 => ?_⟩
   ·show f i↔g1 i ∨ (f1 i∨g2 i)
    rw [hf i,q4 i]
    constructor
    ·rintro (h | h | h)
     ·exact .inr (.inl h)
     ·exact .inl h
     ·exact .inr (.inr h)
    ·rintro (h | h | h)
     ·exact .inr (.inl h)
     ·exact .inl h
     ·exact .inr (.inr h)
   ·rcases hi2 with h | h
    ·exact hd i h ((q4 i).2 (.inl hi))
    ·exact q5 i hi h
theorem extract_ok (h:RelX Z F w0 Wr Zi N S a w) {s j:Nat} {ts:List TV} {tv:TV} (ho:o.op=.extract (.tmp s) j) (hg:S.get s=some (.tup ts)) (hj:ts[j]?=some tv) (hp:putS N (S.put s (.tup (ts.set j ⟨.any,()⟩))) o.dst (.val tv.sh tv.x)=some S'):Runs P o a w (Rel w0 Wr Zi N S'):=by
 obtain ⟨v,hv,vs,rfl,hvs⟩:=h.rep s _ (SS.get_mem hg)
 obtain ⟨u,f1,f2,q1,q2,q3,q4,q5⟩:=vreps_set hvs hj
 have hlt:s < a.tmps.size:=(Array.getElem?_eq_some_iff.1 hv).1
 have h1:=h.putG (d:=s) (sv:=.tup (ts.set j ⟨.any,()⟩)) (v:=.tuple vs.toArray) (f:=f2) (U:=fun _ => False) (w':=w) hlt (fun _ => hv) (Grow.refl _ _) (fun i hi => hi.elim)
  (fun i hi => ⟨h.lt s i ((q4 i).2 (.inr hi)),.inr ⟨h.nz s i ((q4 i).2 (.inr hi)),fun t ht hf => ht (h.apart t s i hf ((q4 i).2 (.inr hi))),h.wr s i ((q4 i).2 (.inr hi))⟩⟩)
  ⟨vs,rfl,q3⟩
 rw [put_idem hv] at h1
 refine Runs.make (U:=fun _ => False) (f:=f1) h1 hp (v:=u) ?_ (Grow.refl _ _) (fun i hi => hi.elim) (fun i hi => ?_) q2
 ·have hjl:vs.toArray[j]?=some u:=by simpa using q1
  have hjl':vs[j]?=some u:=q1
  simp [execOp,ho,eval_of hv,Instr.extract,hjl']
 ·have hfi:=(q4 i).2 (.inl hi)
  refine ⟨h.lt s i hfi,.inr ⟨h.nz s i hfi,fun t ht => ?_,h.wr s i hfi⟩⟩
  by_cases e:t=s
  ·simp only [e,if_true] at ht; exact q5 i hi ht
  ·simp only [e,if_false] at ht; exact e (h.apart t s i ht hfi)
theorem RRep.drop {α:Type} {R:α→List Value→Fp→Prop} {size:Nat} (hR:∀ x cs f,R x cs f→cs.length=size):∀ {xs:List α} {cs:List Value} {f:Fp} (n:Nat),RRep R xs cs f→∃ f',RRep R (xs.drop n) (cs.drop (n*size)) f'∧∀ i,f' i→f i
 | [],cs,f,n,h => by obtain ⟨rfl,h0⟩:=h; exact ⟨f,by simpa using ⟨rfl,h0⟩,fun _ => id⟩
 | x :: xs,cs,f,0,h => ⟨f,by simpa using h,fun _ => id⟩
 | x :: xs,cs,f,n+1,h => by
   obtain ⟨c1,c2,f1,f2,rfl,hf,hd,h1,h2⟩:=h
   obtain ⟨f',h3,h4⟩:=RRep.drop hR n h2
   refine ⟨f',?_,fun i hi => (hf i).2 (.inr (h4 i hi))⟩
   rw [List.drop_succ_cons]
   have e:(c1 ++ c2).drop ((n+1)*size)=c2.drop (n*size):=by
    rw [List.drop_append,Nat.succ_mul,hR _ _ _ h1,List.drop_eq_nil_of_le (by rw [hR _ _ _ h1]; omega)]
    simp
   rw [e]; exact h3
theorem roSlice_ok (hT:TOk P T) (h:RelX Z F w0 Wr Zi N S a w) {t te:Nat} {e:Sh} {X:Operand} {L H:Option Operand} {xs:List e.den} {lo hi:Nat} (ho:o.op=.slice t X L H none) (ht:elemT T t e=true) (hx:opd T S t X=some (.val (.sl false te e) xs))
 (hlo:BndIs T S t L 0 lo) (hhi:BndIs T S t H (List.length xs) hi)
 (h1:lo≤hi) (h2:hi≤List.length xs) (hp:putS N S o.dst (.val (.sl false te e) (List.drop lo (List.take hi xs)))=some S'):Runs P o a w (Rel w0 Wr Zi N S'):=by
 obtain ⟨cs,hcr,hv⟩:=opd_rep h hx
 obtain ⟨v',inner,fr,rfl,hrr,hf0,hfr,A,c,rfl,hnc,hcm,hs,hread⟩:=hcr
 have hv:a.eval X=.slice A (List.length xs) c:=by simpa [ValOf] using hv.symm
 obtain ⟨te',ie,info,hd,hie,hinfo,hisz,_,_⟩:=elemT_run hT ht
 have hnc':List.length xs≤c:=hnc
 obtain ⟨f1,q1,q2⟩:=RRep.take (size:=e.size) (fun x cs f h => CRep.length h) hi hrr
 obtain ⟨f2,q3,q4⟩:=RRep.drop (size:=e.size) (fun x cs f h => CRep.length h) lo q1
 have hln:(List.drop lo (List.take hi xs)).length=hi - lo:=by rw [List.length_drop,List.length_take,Nat.min_eq_left h2]
 refine Runs.read h hp (v:=.slice (if c=lo then A else Option.map (fun x => x.add (lo*e.size)) A) (hi - lo) (c - lo)) ?_ ?_
 ·have h2c:hi≤c:=by omega
  cases L with
  | none =>
    obtain rfl:lo=0:=hlo
    cases H with
    | none => obtain rfl:hi=_:=hhi; simp [execOp,ho,hv,Instr.sliceAt,Instr.slice,run_underlying hd,Instr.sliceBounds,Go.sizeOf,typeInfo,hinfo,hisz]
    | some H =>
      obtain ⟨k,hH⟩:=hhi
      have eH:a.eval H=.int k hi:=scal_eval (Z:=Z) (w:=w) (tv:=⟨.int k,(hi:Int)⟩) rfl (opv_rep h hH)
      simp [execOp,ho,hv,eH,Instr.sliceAt,Instr.slice,run_underlying hd,Instr.sliceBounds,Instr.sliceBound,asIntOf,h2c,Go.sizeOf,typeInfo,hinfo,hisz]
  | some L =>
    obtain ⟨k,hL⟩:=hlo
    have eL:a.eval L=.int k lo:=scal_eval (Z:=Z) (w:=w) (tv:=⟨.int k,(lo:Int)⟩) rfl (opv_rep h hL)
    cases H with
    | none =>
      obtain rfl:hi=_:=hhi
      have h1':lo≤List.length xs:=h1
      simp [execOp,ho,hv,eL,Instr.sliceAt,Instr.slice,run_underlying hd,Instr.sliceBounds,Instr.sliceBound,asIntOf,h1',Go.sizeOf,typeInfo,hinfo,hisz]
    | some H =>
      obtain ⟨k',hH⟩:=hhi
      have eH:a.eval H=.int k' hi:=scal_eval (Z:=Z) (w:=w) (tv:=⟨.int k',(hi:Int)⟩) rfl (opv_rep h hH)
      simp [execOp,ho,hv,eL,eH,Instr.sliceAt,Instr.slice,run_underlying hd,Instr.sliceBounds,Instr.sliceBound,asIntOf,h1,h2c,Go.sizeOf,typeInfo,hinfo,hisz]
 ·refine ⟨_,⟨_,(inner.take (hi*e.size)).drop (lo*e.size),f2,rfl,q3,fun _ => id,fun i hi' => hfr i (q2 i (q4 i hi')),_,c - lo,by rw [hln],by rw [hln]; omega,by omega,?_,?_⟩,rfl⟩
  ·rw [hln]
   intro hpos
   have hcl:c≠lo:=by omega
   obtain ⟨ad,hA⟩:=hs (show 0 < List.length xs by omega)
   simp [hcl,hA]
  ·intro j u hu
   have hin:=RRep.length (size:=e.size) (fun x cs f h => CRep.length h) hrr
   rw [List.getElem?_drop,List.getElem?_take] at hu
   split at hu
   ·rename_i hlt
    obtain ⟨ad,hA,hz,hcell⟩:=hread _ u hu
    have hcl:c≠lo:=by
     intro e
     have:hi=lo:=by omega
     subst this
     omega
    refine ⟨ad.add (lo*e.size),by simp [hcl,hA],by rw [add_block]; exact hz,?_⟩
    rw [← hcell]
    unfold World.cell?
    rw [add_block,add_block,add_block]
    have:((ad.add (lo*e.size)).add j).off = (ad.add (lo*e.size+j)).off ∧ ((ad.add (lo*e.size)).add j).spot.isSome = (ad.add (lo*e.size+j)).spot.isSome:=by
     unfold Addr.add
     split <;> split <;> split <;> simp_all <;> omega
    rw [this.1,this.2]
   ·cases hu
end
end Go.Vm
