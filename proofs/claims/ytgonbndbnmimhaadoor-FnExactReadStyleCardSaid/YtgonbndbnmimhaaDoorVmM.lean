/- Literals, tuples, cuts that are read, calls. -/
import Derived.Test.YtgonbndbnmimhaaDoorVmL
set_option linter.unusedVariables false
set_option linter.unusedSimpArgs false
namespace Go.Vm
open Go
def Does (P:Program) (o:Oper) (a:Act) (w:World) (R:Act→World→Prop):Prop :=
 ∀ (K:Act→World→Prop) (Q:Exit→Act→World→Prop),(∀ a w,R a w→K a w)→o.wp P a w K Q
theorem Runs.does {P:Program} {o:Oper} {a:Act} {w:World} {R:Act→World→Prop} (h:Runs P o a w R):Does P o a w R:=fun K Q hK => h.wp hK
theorem VRep.lt {Z:Fp} {w:World} {s:Sh} {x:s.den} {v:Value} {f:Fp} (h:VRep Z w s x v f):∀ i,f i→i < w.heap.size:=by
 obtain ⟨cs,hc,_⟩:=h; exact CRep.lt hc
theorem VReps.lt {Z:Fp} {w:World}:∀ {ts:List TV} {vs:List Value} {f:Fp},VReps Z w ts vs f→∀ i,f i→i < w.heap.size
 | [],vs,f,h => fun i hi => absurd hi (h.2 i)
 | t :: ts,vs,f,h => by
   obtain ⟨v,vs',f1,f2,rfl,he,hd,h1,h2⟩:=h
   intro i hi
   rcases (he i).1 hi with hi | hi
   ·exact VRep.lt h1 i hi
   ·exact VReps.lt h2 i hi
def takeL (T:Tbl) (S:SS) (ty:Nat):List Operand→Option (List TV × SS)
 | [] => some ([],S)
 | X :: r => match takeO T S ty X with
   | some (tv,S1) => match takeL T S1 ty r with
     | some (tvs,S2) => some (tv :: tvs,S2)
     | none => none
   | none => none
section
variable {P:Program} {T:Tbl} {Z:Fp} {F:Nat→Fp} {w0:World} {Wr Zi:Fp} {N:Fr} {S S' S1:SS} {a:Act} {w:World} {o:Oper}
theorem takeL_rep:∀ {l:List Operand} {F:Nat→Fp} {S S1:SS} {ty:Nat} {tvs:List TV},RelX Z F w0 Wr Zi N S a w→takeL T S ty l=some (tvs,S1) →
 ∃ F1 f,VReps Z w tvs (l.map a.eval) f∧RelX Z F1 w0 Wr Zi N S1 a w∧Held Z F1 w0 Wr w f ∧ (∀ s i,F1 s i→F s i)∧∀ i,f i → (∃ s,F s i)
 | [],F,S,S1,ty,tvs,h,ht => by
   cases ht
   exact ⟨F,fun _ => False,⟨rfl,fun _ => id⟩,h,Held.none,fun _ _ => id,fun i hi => hi.elim⟩
 | X :: r,F,S,S1,ty,tvs,h,ht => by
   simp only [takeL] at ht
   split at ht
   ·rename_i tv S2 hx
    split at ht
    ·rename_i tvs' S3 hr
     cases ht
     obtain ⟨F1,f1,hv,h1,hh1,hs1,hin1⟩:=takeO_rep h hx
     obtain ⟨F2,f2,hvs,h2,hh2,hs2,hin⟩:=takeL_rep h1 hr
     refine ⟨F2,fun i => f1 i∨f2 i,⟨a.eval X,r.map a.eval,f1,f2,rfl,fun i => Iff.rfl,fun i hi hi2 => ?_,hv,hvs⟩,h2,?_,fun s i hi => hs1 s i (hs2 s i hi),?_⟩
     ·obtain ⟨s,hs⟩:=hin i hi2
      exact (hh1 i hi).2.2.1 s hs
     ·rintro i (hi | hi)
      ·obtain ⟨q1,q2,q3,q4⟩:=hh1 i hi
       exact ⟨q1,q2,fun s hs => q3 s (hs2 s i hs),q4⟩
      ·exact hh2 i hi
     ·rintro i (hi | hi)
      ·exact hin1 i hi
      ·obtain ⟨s,hs⟩:=hin i hi
       exact ⟨s,hs1 s i hs⟩
    ·cases ht
   ·cases ht
theorem fold_set:∀ (l:List Value) (k off:Nat) (A B:List Value),A.length=off+k→l.length≤B.length →
 ((l.zipIdx k).foldl (fun cs x => Array.setIfInBounds cs (off+x.2) x.1) (A ++ B).toArray) = (A ++ l ++ B.drop l.length).toArray
 | [],k,off,A,B,_,_ => by simp
 | v :: l,k,off,A,B,hA,hB => by
   match B,hB with
   | b :: B,hB =>
     simp only [List.zipIdx_cons,List.foldl_cons]
     have e:(A ++ b :: B).toArray.setIfInBounds (off+k) v = ((A ++ [v]) ++ B).toArray:=by
      apply Array.toList_inj.1
      simp [← hA,List.set_append]
     rw [e,fold_set l (k+1) off (A ++ [v]) B (by simp [hA]; omega) (by simpa using hB)]
     simp
theorem fill_step {place:Nat→Option (Nat × Nat)} {A M B:List Value} {i size:Nat} {v:Value} {rest:List (Nat × Value)} (hp:place i=some (A.length,size)) (hv:v.cells.size=size) (hM:M.length=size) :
 Instr.fill place (A ++ M ++ B).toArray ((i,v) :: rest)=Instr.fill place (A ++ v.cells.toList ++ B).toArray rest:=by
 have h1:¬ (A.length+v.cells.size > (A ++ M ++ B).toArray.size):=by simp [hM,hv]
 have h2:v.cells.zipIdx.foldl (fun cs x => match x with | (c,j) => cs.setIfInBounds (A.length+j) c) (A ++ M ++ B).toArray = (A ++ v.cells.toList ++ B).toArray:=by
  have:=fold_set v.cells.toList 0 A.length A (M ++ B) (by simp) (by simp [hM,hv])
  rw [← Array.foldl_toList]
  have hz:v.cells.zipIdx.toList=v.cells.toList.zipIdx 0:=by simp
  rw [hz,List.append_assoc]
  rw [show (fun (cs:Array Value) (x:Value × Nat) => match x with | (c,j) => cs.setIfInBounds (A.length+j) c)=fun cs x => Array.setIfInBounds cs (A.length+x.2) x.1 from rfl]
  rw [this]
  simp [← hM,hv ▸ hM,List.drop_append]
 rw [Instr.fill]
 simp only [hp,hv,ne_eq,not_true_eq_false,decide_false,Bool.false_or,decide_eq_true_eq]
 rw [if_neg (by rw [hv] at h1; exact h1)]
 rw [h2]
def toRow (e:Sh):List TV→Option (List e.den)
 | [] => some []
 | tv :: r => if h:tv.sh=e then match toRow e r with
   | some ys => some ((h ▸ tv.x) :: ys)
   | none => none
   else none
theorem toRow_rep {e:Sh} (hany:e≠.any):∀ {tvs:List TV} {vs:List Value} {f:Fp} {ys:List e.den},toRow e tvs=some ys→VReps Z w tvs vs f →
 RRep (CRep Z w e) ys (vs.flatMap fun v => v.cells.toList) f∧ys.length=tvs.length∧vs.length=tvs.length∧∀ v ∈ vs,v.cells.size=e.size
 | [],vs,f,ys,ht,h => by cases ht; obtain ⟨rfl,h0⟩:=h; exact ⟨⟨rfl,h0⟩,rfl,rfl,fun v hv => by simp at hv⟩
 | tv :: r,vs,f,ys,ht,h => by
   simp only [toRow] at ht
   split at ht
   ·rename_i he
    split at ht
    ·rename_i ys' hr
     cases ht
     obtain ⟨v,vs',f1,f2,rfl,hf,hd,⟨cs,hc,hv⟩,h2⟩:=h
     obtain ⟨tsh,tx⟩:=tv
     subst he
     obtain ⟨i1,i2,i3,i4⟩:=toRow_rep hany hr h2
     have hcells:=val_cells hc hv hany
     refine ⟨⟨cs,_,f1,f2,by simp [hcells],hf,hd,hc,i1⟩,by simp [i2],by simp [i3],?_⟩
     intro u hu
     rcases List.mem_cons.1 hu with rfl | hu
     ·rw [← Array.length_toList,hcells,CRep.length hc]
     ·exact i4 u hu
    ·cases ht
   ·cases ht
theorem fill_lits (size:Nat):∀ (vs:List Value) (k:Nat) (done z:List Value),done.length=k*size→z.length=vs.length*size → (∀ v ∈ vs,v.cells.size=size) →
 Instr.fill (fun i => some (i*size,size)) (done ++ z).toArray ((vs.zipIdx k).map fun p => (p.2,p.1))=some (done ++ vs.flatMap fun v => v.cells.toList).toArray
 | [],k,done,z,hd,hz,_ => by
   have:z=[]:=List.eq_nil_of_length_eq_zero (by simpa using hz)
   subst this
   simp [Instr.fill]
 | v :: vs,k,done,z,hd,hz,hv => by
   have hv0:=hv v (by simp)
   have hzl:size≤z.length:=by rw [hz,List.length_cons,Nat.succ_mul]; omega
   have e:done ++ z=done ++ z.take size ++ z.drop size:=by simp
   simp only [List.zipIdx_cons,List.map_cons]
   rw [e,fill_step (size:=size) (by simp [hd]) hv0 (by simp [hzl])]
   have hl:v.cells.toList.length=size:=by simpa using hv0
   rw [fill_lits size vs (k+1) (done ++ v.cells.toList) (z.drop size) (by simp [hd,hl,Nat.succ_mul]) (by simp [hz,Nat.succ_mul]) (fun u hu => hv u (by simp [hu]))]
   simp
def litV (T:Tbl) (t:Nat) (tvs:List TV):Option TV :=
 match T.find t with
 | some i => match i.kd with
   | .slice te => match T.find te with
     | some ie => match tvs with
       | [] => some ⟨.sl true te ie.zero,[]⟩
       | tv :: r => if fits ie tv.sh && fits ie ie.zero && tv.sh != .any && decide (tvs.length < 1000) && decide (ie.size < 1000) && decide (0 < ie.size) then match toRow tv.sh (tv :: r) with
         | some ys => some ⟨.sl true te tv.sh,ys⟩
         | none => none
         else none
     | none => none
   | _ => none
 | none => none
theorem buildSlice_run {t te n:Nat} {info:TypeInfo} {z:Value} (hd:P.underlying t=some (.slice te)) (hinfo:P.info? te=some info) (hz:info.zero=some z) (hbig:¬ (n*info.size > 2 ^ 24)) (h0:n*info.size≠0)
 (parts:Array (Nat × Value)) (cells:Array Value) (hf:Instr.fill (fun i => some (i*info.size,info.size)) (madeCells z.cells (n*info.size)) parts.toList=some cells) (w:World) :
 (Instr.buildSlice t n parts).run P w=.ok (.slice (some ⟨w.heap.size,0,none⟩) n n) (w.alloc (.cells cells te)):=by
 have hf':Instr.fill (fun i => some (i*info.size,info.size)) (Array.map (fun x => z.cells[x % z.cells.size]!) (Array.range (n*info.size))) parts.toList=some cells:=hf
 unfold Instr.buildSlice
 simp only [Sem.run_bind,run_underlying hd,Result.andThen_ok,Go.sizeOf,typeInfo,run_program,hinfo,Sem.run_pure,Sem.run_ite,hbig,if_false,h0,zeroValue,hz,hf']
 simp [Go.newRow]
def inOrder:Nat→List (Nat × Operand)→Bool
 | _,[] => true
 | k,(i,_) :: r => i == k && inOrder (k+1) r
theorem inOrder_map (a:Act):∀ (k:Nat) (l:List (Nat × Operand)),inOrder k l=true→l.map (fun p => (p.1,a.eval p.2)) = (((l.map (·.2)).map a.eval).zipIdx k).map fun p => (p.2,p.1)
 | _,[],_ => rfl
 | k,(i,x) :: r,h => by
   simp only [inOrder,Bool.and_eq_true,beq_iff_eq] at h
   simp [h.1,inOrder_map a (k+1) r h.2]
theorem buildSlice_ok (hT:TOk P T) (h:RelX Z F w0 Wr Zi N S a w) {t n:Nat} {parts:Array (Nat × Operand)} {tvs:List TV} {r:TV} (ho:o.op=.buildSlice t n parts) (hn:n=parts.toList.length) (hord:inOrder 0 parts.toList=true)
 (htk:takeL T S o.type (parts.toList.map (·.2))=some (tvs,S1)) (hr:litV T t tvs=some r) (hp:putS N S1 o.dst (.val r.sh r.x)=some S'):Runs P o a w (Rel w0 Wr Zi N S'):=by
 obtain ⟨F1,f,hvs,h1,hh,_⟩:=takeL_rep h htk
 unfold litV at hr
 split at hr
 ·rename_i i hi
  split at hr
  ·rename_i te hk
   split at hr
   ·rename_i ie hie
    obtain ⟨ht,hty⟩:=hT.find hi
    obtain ⟨d,hd,hdk⟩:=hty.desc
    rw [ht] at hd
    rw [hk] at hdk
    have:d=.slice te:=by cases d <;> simp_all [kdOf]
    subst this
    obtain ⟨hte,htye⟩:=hT.find hie
    obtain ⟨info,hinfo,hsz,hby,hz⟩:=htye.info
    rw [hte] at hinfo
    have hpe:(parts.map fun x => match x with | (i,x) => (i,a.eval x)).toList=parts.toList.map (fun p => (p.1,a.eval p.2)):=by simp
    split at hr
    ·cases hr
     obtain ⟨hv0,hf0⟩:=hvs
     have hp0:parts.toList=[]:=by simpa using hv0
     have hn0:n=0:=by rw [hn,hp0]; rfl
     subst hn0
     refine Runs.newRow (t:=te) (e:=ie.zero) (xs:=[]) (cs:=[]) h1 ⟨rfl,hf0⟩ hh (by simp) ?_ hp
     have hpe0:parts=#[]:=by apply Array.toList_inj.1; simpa using hp0
     have e0:Array.range 0=#[]:=rfl
     simp [execOp,ho,Instr.buildSlice,run_underlying hd,Go.sizeOf,typeInfo,hinfo,hpe0,Instr.fill,Go.newRow]
     simp only [e0,Array.map_empty]
    ·rename_i tv r'
     split at hr
     ·rename_i hf
      split at hr
      ·rename_i ys hys
       cases hr
       simp only [Bool.and_eq_true,decide_eq_true_eq,bne_iff_ne,ne_eq] at hf
       obtain ⟨⟨⟨⟨⟨hf1,hf2⟩,hany⟩,hl1⟩,hl2⟩,hl3⟩:=hf
       obtain ⟨q1,q2,q3,q4⟩:=toRow_rep hany hys hvs
       have hnl:n = (tv :: r').length:=by rw [hn,← q3]; simp
       have hisz:info.size=tv.sh.size:=by simp only [fits,Bool.and_eq_true,beq_iff_eq] at hf1; omega
       have hzc:ie.zero.zeroV.cells.size=tv.sh.size:=by
        rw [← Array.length_toList,zero_cells ie hf2,CRep.length (Sh.zeros_rep Z w ie.zero)]
        simp only [fits,Bool.and_eq_true,beq_iff_eq] at hf1 hf2; omega
       refine Runs.newRow (t:=te) h1 q1 hh (by omega) ?_ hp
       have hbig:¬ (n*info.size > 2 ^ 24):=by
        have:n*info.size≤1000*1000:=Nat.mul_le_mul (by omega) (by omega)
        omega
       have hfill:∀ z:List Value,z.length=n*info.size→Instr.fill (fun i => some (i*info.size,info.size)) z.toArray (parts.map fun x => match x with | (i,x) => (i,a.eval x)).toList=some ((parts.toList.map (·.2)).map a.eval |>.flatMap fun v => v.cells.toList).toArray:=by
        intro z hz
        rw [hpe,inOrder_map a 0 _ hord]
        have:=fill_lits info.size ((parts.toList.map (·.2)).map a.eval) 0 [] z (by simp) (by rw [hz,hn]; simp) (fun v hv => by rw [q4 v hv,hisz])
        simpa using this
       have h0:n*info.size≠0:=by
        have:0 < n:=by rw [hnl]; simp
        exact Nat.ne_of_gt (Nat.mul_pos this (by omega))
       have hrun:=buildSlice_run (P:=P) hd hinfo hz hbig h0 (parts.map fun x => match x with | (i,x) => (i,a.eval x)) _ (by
        have:=hfill (madeCells ie.zero.zeroV.cells (n*info.size)).toList (by simp [madeCells])
        rw [Array.toArray_toList] at this
        exact this) w
       have hys:n=ys.length:=by rw [hnl,q2]
       rw [hys] at hrun
       simp only [execOp,ho,Sem.run_bind]
       rw [hys,hrun]
       rfl
      ·cases hr
     ·cases hr
   ·cases hr
  ·cases hr
 ·cases hr
end
end Go.Vm
