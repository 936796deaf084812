/- Loads, elements, lengths; variables and slices that are made. -/
import Derived.Test.YtgonbndbnmimhaaDoorVmH
import Derived.MapKept
set_option linter.unusedVariables false
set_option linter.unusedSimpArgs false
namespace Go.Vm
open Go
def KD.agg:KD→Bool
 | .struct _ => true
 | .array _ _ => true
 | _ => false
theorem agg_run {P:Program} {d:TypeDesc} {t:Nat} (hd:P.underlying t=some d) (w:World):(isAgg t).run P w=.ok (kdOf d).agg w:=by
 unfold isAgg
 rw [Sem.run_bind,run_underlying hd w]
 cases d <;> simp [kdOf,KD.agg]
def fits (i:TI) (s:Sh):Bool:=i.size == s.size && i.kd.agg == s.isSt && (s.isSt || s.size == 1)
theorem ValOf.mk {s:Sh} {cs:List Value} (h1:s.isSt=false→cs.length=1):∃ v,ValOf s v cs ∧ (s.isSt=true→v=.agg cs.toArray) ∧ (s.isSt=false→cs=[v]):=by
 by_cases hst:s.isSt=true
 ·refine ⟨.agg cs.toArray,?_,fun _ => rfl,fun h => by rw [hst] at h; cases h⟩
  cases s <;> first | rfl | simp [Sh.isSt] at hst
 ·simp only [Bool.not_eq_true] at hst
  have:=h1 hst
  match cs,this with
  | [v],_ =>
    refine ⟨v,?_,fun h => (by rw [hst] at h; cases h),fun _ => rfl⟩
    cases s <;> first | rfl | trivial | simp [Sh.isSt] at hst
theorem load_run {P:Program} {T:Tbl} (hT:TOk P T) {t:Nat} {i:TI} (hi:T.find t=some i) {s:Sh} (hf:fits i s=true) {cs:List Value} (hl:cs.length=s.size) {ad:Addr} {w:World}
 (hc:∀ j u,cs[j]?=some u→w.cell? (ad.add j)=some u):∃ v,(Instr.loadAt t (.pointer (some ad))).run P w=.ok v w∧ValOf s v cs:=by
 simp only [fits,Bool.and_eq_true,beq_iff_eq,Bool.or_eq_true] at hf
 obtain ⟨⟨hs,ha⟩,h1⟩:=hf
 obtain ⟨ht,hty⟩:=hT.find hi
 obtain ⟨d,hd,hdk⟩:=hty.desc
 obtain ⟨info,hinfo,hsz,_⟩:=hty.info
 rw [ht] at hd hinfo
 obtain ⟨v,hv,e1,e2⟩:=ValOf.mk (s:=s) (cs:=cs) (fun h => by rcases h1 with h1 | h1; rw [h1] at h; cases h; omega)
 refine ⟨v,?_,hv⟩
 simp only [Instr.loadAt,Instr.sureAddr,Sem.run_bind,Sem.run_pure,Result.andThen_ok,loadVar,agg_run hd,hdk,ha]
 by_cases hst:s.isSt=true
 ·rw [e1 hst]
  simp only [hst,if_true,Go.sizeOf,typeInfo,Sem.run_bind,run_program,Result.andThen_ok,hinfo,Sem.run_pure,hsz,hs,← hl]
  rw [run_loadCells_list (P:=P) w ad cs hc]
  rfl
 ·simp only [Bool.not_eq_true] at hst
  have:=e2 hst
  subst this
  have h0:=hc 0 v rfl
  have:ad.add 0=ad:=by simp [Addr.add]
  rw [this] at h0
  simp [hst,h0]
section
variable {P:Program} {T:Tbl} {Z:Fp} {F:Nat→Fp} {w0:World} {Wr Zi:Fp} {N:Fr} {S S':SS} {a:Act} {w:World} {o:Oper}
def loadV (T:Tbl) (S:SS) (t:Nat):SV→Option SV
 | .addr k p => match placeOf S k p,T.find t with
   | some ⟨s1,x1⟩,some i => if fits i s1 then (if s1.noOwn then some (.val s1 x1) else some (.copy k p)) else none
   | _,_ => none
 | .val (.pt false _ e) (some x1) => match T.find t with
   | some i => if fits i e then some (.val e x1) else none
   | none => none
 | _ => none
theorem load_ok (hT:TOk P T) (h:RelX Z F w0 Wr Zi N S a w) {t:Nat} {X:Operand} {sv r:SV} (ho:o.op=.load t X) (hx:(opd T S t X).map (derefV S)=some sv)
 (hr:loadV T S t sv=some r) (hp:putS N S o.dst r=some S'):Runs P o a w (Rel w0 Wr Zi N S'):=by
 have hrep:sv.rep Z S w a.tmps (a.eval X) (fun _ => False):=by
  obtain ⟨sv0,hx0,rfl⟩:=Option.map_eq_some_iff.1 hx
  exact derefV_rep h (opd_rep h hx0)
 unfold loadV at hr
 split at hr
 ·rename_i k p
  split at hr
  ·rename_i s1 x1 i hpl hi
   split at hr
   ·rename_i hf
    obtain ⟨s,x,hg,hroot,hat⟩:=placeOf_some hpl
    obtain ⟨_,s',x',vh,g,oo,hh,_,hpn,hok,hl,hv⟩:=hrep
    have he:=home_is h hh hg
    simp only [TV.mk.injEq] at he
    obtain ⟨rfl,he⟩:=he
    obtain rfl:=eq_of_heq he
    obtain ⟨g',t',pre',cs',post',f',R⟩:=rfocus p s' x' vh (F k) ⟨s1,x1⟩ (root_cells hroot (home_rep h hh)) hpn (by cases s' <;> first | exact hroot.elim | trivial | exact absurd (mp_path hok) (by assumption)) hok hat
    have hgo:=R.at_
    rw [hl] at hgo
    simp only [Option.some.injEq,Prod.mk.injEq] at hgo
    obtain ⟨rfl,rfl⟩:=hgo
    have hcells:CellsAt w g pre'.length cs':=fun j u hu => by
     rw [cells_mid R.heap j (List.getElem?_eq_some_iff.1 hu).1]; exact hu
    obtain ⟨v,hrun,hval⟩:=load_run hT hi hf (CRep.length R.rep) (ad:=⟨g,pre'.length,none⟩) (w:=w) (fun j u hu => by rw [Addr.add_mid]; exact hcells j u hu)
    refine Runs.read h hp (v:=v) (by simp [execOp,ho,hv,hrun]) ?_
    split at hr
    ·rename_i hn
     cases hr
     exact VRep.noOwn hn ⟨cs',R.rep,hval⟩
    ·cases hr
     exact ⟨fun _ => id,s',x',vh,hh,.inr ⟨g,pre'.length,s1,x1,cs',hroot,hpn,hok,hat,hl,CRep.length R.rep,hcells,hval⟩⟩
   ·cases hr
  ·cases hr
 ·rename_i tt e x1
  split at hr
  ·rename_i i hi
   split at hr
   ·rename_i hf
    cases hr
    obtain ⟨cs,hcr,hv⟩:=hrep
    obtain ⟨v',inner,fr,rfl,hre,h0,hfr,ad,rfl,hread⟩:=hcr
    have hv:a.eval X=.pointer (some ad):=by simpa [ValOf] using hv.symm
    obtain ⟨v,hrun,hval⟩:=load_run hT hi hf (CRep.length hre) (ad:=ad) (w:=w) (fun j u hu => (hread j u hu).2)
    refine Runs.read h hp (v:=v) (by simp [execOp,ho,hv,hrun]) ?_
    exact ⟨inner,CRep.ext (fun i => ⟨False.elim,hfr i⟩) hre,hval⟩
   ·cases hr
  ·cases hr
 ·cases hr
def elemT (T:Tbl) (t:Nat) (e:Sh):Bool :=
 match T.find t with
 | some i => match i.kd with
   | .slice te => match T.find te with
     | some ie => ie.size == e.size
     | none => false
   | _ => false
 | none => false
theorem elemT_run (hT:TOk P T) {t:Nat} {e:Sh} (h:elemT T t e=true):∃ te ie info,P.underlying t=some (.slice te)∧T.find te=some ie∧P.info? te=some info∧info.size=e.size∧info.bytes=ie.bytes∧info.zero=some ie.zero.zeroV:=by
 unfold elemT at h
 split at h
 ·rename_i i hi
  split at h
  ·rename_i te hk
   split at h
   ·rename_i ie hie
    obtain ⟨ht,hty⟩:=hT.find hi
    obtain ⟨d,hd,hdk⟩:=hty.desc
    rw [ht] at hd
    obtain ⟨hte,htye⟩:=hT.find hie
    obtain ⟨info,hinfo,hsz,hby,hz⟩:=htye.info
    rw [hte] at hinfo
    rw [hk] at hdk
    have:d=.slice te:=by cases d <;> simp_all [kdOf]
    subst this
    exact ⟨te,ie,info,hd,hie,hinfo,by rw [hsz]; simpa using h,hby,hz⟩
   ·cases h
  ·cases h
 ·cases h
theorem index_run {t te:Nat} {info:TypeInfo} (hd:P.underlying t=some (.slice te)) (hinfo:P.info? te=some info) (ad:Addr) (n c:Nat) (k:IntKind) (i:Int) (h0:0≤i) (h1:i < (n:Int)) (w:World) :
 (Instr.indexAt t (.slice (some ad) n c) (.int k i)).run P w=.ok (.pointer (some (ad.add (i.toNat*info.size)))) w:=by
 simp [Instr.indexAt,asIntOf,run_underlying hd,h0,h1,Go.sizeOf,typeInfo,hinfo]
def indexAddrV (T:Tbl) (S:SS) (t:Nat) (i:Int):SV→Option (SV × List Prop)
 | .val (.sl false _ e) xs => if elemT T t e then some (.val (.pt false 0 e) (some (List.getD xs (Int.toNat i) e.dflt)),[0≤i∧i < (List.length xs:Int)]) else none
 | .copy k p => match placeOf S k p with
   | some ⟨.sl true _ e,xs⟩ => if elemT T t e then some (.addr k (p ++ [.idx (Int.toNat i)]),[0≤i∧i < (List.length xs:Int)]) else none
   | _ => none
 | _ => none
theorem indexAddr_ok (hT:TOk P T) (h:RelX Z F w0 Wr Zi N S a w) {t:Nat} {X I:Operand} {sv r:SV} {k:IntKind} {i:Int} {c:List Prop} (ho:o.op=.indexAddr t X I) (hx:opd T S t X=some sv) (hi:opv T S t I=some ⟨.int k,i⟩)
 (hr:indexAddrV T S t i sv=some (r,c)) (hc:AllP c) (hp:putS N S o.dst r=some S'):Runs P o a w (Rel w0 Wr Zi N S'):=by
 have hrep:=opd_rep h hx
 have hI:a.eval I=.int k i:=scal_eval (Z:=Z) (w:=w) (tv:=⟨.int k,i⟩) rfl (opv_rep h hi)
 unfold indexAddrV at hr
 split at hr
 ·rename_i t0 e xs
  split at hr
  ·rename_i hE
   cases hr
   obtain ⟨h0,h1⟩:=hc.1
   obtain ⟨te,ie,info,hd,hie,hinfo,hsz,_,_⟩:=elemT_run hT hE
   obtain ⟨cs,hcr,hv⟩:=hrep
   obtain ⟨v',inner,fr,rfl,hrr,hf0,hfr,A,cc,rfl,hnc,hcm,hsome,hread⟩:=hcr
   have hv:a.eval X=.slice A (List.length xs) cc:=by simpa [ValOf] using hv.symm
   have hlt:i.toNat < List.length xs:=by omega
   obtain ⟨ad,rfl⟩:=hsome (by omega)
   obtain ⟨c1,cx,c2,fi,hin,hl1,hget,hsub,_⟩:=RRep.focus (size:=e.size) (fun x cs f h => CRep.length h) e.dflt i.toNat hlt hrr
   refine Runs.read h hp (v:=.pointer (some (ad.add (i.toNat*e.size)))) (by simp [execOp,ho,hv,hI,index_run hd hinfo ad _ _ k i h0 h1,hsz]) ?_
   refine ⟨_,⟨_,cx,fi,rfl,hget,fun _ => id,fun q hq => hfr q (hsub q hq),ad.add (i.toNat*e.size),rfl,fun jj u hu => ?_⟩,rfl⟩
   have hu':inner[i.toNat*e.size+jj]?=some u:=by
    have hjj:=(List.getElem?_eq_some_iff.1 hu).1
    rw [hin,List.append_assoc,List.getElem?_append_right (by omega),hl1,List.getElem?_append_left (by omega)]
    simpa using hu
   obtain ⟨ad',hA,hz,hcell⟩:=hread _ u hu'
   obtain rfl:ad=ad':=by simpa using hA
   rw [add_block]
   refine ⟨hz,?_⟩
   rw [← hcell]
   unfold World.cell?
   rw [add_block,add_block,add_block]
   have:((ad.add (i.toNat*e.size)).add jj).off = (ad.add (i.toNat*e.size+jj)).off ∧ ((ad.add (i.toNat*e.size)).add jj).spot.isSome = (ad.add (i.toNat*e.size+jj)).spot.isSome:=by
    unfold Addr.add
    split <;> split <;> split <;> simp_all <;> omega
   rw [this.1,this.2]
  ·cases hr
 ·rename_i kk p
  split at hr
  ·rename_i tt e xs hpl
   split at hr
   ·rename_i hE
    cases hr
    obtain ⟨h0,h1⟩:=hc.1
    obtain ⟨te,ie,info,hd,hie,hinfo,hsz,_,_⟩:=elemT_run hT hE
    obtain ⟨s,x,hg,hroot,hat⟩:=placeOf_some hpl
    obtain ⟨vh,f',hh,hok,hsub,hin,hloc⟩:=copy_sub h hrep.2 hg hroot hat trivial
    obtain ⟨v',inner,fr,hvv,hrr,hown,_,_⟩:=hsub
    obtain rfl:a.eval X=v':=by simpa using hvv
    have hlt:i.toNat < List.length xs:=by omega
    rcases hown.2 with ⟨_,hn0⟩ | ⟨g1,cap,cur,hv,_,hg1,hnc,_⟩
    ·omega
    ·refine Runs.read h hp (v:=.pointer (some ⟨g1,i.toNat*e.size,none⟩)) (by simp [execOp,ho,hv,hI,index_run hd hinfo _ _ _ k i h0 h1,hsz,Addr.add_mid]) ?_
     have hpa:=path_append p s x _ _ [.idx i.toNat] hat
     refine ⟨fun _ => id,s,x,vh,g1,i.toNat*e.size,hh,hroot,by simp,hpa.2.1 hok ⟨hlt,by simp [okAt]⟩,?_,rfl⟩
     rw [hloc _ (by simp),hv]
     simp [rootLoc,loc]
   ·cases hr
  ·cases hr
 ·cases hr
def byteAt (s:ByteArray) (i:Int):Int:=if h:i.toNat < s.size then ((s[i.toNat]'h).toNat:Int) else 0
theorem indexStr_ok (hT:TOk P T) (h:RelX Z F w0 Wr Zi N S a w) {t:Nat} {X I:Operand} {k:IntKind} {i:Int} {s:ByteArray} {ti:TI} (ho:o.op=.index t X I) (hti:T.find t=some ti) (hkd:ti.kd=.string) (hx:opv T S t X=some ⟨.str,s⟩) (hi:opv T S t I=some ⟨.int k,i⟩)
 (h0:0≤i) (h1:i < (s.size:Int)) (hp:putS N S o.dst (.val (.int .u8) (byteAt s i))=some S'):Runs P o a w (Rel w0 Wr Zi N S'):=by
 have hI:a.eval I=.int k i:=scal_eval (Z:=Z) (w:=w) (tv:=⟨.int k,i⟩) rfl (opv_rep h hi)
 have hX:a.eval X=.string s:=scal_eval (Z:=Z) (w:=w) (tv:=⟨.str,s⟩) rfl (opv_rep h hx)
 obtain ⟨ht,hty⟩:=hT.find hti
 obtain ⟨d,hd,hdk⟩:=hty.desc
 rw [ht] at hd
 rw [hkd] at hdk
 have:d=.string:=by cases d <;> simp_all [kdOf]
 subst this
 have hlt:i.toNat < s.size:=by omega
 refine Runs.read h hp (v:=.int .u8 (byteAt s i)) ?_ (scal_rep (tv:=⟨.int .u8,byteAt s i⟩) rfl)
 simp [execOp,ho,hX,hI,Instr.index,asIntOf,run_underlying hd,h0,byteAt,hlt]
def nilV (S:SS):SV→Option (List Prop)
 | .addr _ _ => some []
 | .copy k p => match placeOf S k p with
   | some ⟨.pt true _ _,some _⟩ => some []
   | _ => none
 | .val (.pt false _ _) (some _) => some []
 | _ => none
theorem nilCheck_ok (h:RelX Z F w0 Wr Zi N S a w) {X:Operand} {sv:SV} {c:List Prop} (ho:o.op=.nilCheck X) (hx:opd T S o.type X=some sv)
 (hr:nilV S sv=some c) (hc:AllP c) (hp:putS N S o.dst sv=some S'):Runs P o a w (Rel w0 Wr Zi N S'):=by
 have hrep:=opd_rep h hx
 have hv:∃ ad,a.eval X=.pointer (some ad):=by
  unfold nilV at hr
  split at hr
  ·obtain ⟨_,s,x,vh,g,oo,_,_,_,_,_,hv⟩:=hrep
   exact ⟨_,hv⟩
  ·rename_i k p
   split at hr
   ·rename_i t e y hpl
    cases hr
    obtain ⟨s,x,hg,hroot,hat⟩:=placeOf_some hpl
    obtain ⟨vh,f',hh,hok,hsub,hin,hloc⟩:=copy_sub h hrep.2 hg hroot hat trivial
    obtain ⟨v',inner,fr,hvv,hre,g1,rfl,_⟩:=hsub
    exact ⟨⟨g1,0,none⟩,by simpa using hvv⟩
   ·cases hr
  ·rename_i t e y
   cases hr
   obtain ⟨cs,hcr,hv⟩:=hrep
   obtain ⟨v',inner,fr,rfl,hre,h0,hfr,ad,rfl,_⟩:=hcr
   exact ⟨ad,by simpa [ValOf] using hv.symm⟩
  ·cases hr
 obtain ⟨ad,hv⟩:=hv
 exact Runs.read h hp (v:=a.eval X) (by simp [execOp,ho,hv]) hrep
def lenV (S:SS):SV→Option Int
 | .val .str s => some (ByteArray.size s:Int)
 | .val (.sl false _ _) xs => some (List.length xs:Int)
 | .copy k p => match placeOf S k p with
   | some ⟨.sl true _ _,xs⟩ => some (List.length xs:Int)
   | some ⟨.mp true _ _,some l⟩ => some (List.length l:Int)
   | _ => none
 | _ => none
def lenM (S:SS):SV→Bool
 | .copy k p => match placeOf S k p with
   | some ⟨.mp true _ _,some _⟩ => true
   | _ => false
 | _ => false
def lenT (T:Tbl) (t:Nat):Bool:=match T.find t with
 | some i => match i.kd with
   | .string => true
   | .slice _ => true
   | _ => false
 | none => false
def lenOk (T:Tbl) (S:SS) (t:Nat) (sv:SV):Bool:=match T.find t,sv with
 | some i,.val .str _ => match i.kd with | .string => true | _ => false
 | some i,_ => match i.kd with | .slice _ => !(lenM S sv) | .map _ _ => lenM S sv | _ => false
 | none,_ => false
theorem MRep.length {α β:Type} {RK:α→List Value→Fp→Prop} {RV:β→List Value→Fp→Prop} {ks vs:Sh}:∀ {l:List (α × β)} {es:List MapEntry},MRep RK RV ks vs l es→l.length=es.length
 | [],es,h => by cases h; rfl
 | x :: l,es,h => by
   obtain ⟨e,es',rfl,_,_,h⟩:=h
   simp [MRep.length h]
theorem len_ok (hT:TOk P T) (h:RelX Z F w0 Wr Zi N S a w) {t:Nat} {X:Operand} {sv:SV} {n:Int} (ho:o.op=.call { callee:=.builtin .len,args:=#[X],argTypes:=#[t] }) (hx:opd T S t X=some sv)
 (hk:lenOk T S t sv=true) (hr:lenV S sv=some n) (hp:putS N S o.dst (.val (.int .i64) n)=some S'):Runs P o a w (Rel w0 Wr Zi N S'):=by
 have hrep:=opd_rep h hx
 have hgo:∀ m:Int,goInt m=.int .i64 m:=fun m => rfl
 unfold lenOk at hk
 split at hk
 ·rename_i i s hi
  obtain ⟨ht,hty⟩:=hT.find hi
  obtain ⟨d,hd,hdk⟩:=hty.desc
  rw [ht] at hd
  have:d=.string:=by
   split at hk
   ·rename_i hkd; rw [hkd] at hdk; cases d <;> simp_all [kdOf]
   ·cases hk
  subst this
  simp only [lenV,Option.some.injEq] at hr
  subst hr
  have hX:a.eval X=.string s:=scal_eval (Z:=Z) (w:=w) (tv:=⟨.str,s⟩) rfl hrep
  refine Runs.read h hp (v:=.int .i64 _) ?_ (scal_rep (tv:=⟨.int .i64,_⟩) rfl)
  simp [execOp,ho,resolve,invoke,builtin,Builtin.len_,run_underlying hd,hX,hgo]
 ·rename_i i hi hns
  obtain ⟨ht,hty⟩:=hT.find hi
  obtain ⟨d,hd,hdk⟩:=hty.desc
  rw [ht] at hd
  split at hk
  ·rename_i te hkd
   obtain rfl:d=.slice te:=by rw [hkd] at hdk; cases d <;> simp_all [kdOf]
   have hX:∃ A m c,a.eval X=.slice A m c∧n = (m:Int):=by
    unfold lenV at hr
    split at hr
    ·exact absurd rfl (hns _)
    ·cases hr
     obtain ⟨cs,hcr,hv⟩:=hrep
     obtain ⟨v',inner,fr,rfl,hrr,hf0,hfr,A,cc,rfl,_⟩:=hcr
     exact ⟨A,_,cc,by simpa [ValOf] using hv.symm,rfl⟩
    ·split at hr
     ·rename_i hpl
      cases hr
      obtain ⟨s,x,hg,hroot,hat⟩:=placeOf_some hpl
      obtain ⟨vh,f',hh,hok,hsub,hin,hloc⟩:=copy_sub h hrep.2 hg hroot hat trivial
      obtain ⟨v',inner,fr,hvv,hrr,hown,_,_⟩:=hsub
      obtain rfl:a.eval X=v':=by simpa using hvv
      obtain ⟨A,c,he⟩:=own_value hown
      exact ⟨A,_,c,he,rfl⟩
     ·rename_i hpl
      simp [lenM,hpl] at hk
     ·cases hr
    ·cases hr
   obtain ⟨A,m,c,hX,rfl⟩:=hX
   refine Runs.read h hp (v:=.int .i64 (m:Int)) ?_ (scal_rep (tv:=⟨.int .i64,(m:Int)⟩) rfl)
   simp [execOp,ho,resolve,invoke,builtin,Builtin.len_,run_underlying hd,hX,hgo]
  ·rename_i kt et hkd
   obtain rfl:d=.map kt et:=by rw [hkd] at hdk; cases d <;> simp_all [kdOf]
   unfold lenM at hk
   split at hk
   ·split at hk
    ·rename_i l hpl
     obtain ⟨s,x,hg,hroot,hat⟩:=placeOf_some hpl
     obtain ⟨vh,f',hh,hok,hsub,hin,hloc⟩:=copy_sub h hrep.2 hg hroot hat trivial
     obtain ⟨g,es,clk,hvv,hgm,hm,_⟩:=hsub
     have hX:a.eval X=.map (some g):=by simpa using hvv
     simp only [lenV,hpl,Option.some.injEq] at hr
     subst hr
     have hl:List.length l=es.size:=by rw [MRep.length hm.1,Array.length_toList]
     refine Runs.read h hp (v:=.int .i64 (List.length l:Int)) ?_ (scal_rep (tv:=⟨.int .i64,(List.length l:Int)⟩) rfl)
     simp [execOp,ho,resolve,invoke,builtin,Builtin.len_,run_underlying hd,hX,hgo,MapKept.run_getObj_map hgm,hl,Result.andThen]
    ·cases hk
   ·cases hk
  ·cases hk
 ·cases hk
def mm2:Builtin→TV→TV→Option TV
 | .min,⟨.int k,m⟩,⟨.int k',n⟩ => some ⟨.int k,if (n:Int) < m then n else m⟩
 | .max,⟨.int k,m⟩,⟨.int k',n⟩ => some ⟨.int k,if (n:Int) > m then n else m⟩
 | _,_,_ => none
theorem mm2_ok (h:RelX Z F w0 Wr Zi N S a w) {b:Builtin} {X Y:Operand} {ts:Array TypeId} {vx vy r:TV} (ho:o.op=.call { callee:=.builtin b,args:=#[X,Y],argTypes:=ts }) (hx:opv T S o.type X=some vx) (hy:opv T S o.type Y=some vy)
 (hr:mm2 b vx vy=some r) (hp:putS N S o.dst (.val r.sh r.x)=some S'):Runs P o a w (Rel w0 Wr Zi N S'):=by
 have rx:=opv_rep h hx
 have ry:=opv_rep h hy
 unfold mm2 at hr
 split at hr
 ·cases hr
  have e1:=scal_eval (Z:=Z) (w:=w) rfl rx
  have e2:=scal_eval (Z:=Z) (w:=w) rfl ry
  refine Runs.read h hp (v:=.int _ _) ?_ (scal_rep rfl)
  simp [execOp,ho,resolve,invoke,builtin,Builtin.min_,Builtin.min2,e1,e2]
 ·cases hr
  have e1:=scal_eval (Z:=Z) (w:=w) rfl rx
  have e2:=scal_eval (Z:=Z) (w:=w) rfl ry
  refine Runs.read h hp (v:=.int _ _) ?_ (scal_rep rfl)
  simp [execOp,ho,resolve,invoke,builtin,Builtin.max_,Builtin.max2,e1,e2]
 ·cases hr
end
end Go.Vm
