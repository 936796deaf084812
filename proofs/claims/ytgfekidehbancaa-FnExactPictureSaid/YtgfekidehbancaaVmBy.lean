/- Steps on rows of bytes: a literal's bytes, a text appended. -/
import Derived.Test.YtgfekidehbancaaVmAn
import Derived.Test.YtgfekidehbancaaVmAs
import Derived.Test.YtgfekidehbancaaVmCl
import Derived.Lib.ConvBytes
set_option linter.unusedVariables false
set_option linter.unusedSimpArgs false
namespace Go.Vm
open Go
inductive BSp where
 | conv
 | appg
 | appv
 | toB
 | lit (t:TV)
 | clo (m:Nat) (fin:TV) (q:Nat)
def kSl:KD→Nat→Bool
 | .slice e,t => Nat.beq e t
 | _,_ => false
def kU8:KD→Bool
 | .int .u8 => true
 | _ => false
def kStr:KD→Bool
 | .string => true
 | _ => false
theorem kSl_ok {k:KD} {t:Nat} (h:kSl k t=true):k=.slice t:=by
 unfold kSl at h
 split at h
 ·rw [Nat.eq_of_beq_eq_true h]
 ·cases h
theorem kU8_ok {k:KD} (h:kU8 k=true):k=.int .u8:=by
 unfold kU8 at h
 split at h
 ·rfl
 ·cases h
theorem kStr_ok {k:KD} (h:kStr k=true):k=.string:=by
 unfold kStr at h
 split at h
 ·rfl
 ·cases h
def bytT (T:Tbl) (t te:Nat):Bool:=match T.find t,T.find te with
 | some i,some ie => kSl i.kd te && kU8 ie.kd
 | _,_ => false
def convS (T:Tbl) (N:Fr) (S:SS) (o:Oper):SP:=match o.op,o.guard with
 | .convert t t' X,none => if t'=t then match takeO T S t X with
   | some (⟨.sl true te (.int .u8),xs⟩,S1) => if bytT T t te then outS N S1 o.dst (.val (.sl true te (.int .u8)) xs) [0 < List.length xs] else none
   | _ => none
   else none
 | _,_ => none
def strT (T:Tbl) (t te u:Nat):Bool:=match T.find t,T.find te,T.find u with
 | some i,some ie,some iu => kSl i.kd te && kU8 ie.kd && kStr iu.kd && decide (ie.bytes=1) && decide (ie.size=1) && decide (ie.zero=.int .u8)
 | _,_,_ => false
def appgS (T:Tbl) (N:Fr) (S:SS) (o:Oper):SP:=match o.op,o.guard with
 | .call c,none => match c.callee,c.args.toList,c.argTypes.toList with
   | .builtin .append,[X,Y],[t,u] => match opd T S t X,opv T S u Y with
     | some (.copy k (q :: p)),some ⟨.str,s⟩ => match placeOf S k (q :: p) with
       | some ⟨.sl true te (.int .u8),xs⟩ => if strT T t te u && prefAll S k (q :: p) then outS N S o.dst (.grown k (q :: p) ⟨.sl true te (.int .u8),List.append xs (strNums s)⟩) [List.length xs+ByteArray.size s≤140737488355328] else none
       | _ => none
     | _,_ => none
   | _,_,_ => none
 | _,_ => none
def appvS (T:Tbl) (N:Fr) (S:SS) (o:Oper):SP:=match o.op,o.guard with
 | .call c,none => match c.callee,c.args.toList,c.argTypes.toList with
   | .builtin .append,[X,Y],[t,u] => match takeO T S t X,opv T S u Y with
     | some (⟨.sl true te (.int .u8),xs⟩,S1),some ⟨.str,s⟩ => if strT T t te u then outS N S1 o.dst (.val (.sl true te (.int .u8)) (xs ++ strNums s)) [List.length xs+ByteArray.size s≤140737488355328] else none
     | _,_ => none
   | _,_,_ => none
 | _,_ => none
section
variable {P:Program} {T:Tbl} {Z:Fp} {F:Nat→Fp} {w0:World} {Wr Zi:Fp} {N:Fr} {S S' S1 S2:SS} {a:Act} {w:World} {o:Oper}
def toBT (T:Tbl) (q r te:Nat):Bool:=match T.find q,T.find r,T.find te with
 | some i,some j,some ie => kStr i.kd && kSl j.kd te && kU8 ie.kd
 | _,_,_ => false
def slE (T:Tbl) (r:Nat):Option Nat:=match T.find r with
 | some j => match j.kd with
   | .slice te => some te
   | _ => none
 | none => none
def toBS (T:Tbl) (N:Fr) (S:SS) (o:Oper):SP:=match o.op,o.guard with
 | .convert q r X,none => match opv T S q X,slE T r with
   | some ⟨.str,s⟩,some te => if toBT T q r te then outS N S o.dst (.val (.sl true te (.int .u8)) (strNums s)) [ByteArray.size s≤140737488355328] else none
   | _,_ => none
 | _,_ => none
def LitOk (P:Program) (st:Nat) (parts:Array (Nat × Operand)) (t:TV):Prop:=∃ v,(∀ (a:Act) (w:World),(Instr.build st (parts.map fun x => (x.1,a.eval x.2))).run P w=.ok v w)∧∀ (Z:Fp) (w:World),VRep Z w t.sh t.x v (fun _ => False)
def litS (P:Program) (N:Fr) (S:SS) (o:Oper) (t:TV):SP:=match o.op,o.guard with
 | .build st parts,none => outS N S o.dst (.val t.sh t.x) [LitOk P st parts t]
 | _,_ => none
theorem slice_of (hT:TOk P T) {t te:Nat} {i:TI} (hi:T.find t=some i) (hk:i.kd=.slice te):P.underlying t=some (.slice te):=by
 obtain ⟨ht,hty⟩:=hT.find hi
 obtain ⟨d,hd,hdk⟩:=hty.desc
 rw [ht] at hd
 rw [hk] at hdk
 have:d=.slice te:=by cases d <;> simp_all [kdOf]
 rw [hd,this]
theorem int_of (hT:TOk P T) {t:Nat} {k:IntKind} {i:TI} (hi:T.find t=some i) (hk:i.kd=.int k):P.underlying t=some (.int k):=by
 obtain ⟨ht,hty⟩:=hT.find hi
 obtain ⟨d,hd,hdk⟩:=hty.desc
 rw [ht] at hd
 rw [hk] at hdk
 have:d=.int k:=by cases d <;> simp_all [kdOf]
 rw [hd,this]
theorem string_of (hT:TOk P T) {t:Nat} {i:TI} (hi:T.find t=some i) (hk:i.kd=.string):P.underlying t=some .string:=by
 obtain ⟨ht,hty⟩:=hT.find hi
 obtain ⟨d,hd,hdk⟩:=hty.desc
 rw [ht] at hd
 rw [hk] at hdk
 have:d=.string:=by cases d <;> simp_all [kdOf]
 rw [hd,this]
theorem freeze_at (w:World) (g n:Nat) {cur:Array Value} {e:Nat} {fz:Nat × Nat} (h:w.heap[g]?=some (.cells cur e fz)):(w.freeze ⟨g,n,none⟩ 1).heap[g]?=some (.cells cur e (if fz.1 == fz.2 then (n,n+1) else (min fz.1 n,max fz.2 (n+1)))) ∧ (∀ i,i≠g → (w.freeze ⟨g,n,none⟩ 1).heap[i]?=w.heap[i]?) ∧ (w.freeze ⟨g,n,none⟩ 1).heap.size=w.heap.size:=by
 have hlt:=(Array.getElem?_eq_some_iff.1 h).1
 have he:=(Array.getElem?_eq_some_iff.1 h).2
 unfold World.freeze
 rw [if_neg (by decide)]
 refine ⟨?_,fun i hi => ?_,by simp⟩
 ·simp only [Array.getElem?_modify,if_true,h,Option.map_some]
 ·simp only [Array.getElem?_modify,if_neg (fun e => hi (Eq.symm e))]
theorem convS_ok (hT:TOk P T) {ops:Array Oper} {c:List Prop} (h:RelX Z F w0 Wr Zi N S a w) (hl:convS T N S o=some (S',c)) (hc:AllP c):DoesG P ops o a w (Rel w0 Wr Zi N S'):=by
 unfold convS at hl
 split at hl
 ·rename_i t t' X hop hgd
  split at hl
  ·rename_i htt
   subst htt
   split at hl
   ·rename_i te xs S1 htk
    split at hl
    ·rename_i hb
     obtain ⟨hp,rfl⟩:=outS_some hl
     intro K Q hK
     rw [if_pos (by simp [Region.wanted,hgd])]
     refine Runs.does (R:=Rel w0 Wr Zi N S') ?_ K Q hK
     unfold bytT at hb
     split at hb
     ·rename_i i ie hi hie
      simp only [Bool.and_eq_true] at hb
      have hd:=slice_of hT hi (kSl_ok hb.1)
      have he:=int_of hT hie (kU8_ok hb.2)
      obtain ⟨F1,f,hrep,h1,hh,_⟩:=takeO_rep h htk
      obtain ⟨csv,hcr,hval⟩:=hrep
      obtain rfl:csv=[a.eval X]:=hval
      obtain ⟨ho,hf⟩:=u8_own hcr
      have hpos:0 < List.length xs:=hc.1
      rcases ho.2 with ⟨_,h0⟩ | ⟨g,cap,cur,hv,hb0,⟨fz,hg,hq⟩,hnc,hcm,hcs,htake⟩
      ·exact absurd h0 (Nat.ne_of_gt hpos)
      ·have hsh:w.shape? g=some (te,cur.size):=by simp [World.shape?,hg]
       obtain ⟨z1,z2,z3⟩:=freeze_at w g cur.size hg
       have hq2:Quiet cur.size (if fz.1 == fz.2 then (cur.size,cur.size+1) else (min fz.1 cur.size,max fz.2 (cur.size+1))):=by
        by_cases e:(fz.1 == fz.2)=true
        ·rw [if_pos e]; exact .inr (Nat.le_refl _)
        ·rw [if_neg e]
         rcases hq with hq | hq
         ·rw [hq] at e; exact absurd rfl e
         ·exact .inr (by simp only; omega)
       have hrun:(execOp a.eval o).run P w=.ok (.value (a.eval X)) (w.freeze ⟨g,cur.size,none⟩ 1):=by
        simp [execOp,hop,convert,run_underlying hd,run_underlying he,hv,markStringish,hsh]
       have hgf:f g:=(hf g).2 (by rw [hv]; rfl)
       refine Runs.make (U:=fun i => i=g) (f:=fun i => (a.eval X).ownBlock=some i) h1 hp hrun ⟨by unfold World.freeze; rw [if_neg (by decide)],by unfold World.freeze; rw [if_neg (by decide)],by unfold World.freeze; rw [if_neg (by decide)],by omega,fun i _ hi => z2 i hi⟩ ?_ ?_ ⟨_,u8_mk ⟨ho.1,.inr ⟨g,cap,cur,hv,hb0,⟨_,z1,hq2⟩,hnc,hcm,hcs,htake⟩⟩,rfl⟩
       ·rintro i rfl _
        exact ⟨(hh _ hgf).2.1,fun s => (hh _ hgf).2.2.1 s,(hh _ hgf).2.2.2⟩
       ·intro i hi
        have hfi:=(hf i).2 hi
        exact ⟨by rw [z3]; exact (hh i hfi).1,.inr ⟨(hh i hfi).2.1,fun s => (hh i hfi).2.2.1 s,(hh i hfi).2.2.2⟩⟩
     ·cases hb
    ·cases hl
   ·cases hl
  ·cases hl
 ·cases hl
structure StrIs (P:Program) (t te u:Nat):Prop where
 d:P.underlying t=some (.slice te)
 u:P.underlying u=some .string
 i:∃ info,P.info? te=some info∧info.zero=some (.int .u8 0)∧info.size=1∧info.bytes=1
theorem strT_ok (hT:TOk P T) {t te u:Nat} (h:strT T t te u=true):StrIs P t te u:=by
 unfold strT at h
 split at h
 ·rename_i i ie iu hi hie hiu
  simp only [Bool.and_eq_true,decide_eq_true_eq] at h
  obtain ⟨⟨⟨⟨⟨h1,h2⟩,h3⟩,h4⟩,h5⟩,h6⟩:=h
  obtain ⟨hte,htye⟩:=hT.find hie
  obtain ⟨info,hinfo,hsz,hby,hz⟩:=htye.info
  rw [hte] at hinfo
  exact ⟨slice_of hT hi (kSl_ok h1),string_of hT hiu (kStr_ok h3),info,hinfo,by rw [hz,h6]; rfl,by rw [hsz,h5],by rw [hby,h4]⟩
 ·cases h
theorem appvS_ok (hT:TOk P T) {ops:Array Oper} {c:List Prop} (h:RelX Z F w0 Wr Zi N S a w) (hl:appvS T N S o=some (S',c)) (hc:AllP c):DoesG P ops o a w (Rel w0 Wr Zi N S'):=by
 unfold appvS at hl
 split at hl
 ·rename_i cc hop hgd
  split at hl
  ·rename_i X Y t u hcal hargs htys
   split at hl
   ·rename_i te xs S1 s htk hy
    split at hl
    ·rename_i hb
     obtain ⟨hp,rfl⟩:=outS_some hl
     intro K Q hK
     rw [if_pos (by simp [Region.wanted,hgd])]
     refine Runs.does (R:=Rel w0 Wr Zi N S') ?_ K Q hK
     obtain ⟨hd,hu,info,hinfo,hz,hsz,hby⟩:=strT_ok hT hb
     obtain ⟨F1,f,hrep,h1,hh,hsub,_⟩:=takeO_rep h htk
     obtain ⟨csv,hcr,hval⟩:=hrep
     obtain rfl:csv=[a.eval X]:=hval
     have hY:a.eval Y=.string s:=scal_eval (Z:=Z) (w:=w) (tv:=⟨.str,s⟩) rfl (opv_rep h hy)
     obtain ⟨v',w',f',hrun,hnew,hg,hf',_⟩:=appS_run (Z:=Z) hd hu hinfo hz hsz hby (u:=u) hcr hc.1 o.type
     obtain ⟨ho,hf⟩:=u8_own hcr
     have hop2:o.op=.call { callee:=.builtin .append,args:=#[X,Y],argTypes:=#[t,u] }:=by
      obtain ⟨c1,c2,c3⟩:=cc
      simp only at hcal hargs htys
      subst hcal
      have e1:c2=#[X,Y]:=by apply Array.toList_inj.1; simpa using hargs
      have e2:c3=#[t,u]:=by apply Array.toList_inj.1; simpa using htys
      rw [hop,e1,e2]
     have hex:(execOp a.eval o).run P w=.ok (.value v') w':=by
      simp [execOp,hop2,resolve,invoke,builtin,hY,hrun]
     refine Runs.make (U:=fun i => (a.eval X).ownBlock=some i) (f:=f') h1 hp hex hg ?_ ?_ ⟨[v'],hnew,rfl⟩
     ·intro i hi _
      have:=hh i ((hf i).2 hi)
      exact ⟨this.2.1,fun s => this.2.2.1 s,this.2.2.2⟩
     ·intro i hi
      obtain ⟨q1,q2⟩:=hf' i hi
      refine ⟨q1,q2.imp id fun q2 => ?_⟩
      have:=hh i q2
      exact ⟨this.2.1,fun s => this.2.2.1 s,this.2.2.2⟩
    ·cases hl
   ·cases hl
  ·cases hl
 ·cases hl
theorem prefAll_ok {k:Nat} {p:Path} (h:prefAll S k p=true):PrefOk S k p:=by
 unfold PrefOk PrefL
 rw [List.map_map]
 refine List.map_inj_left.2 fun e he => ?_
 have:=List.all_eq_true.1 h e he
 obtain ⟨r,hr⟩:=prefE_ok this
 simp only [Function.comp]
 generalize e.2.pathTo p=y at hr
 rw [hr,List.take_left]
theorem appgS_ok (hT:TOk P T) {ops:Array Oper} {c:List Prop} (h:RelX Z F w0 Wr Zi N S a w) (hl0:appgS T N S o=some (S',c)) (hc:AllP c):DoesG P ops o a w (Rel w0 Wr Zi N S'):=by
 unfold appgS at hl0
 split at hl0
 ·rename_i cc hop hgd
  split at hl0
  ·rename_i X Y t u hcal hargs htys
   split at hl0
   ·rename_i k q0 p0 s hX hy
    split at hl0
    ·rename_i te xs hpl
     split at hl0
     ·rename_i hb
      rw [Bool.and_eq_true] at hb
      obtain ⟨hp,rfl⟩:=outS_some hl0
      intro K Q hK
      rw [if_pos (by simp [Region.wanted,hgd])]
      refine Runs.does (R:=Rel w0 Wr Zi N S') ?_ K Q hK
      obtain ⟨hd,hu,info,hinfo,hz,hsz,hby⟩:=strT_ok hT hb.1
      have hpref:=prefAll_ok hb.2
      have hY:a.eval Y=.string s:=scal_eval (Z:=Z) (w:=w) (tv:=⟨.str,s⟩) rfl (opv_rep h hy)
      have hop2:o.op=.call { callee:=.builtin .append,args:=#[X,Y],argTypes:=#[t,u] }:=by
       obtain ⟨c1,c2,c3⟩:=cc
       simp only at hcal hargs htys
       subst hcal
       have e1:c2=#[X,Y]:=by apply Array.toList_inj.1; simpa using hargs
       have e2:c3=#[t,u]:=by apply Array.toList_inj.1; simpa using htys
       rw [hop,e1,e2]
      obtain ⟨s1,x,hg,hroot,hat⟩:=placeOf_some hpl
      obtain ⟨_,s',x',vh,hh,hrest⟩:=opd_rep h hX
      have heq:=home_is h hh hg
      simp only [TV.mk.injEq] at heq
      obtain ⟨rfl,heq⟩:=heq
      obtain rfl:=eq_of_heq heq
      have hcr:=root_cells hroot (home_rep h hh)
      rcases hrest with ⟨hpe,_⟩ | ⟨g,oo,s2,x1,cs,_,hpn,hok,hat2,hl,hlen,hcells,hvo⟩
      ·cases hpe
      ·rw [hat] at hat2
       simp only [Option.some.injEq,TV.mk.injEq] at hat2
       obtain ⟨rfl,hx1⟩:=hat2
       obtain rfl:=eq_of_heq hx1
       have hcs:cs=[a.eval X]:=by simpa [ValOf] using hvo
       subst hcs
       have hcell:w.cell? ⟨g,oo,none⟩=some (a.eval X):=by simpa using hcells 0 _ rfl
       have hn:(Sh.int IntKind.u8).noOwn=true:=rfl
       obtain ⟨t',pre',post',f',R,hoo⟩:=place_row hroot hcr hok hpn hat hl hcell
       have hiff:=own_iff hn R.rep
       have hbb:List.length xs+ByteArray.size s≤140737488355328:=hc.1
       obtain ⟨v',w',f2,hrun,hcr2,hg2,hf2',_⟩:=appS_run (Z:=Z) hd hu hinfo hz hsz hby R.rep hbb o.type
       have h2:=h.dead hh hroot hpn hok hat hn hl hcell hpref hg2 (fun f hfk hcf => by
        obtain ⟨v2,w2,f3,hrun2,_,_,_,hk2⟩:=appS_run (Z:=Z) hd hu hinfo hz hsz hby hcf hbb o.type
        rw [hrun] at hrun2
        simp only [Result.ok.injEq] at hrun2
        rw [hrun2.2]
        exact hk2)
       obtain ⟨d,hd',hlt,hrd,htd,rfl⟩:=putS_some hp
       have hkd:k≠d:=by
        intro e
        simp [SV.refs,e] at hrd
       obtain ⟨_,_,g1,o1,_,b2,b3⟩:=above_row (r:=[]) hroot hcr hpn (by simpa using hok) hok hn (by simpa using hat) (by simpa using hl) hcell
       rw [hl] at b2
       simp only [Option.some.injEq,Prod.mk.injEq] at b2
       obtain ⟨rfl,rfl⟩:=b2
       obtain ⟨c1,c2⟩:=b3 w' (fun i hne hi => hg2.block i hi hne)
       refine ⟨.value v',v',w',?_,.inl rfl,?_⟩
       ·simp [execOp,hop2,resolve,invoke,builtin,hY,hrun]
       ·rw [hd']
        refine ⟨Z,_,h2.putG (d:=d) (sv:=.grown k (q0 :: p0) ⟨.sl true te (.int .u8),List.append xs (strNums s)⟩) (v:=v') (f:=fun i => f2 i∧w.heap.size≤i) (U:=fun _ => False) (by rw [h.tsize]; exact hlt.1) (fun hm => absurd hm hlt.2) (Grow.refl _ _) (fun i hi => hi.elim) (fun i hi => ⟨(hf2' i hi.1).1,.inr ⟨fun hz => ?_,fun s _ hs => ?_,.inr (Nat.le_trans h.grow.size hi.2)⟩⟩) ?_⟩
        ·have:=h.zlt i hz; have:=hi.2; omega
        ·have:=h.lt s i hs; have:=hi.2; omega
        ·refine ⟨s',x',vh,g,oo,a.eval X,te,.int .u8,xs,f2,⟨SS.mem_put.2 (.inr ⟨hh.get,hkd,rfl,rfl⟩),by rw [put_other a d k v' hkd]; exact hh.tmp⟩,hroot,hpn,hok,hat,hn,c1,by rw [cell_same (w:=w) c2]; exact hcell,rfl,hcr2,fun i hi => ?_⟩
         rcases (hf2' i hi).2 with h' | h'
         ·exact .inl ⟨hi,h'⟩
         ·exact .inr ((hiff i).1 h')
     ·cases hl0
    ·cases hl0
   ·cases hl0
  ·cases hl0
 ·cases hl0
theorem strData (s:ByteArray):(s.data.map fun b => Value.int .u8 b.toNat) = ((strNums s).map (Value.int .u8)).toArray:=by
 apply Array.ext'
 simp [strNums]
theorem toBS_ok (hT:TOk P T) {ops:Array Oper} {c:List Prop} (h:RelX Z F w0 Wr Zi N S a w) (hl:toBS T N S o=some (S',c)) (hc:AllP c):DoesG P ops o a w (Rel w0 Wr Zi N S'):=by
 unfold toBS at hl
 split at hl
 ·rename_i q r X hop hgd
  split at hl
  ·rename_i s te hx hte
   split at hl
   ·rename_i hb
    obtain ⟨hp,rfl⟩:=outS_some hl
    intro K Q hK
    rw [if_pos (by simp [Region.wanted,hgd])]
    refine Runs.does (R:=Rel w0 Wr Zi N S') ?_ K Q hK
    have hX:a.eval X=.string s:=scal_eval (Z:=Z) (w:=w) (tv:=⟨.str,s⟩) rfl (opv_rep h hx)
    unfold toBT at hb
    split at hb
    ·rename_i i j ie hi hj hie
     simp only [Bool.and_eq_true] at hb
     have hq:=string_of hT hi (kStr_ok hb.1.1)
     have hr:=slice_of hT hj (kSl_ok hb.1.2)
     have he:=int_of hT hie (kU8_ok hb.2)
     have hrun0:=Lib.run_convert_string_bytes (P:=P) w q r te s hq hr he
     have hex:(execOp a.eval o).run P w=.ok (.value (.slice (some ⟨w.heap.size,0,none⟩) s.size (grownCap w s.size 0 te))) (Lib.bytesWorld w te s):=by
      simp only [execOp,hop,hX,Sem.run_bind,hrun0,Result.andThen_ok,Sem.run_pure]
     have hge:=grownCap_ge w s.size 0 te
     have hmax:s.size≤maxLen:=by have:=hc.1; unfold maxLen; omega
     have hle:=grownCap_le_maxLen w s.size 0 te (by simpa using hmax)
     have hcs:(Lib.bytesCells w te s).size=grownCap w s.size 0 te:=by
      simp only [Lib.bytesCells,Array.size_append,Array.size_map,Array.size_replicate]
      have:s.data.size=s.size:=rfl
      omega
     refine Runs.make (U:=fun _ => False) (f:=fun i => (Value.slice (some ⟨w.heap.size,0,none⟩) s.size (grownCap w s.size 0 te)).ownBlock=some i) h hp hex ⟨by unfold Lib.bytesWorld World.freeze; rw [if_neg (by decide)]; rfl,by unfold Lib.bytesWorld World.freeze; rw [if_neg (by decide)]; rfl,by unfold Lib.bytesWorld World.freeze; rw [if_neg (by decide)]; rfl,by rw [Lib.bytesWorld_size]; omega,fun i hi _ => Lib.bytesWorld_at_old w te s i hi⟩ (fun i hi => hi.elim) ?_ ⟨_,?_,rfl⟩
     ·intro i hi
      have:w.heap.size=i:=by simpa [Value.ownBlock] using hi
      rw [Lib.bytesWorld_size]
      exact ⟨by omega,.inl (by omega)⟩
     ·refine u8_mk ⟨by simp,.inr ⟨w.heap.size,grownCap w s.size 0 te,Lib.bytesCells w te s,by rw [strNums_len],Nat.zero_le _,⟨_,Lib.bytesWorld_at_new w te s,.inr (Nat.le_refl _)⟩,by rw [strNums_len]; omega,hle,by rw [hcs,Nat.mul_one],?_⟩⟩
      have hl:=strNums_len s
      simp only [Lib.bytesCells,strData,Array.toList_append,Nat.mul_one]
      exact List.take_left' (by simp)
    ·cases hb
   ·cases hl
  ·cases hl
 ·cases hl
theorem litS_ok {ops:Array Oper} {c:List Prop} {t:TV} (h:RelX Z F w0 Wr Zi N S a w) (hl:litS P N S o t=some (S',c)) (hc:AllP c):DoesG P ops o a w (Rel w0 Wr Zi N S'):=by
 unfold litS at hl
 split at hl
 ·rename_i st parts hop hgd
  obtain ⟨hp,rfl⟩:=outS_some hl
  obtain ⟨v,h1,h2⟩:=hc.1
  intro K Q hK
  rw [if_pos (by simp [Region.wanted,hgd])]
  refine (Runs.read h hp (v:=v) ?_ (h2 Z w)).does K Q hK
  have:=h1 a w
  simp only [execOp,hop,Sem.run_bind]
  erw [this]
  rfl
 ·cases hl
theorem lit_two {P:Program} {te t:Nat} {e:Sh} {b:Bool}
 (hb:∀ w:World,(Instr.build t #[(0,.slice none 0 0),(1,.bool b)]).run P w=.ok (.agg #[.slice none 0 0,.bool b]) w):LitOk P t #[(0,.const (.slice none 0 0)),(1,.const (.bool b))] ⟨.st (.pair (.sl false te e) .bool),(([]:List e.den),b)⟩:=by
 refine ⟨.agg #[.slice none 0 0,.bool b],fun a w => ?_,fun Z w => ⟨[.slice none 0 0,.bool b],?_,rfl⟩⟩
 ·have e1:(#[(0,Operand.const (.slice none 0 0)),(1,Operand.const (.bool b))].map fun (x:Nat × Operand) => (x.1,a.eval x.2))=#[(0,.slice none 0 0),(1,.bool b)]:=by simp [Act.eval]
  rw [e1]
  exact hb w
 ·exact ⟨[.slice none 0 0],[.bool b],fun _ => False,fun _ => False,rfl,fun i => by simp,fun i h => h.elim,⟨.slice none 0 0,[],fun _ => False,rfl,⟨rfl,fun _ => id⟩,fun _ => id,fun _ => id,none,0,rfl,Nat.le_refl _,by omega,fun h => absurd h (Nat.lt_irrefl 0),fun j u h => by simp at h⟩,rfl,fun _ => id⟩
end
def bytS (P:Program) (T:Tbl) (N:Fr) (S:SS) (o:Oper):BSp→SP
 | .conv => convS T N S o
 | .appg => appgS T N S o
 | .appv => appvS T N S o
 | .toB => toBS T N S o
 | .lit t => litS P N S o t
 | .clo m fin q => cloMS T P N S o m fin q
def sxB (P:Program) (bl:List (Nat × BSp)) (T:Tbl) (N:Fr) (sx:Sx) (ops:Array Oper):Sx:=fun i S => match bl.find? fun x => Nat.beq x.1 i with
 | some x => match ops[i]? with
   | some o => bytS P T N S o x.2
   | none => none
 | none => sx i S
theorem sxB_ok {T:Tbl} {P:Program} (hT:TOk P T) {w0:World} {Wr Zi:Fp} {N:Fr} {ops:Array Oper} {sx:Sx} (bl:List (Nat × BSp)) (hX:SxOk T P w0 Wr Zi N ops sx):SxOk T P w0 Wr Zi N ops (sxB P bl T N sx ops):=by
 intro i o Z F S S' c a w ho hs hc h
 unfold sxB at hs
 split at hs
 ·rename_i x hx
  rw [ho] at hs
  simp only at hs
  obtain ⟨n,x⟩:=x
  cases x with
  | conv => exact convS_ok hT h hs hc
  | appg => exact appgS_ok hT h hs hc
  | appv => exact appvS_ok hT h hs hc
  | toB => exact toBS_ok hT h hs hc
  | lit t => exact litS_ok h hs hc
  | clo m fin q => exact cloMS_ok h hs hc
 ·exact hX i o Z F S S' c a w ho hs hc h
end Go.Vm
