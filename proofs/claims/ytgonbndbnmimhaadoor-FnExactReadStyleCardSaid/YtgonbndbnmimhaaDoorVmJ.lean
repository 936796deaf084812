/- What is made: variables, slices, literals. -/
import Derived.Test.YtgonbndbnmimhaaDoorVmI
import Derived.Laws.Tables
set_option linter.unusedVariables false
set_option linter.unusedSimpArgs false
namespace Go.Vm
open Go
theorem one_cells {v:Value} (h:v.oneCell'=true):v.cells.toList=[v]:=by cases v <;> first | rfl | simp [Value.oneCell'] at h
theorem val_cells {Z:Fp} {w:World} {s:Sh} {x:s.den} {v:Value} {cs:List Value} {f:Fp} (hc:CRep Z w s x cs f) (hv:ValOf s v cs) (hn:s≠.any):v.cells.toList=cs:=by
 cases s with
 | any => exact absurd rfl hn
 | st g => simp only [ValOf] at hv; subst hv; simp [Value.cells]
 | _ =>
   simp only [ValOf] at hv
   subst hv
   exact one_cells (CRep.one hc v (by simp))
theorem zero_cells (i:TI) (h:fits i i.zero=true):i.zero.zeroV.cells.toList=i.zero.zeros:=by
 simp only [fits,Bool.and_eq_true,Bool.or_eq_true,beq_iff_eq] at h
 have hl:=CRep.length (Sh.zeros_rep (fun _ => False) default i.zero)
 have h1:=CRep.one (Sh.zeros_rep (fun _ => False) default i.zero)
 unfold Sh.zeroV
 split
 ·simp [Value.cells]
 ·rename_i hst
  rcases h.2 with h2 | h2
  ·exact absurd h2 hst
  ·rw [h2] at hl
   match hz:i.zero.zeros,hl with
   | [v],_ => simp only [List.getD_cons_zero]; exact one_cells (h1 v (by rw [hz]; simp))
section
variable {P:Program} {T:Tbl} {Z:Fp} {F:Nat→Fp} {w0:World} {Wr Zi:Fp} {N:Fr} {S S':SS} {a:Act} {w:World} {o:Oper}
theorem Grow.alloc (w:World) (ob:Obj):Grow (fun _ => False) w (w.alloc ob) :=
 ⟨rfl,rfl,rfl,by simp,fun i hi _ => heap_alloc_old w ob hi⟩
theorem alloc_new (w:World) (ob:Obj):(w.alloc ob).heap[w.heap.size]?=some ob:=heap_alloc_new w ob
theorem alloc_old (w:World) (ob:Obj) (i:Nat) (hi:i < w.heap.size):(w.alloc ob).heap[i]?=w.heap[i]?:=heap_alloc_old w ob hi
theorem Runs.newVar (h:RelX Z F w0 Wr Zi N S a w) {t:Nat} {s:Sh} {x:s.den} {cs:List Value} {f:Fp} (hc:CRep Z w s x cs f) (hf:Held Z F w0 Wr w f)
 (hr:(execOp a.eval o).run P w=.ok (.value (.pointer (some ⟨w.heap.size,0,none⟩))) (w.alloc (.cells cs.toArray t)))
 (hp:putS N S o.dst (.val (.pt true t s) (some x))=some S'):Runs P o a w (Rel w0 Wr Zi N S'):=by
 refine Runs.make (f:=fun i => i=w.heap.size∨f i) (U:=fun _ => False) h hp hr (Grow.alloc w _) (fun i hi => hi.elim) ?_ ?_
 ·rintro i (rfl | hi)
  ·exact ⟨by simp,.inl (Nat.le_refl _)⟩
  ·obtain ⟨h1,h2,h3,h4⟩:=hf i hi
   exact ⟨by simp; omega,.inr ⟨h2,h3,h4⟩⟩
 ·refine ⟨_,⟨_,cs,f,rfl,CRep.same (fun _ => id) (fun i hi => alloc_old w _ i (h.zlt i hi)) (fun i hi => alloc_old w _ i (hf i hi).1) hc,w.heap.size,rfl,alloc_new w _,fun _ => Iff.rfl,fun hh => ?_⟩,rfl⟩
  exact absurd (hf _ hh).1 (Nat.lt_irrefl _)
theorem Runs.newRow (h:RelX Z F w0 Wr Zi N S a w) {t:Nat} {e:Sh} {xs:List e.den} {cs:List Value} {f:Fp} (hc:RRep (CRep Z w e) xs cs f) (hf:Held Z F w0 Wr w f) (hm:xs.length≤9223372036854775807)
 (hr:(execOp a.eval o).run P w=.ok (.value (.slice (some ⟨w.heap.size,0,none⟩) xs.length xs.length)) (w.alloc (.cells cs.toArray t)))
 (hp:putS N S o.dst (.val (.sl true t e) xs)=some S'):Runs P o a w (Rel w0 Wr Zi N S'):=by
 have hl:=RRep.length (size:=e.size) (fun x cs f h => CRep.length h) hc
 refine Runs.make (f:=fun i => i=w.heap.size∨f i) (U:=fun _ => False) h hp hr (Grow.alloc w _) (fun i hi => hi.elim) ?_ ?_
 ·rintro i (rfl | hi)
  ·exact ⟨by simp,.inl (Nat.le_refl _)⟩
  ·obtain ⟨h1,h2,h3,h4⟩:=hf i hi
   exact ⟨by simp; omega,.inr ⟨h2,h3,h4⟩⟩
 ·refine ⟨_,⟨_,cs,f,rfl,RRep.imp (P:=fun i => i < w.heap.size) (fun i hi => (hf i hi).1) (fun x cs f hP hx => CRep.same (fun _ => id) (fun i hi => alloc_old w _ i (h.zlt i hi)) (fun i hi => alloc_old w _ i (hP i hi)) hx) hc,?_,?_,?_⟩,rfl⟩
  ·have:=World.ownsRow_lit (base:=0) (e:=t) (size:=e.size) w cs.toArray xs.length (Nat.zero_le _) (by simpa [maxLen] using hm) (by simp [hl])
   simpa using this
  ·intro i
   simp only [Value.ownBlock,Option.some.injEq]
   exact ⟨fun h => h.imp Eq.symm id,fun h => h.imp Eq.symm id⟩
  ·intro i hi hfi
   simp only [Value.ownBlock,Option.some.injEq] at hi
   subst hi
   exact absurd (hf _ hfi).1 (Nat.lt_irrefl _)
theorem alloc_ok (hT:TOk P T) (h:RelX Z F w0 Wr Zi N S a w) {t:Nat} {i:TI} (ho:o.op=.alloc t) (hi:T.find t=some i) (hf:fits i i.zero=true) (hp:putS N S o.dst (.val (.pt true t i.zero) (some i.zero.dflt))=some S'):Runs P o a w (Rel w0 Wr Zi N S'):=by
 obtain ⟨ht,hty⟩:=hT.find hi
 obtain ⟨info,hinfo,hsz,hby,hz⟩:=hty.info
 rw [ht] at hinfo
 refine Runs.newVar h (Sh.zeros_rep Z w i.zero) Held.none ?_ hp
 have hc:i.zero.zeroV.cells=i.zero.zeros.toArray:=by rw [← zero_cells i hf]
 simp [execOp,ho,Instr.alloc,zeroValue,typeInfo,hinfo,hz,Go.newVar,Go.newRow,hc]
theorem box_ok (h:RelX Z F w0 Wr Zi N S a w) {t:Nat} {X:Operand} {tv:TV} {S1:SS} (ho:o.op=.box t X) (hx:takeO T S t X=some (tv,S1)) (hn:tv.sh≠.any) (hp:putS N S1 o.dst (.val (.pt true t tv.sh) (some tv.x))=some S'):Runs P o a w (Rel w0 Wr Zi N S'):=by
 obtain ⟨F1,f,⟨cs,hcr,hv⟩,h1,hh,_⟩:=takeO_rep h hx
 refine Runs.newVar h1 hcr hh ?_ hp
 have hc:(a.eval X).cells=cs.toArray:=by rw [← val_cells hcr hv hn]
 simp [execOp,ho,Instr.box,Go.newVar,Go.newRow,hc]
theorem rep_replicate {Z:Fp} {w:World} (e:Sh) (n:Nat):RRep (CRep Z w e) (List.replicate n e.dflt) (List.replicate n e.zeros).flatten (fun _ => False):=by
 induction n with
 | zero => exact ⟨rfl,fun _ => id⟩
 | succ n ih =>
   rw [List.replicate_succ,List.replicate_succ,List.flatten_cons]
   exact ⟨_,_,fun _ => False,fun _ => False,rfl,fun i => ⟨.inl,fun h => h.elim id id⟩,fun i h => h.elim,e.zeros_rep Z w,ih⟩
theorem made_flatten (z:List Value) (n:Nat):(madeCells z.toArray (n*z.length)).toList = (List.replicate n z).flatten:=by
 rcases Nat.eq_zero_or_pos z.length with h0 | h0
 ·have:z=[]:=List.eq_nil_of_length_eq_zero h0
  subst this
  simp [madeCells]
 ·apply List.ext_getElem?
  intro j
  by_cases hj:j < n*z.length
  ·have h1:(madeCells z.toArray (n*z.length)).toList[j]?=some z.toArray[j % z.toArray.size]! := by
    simp [madeCells,hj]
   have hjm:j % z.length < z.length:=Nat.mod_lt _ h0
   have hjd:j / z.length < n:=by rw [Nat.div_lt_iff_lt_mul h0]; exact hj
   have h2:(List.replicate n z).flatten[j]?=some (z[j % z.length]):=by
    clear h1
    induction n generalizing j with
    | zero => simp at hj
    | succ n ih =>
      rw [List.replicate_succ,List.flatten_cons]
      by_cases hlt:j < z.length
      ·rw [List.getElem?_append_left hlt,List.getElem?_eq_getElem hlt]
       simp [Nat.mod_eq_of_lt hlt]
      ·have hsub:j - z.length < n*z.length:=by rw [Nat.succ_mul] at hj; omega
       have hm:(j - z.length) % z.length=j % z.length:=by rw [← Nat.mod_eq_sub_mod (by omega)]
       rw [List.getElem?_append_right (by omega)]
       have:=ih (j - z.length) hsub (Nat.mod_lt _ h0) (by rw [Nat.div_lt_iff_lt_mul h0]; exact hsub)
       rw [this]
       simp [hm]
   rw [h1,h2]
   simp [hjm]
  ·rw [List.getElem?_eq_none (by simp [madeCells]; omega),List.getElem?_eq_none]
   rw [List.length_flatten]; simp; omega
theorem makeSlice_run {t te:Nat} {info:TypeInfo} {z:Value} (hd:P.underlying t=some (.slice te)) (hinfo:P.info? te=some info) (hz:info.zero=some z) (k k':IntKind) (n:Nat) (hb:n*info.bytes≤140737488355328) (hpos:0 < info.bytes) (w:World) :
 (Instr.makeSlice t (.int k n) (.int k' n)).run P w=.ok (.slice (some ⟨w.heap.size,0,none⟩) n n) (w.alloc (.cells (madeCells z.cells (n*info.size)) te)):=by
 have hn:n≤140737488355328:=Nat.le_trans (Nat.le_mul_of_pos_right _ hpos) hb
 have hw:IntKind.i64.wrap (n:Int)=n:=IntWalk.i64_in _ (by omega)
 have h1:¬ ((281474976710656:Int) < (info.bytes:Int) * (n:Int)):=by
  have h3:info.bytes*n≤140737488355328:=by rw [Nat.mul_comm]; exact hb
  have h4:((info.bytes*n:Nat):Int) ≤ ((140737488355328:Nat):Int):=Int.ofNat_le.2 h3
  rw [Int.natCast_mul] at h4
  omega
 have h2:¬ ((n:Int) < 0):=by omega
 by_cases h0:n*info.size=0
 ·simp [Instr.makeSlice,run_underlying hd,asInt,asIntOf,typeInfo,hinfo,hw,h1,h2,Go.sizeOf,h0,Go.newRow,madeCells]
  have e0:Array.range 0=#[]:=rfl
  simp only [e0,Array.map_empty]
 ·simp [Instr.makeSlice,run_underlying hd,asInt,asIntOf,typeInfo,hinfo,hw,h1,h2,Go.sizeOf,h0,zeroValue,hz,Go.newRow,madeCells]
def makeV (T:Tbl) (t:Nat) (n:Int):Option (TV × List Prop) :=
 match T.find t with
 | some i => match i.kd with
   | .slice te => match T.find te with
     | some ie => if fits ie ie.zero && decide (0 < ie.bytes) then some (⟨.sl true te ie.zero,List.replicate (Int.toNat n) ie.zero.dflt⟩,[0≤n∧Int.toNat n*ie.bytes≤140737488355328]) else none
     | none => none
   | _ => none
 | none => none
theorem makeSlice_ok (hT:TOk P T) (h:RelX Z F w0 Wr Zi N S a w) {t:Nat} {X Y:Operand} {k k':IntKind} {n m:Int} {r:TV} {c:List Prop} (ho:o.op=.makeSlice t X Y) (hx:opv T S t X=some ⟨.int k,n⟩) (hy:opv T S t Y=some ⟨.int k',m⟩) (hnm:n=m)
 (hr:makeV T t n=some (r,c)) (hc:AllP c) (hp:putS N S o.dst (.val r.sh r.x)=some S'):Runs P o a w (Rel w0 Wr Zi N S'):=by
 have eX:a.eval X=.int k n:=scal_eval (Z:=Z) (w:=w) (tv:=⟨.int k,n⟩) rfl (opv_rep h hx)
 have eY:a.eval Y=.int k' m:=scal_eval (Z:=Z) (w:=w) (tv:=⟨.int k',m⟩) rfl (opv_rep h hy)
 unfold makeV at hr
 split at hr
 ·rename_i i hi
  split at hr
  ·rename_i te hk
   split at hr
   ·rename_i ie hie
    split at hr
    ·rename_i hf
     cases hr
     simp only [Bool.and_eq_true,decide_eq_true_eq] at hf
     obtain ⟨h0,hb⟩:=hc.1
     obtain ⟨ht,hty⟩:=hT.find hi
     obtain ⟨d,hd,hdk⟩:=hty.desc
     rw [ht] at hd
     rw [hk] at hdk
     have:d=.slice te:=by cases d <;> simp_all [kdOf]
     subst this
     obtain ⟨hte,htye⟩:=hT.find hie
     obtain ⟨info,hinfo,hsz,hby,hz⟩:=htye.info
     rw [hte] at hinfo
     obtain ⟨nn,rfl⟩:=Int.eq_ofNat_of_zero_le h0
     subst hnm
     simp only [Int.toNat_natCast] at hb hp ⊢
     have hzc:=zero_cells ie hf.1
     have hzl:=CRep.length (Sh.zeros_rep Z w ie.zero)
     have hfs:ie.size=ie.zero.size:=by have:=hf.1; simp only [fits,Bool.and_eq_true,beq_iff_eq] at this; exact this.1.1
     refine Runs.newRow (t:=te) (cs:=(List.replicate nn ie.zero.zeros).flatten) h (rep_replicate ie.zero nn) Held.none ?_ ?_ hp
     ·simp only [List.length_replicate]
      have:nn≤nn*ie.bytes:=Nat.le_mul_of_pos_right _ hf.2
      omega
     ·have hrun:=makeSlice_run (P:=P) hd hinfo hz k k' nn (by rw [hby]; exact hb) (by rw [hby]; exact hf.2) w
      have hm:madeCells ie.zero.zeroV.cells (nn*info.size) = ((List.replicate nn ie.zero.zeros).flatten).toArray:=by
       rw [← made_flatten,hsz,hfs,← hzl]
       apply Array.toList_inj.1
       have:ie.zero.zeroV.cells=ie.zero.zeros.toArray:=by rw [← hzc]
       rw [this]
      rw [hm] at hrun
      simp [execOp,ho,eX,eY,hrun]
    ·cases hr
   ·cases hr
  ·cases hr
 ·cases hr
theorem strSlice_ok (hT:TOk P T) (h:RelX Z F w0 Wr Zi N S a w) {t:Nat} {X:Operand} {L H:Option Operand} {s:ByteArray} {i:TI} {lo hi:Nat} (ho:o.op=.slice t X L H none) (hi':T.find t=some i) (hkd:i.kd=.string) (hx:opv T S t X=some ⟨.str,s⟩)
 (hlo:BndIs T S t L 0 lo) (hhi:BndIs T S t H s.size hi)
 (h1:lo≤hi) (h2:hi≤s.size) (hp:putS N S o.dst (.val .str (s.extract lo hi))=some S'):Runs P o a w (Rel w0 Wr Zi N S'):=by
 have eX:a.eval X=.string s:=scal_eval (Z:=Z) (w:=w) (tv:=⟨.str,s⟩) rfl (opv_rep h hx)
 obtain ⟨ht,hty⟩:=hT.find hi'
 obtain ⟨d,hd,hdk⟩:=hty.desc
 rw [ht] at hd
 rw [hkd] at hdk
 have:d=.string:=by cases d <;> simp_all [kdOf]
 subst this
 refine Runs.read h hp (v:=.string (s.extract lo hi)) ?_ (scal_rep (tv:=⟨.str,s.extract lo hi⟩) rfl)
 have h1':(lo:Int)≤hi:=by omega
 have h2':(hi:Int)≤s.size:=by omega
 cases L with
 | none =>
   obtain rfl:lo=0:=hlo
   cases H with
   | none => obtain rfl:hi=_:=hhi; simp [execOp,ho,eX,Instr.sliceAt,Instr.slice,run_underlying hd,Instr.sliceBounds]
   | some H =>
     obtain ⟨k,hH⟩:=hhi
     have eH:a.eval H=.int k hi:=scal_eval (Z:=Z) (w:=w) (tv:=⟨.int k,(hi:Int)⟩) rfl (opv_rep h hH)
     simp [execOp,ho,eX,eH,Instr.sliceAt,Instr.slice,run_underlying hd,Instr.sliceBounds,Instr.sliceBound,asIntOf,h2]
 | some L =>
   obtain ⟨k,hL⟩:=hlo
   have eL:a.eval L=.int k lo:=scal_eval (Z:=Z) (w:=w) (tv:=⟨.int k,(lo:Int)⟩) rfl (opv_rep h hL)
   cases H with
   | none => obtain rfl:hi=_:=hhi; simp [execOp,ho,eX,eL,Instr.sliceAt,Instr.slice,run_underlying hd,Instr.sliceBounds,Instr.sliceBound,asIntOf,h1]
   | some H =>
     obtain ⟨k',hH⟩:=hhi
     have eH:a.eval H=.int k' hi:=scal_eval (Z:=Z) (w:=w) (tv:=⟨.int k',(hi:Int)⟩) rfl (opv_rep h hH)
     simp [execOp,ho,eX,eL,eH,Instr.sliceAt,Instr.slice,run_underlying hd,Instr.sliceBounds,Instr.sliceBound,asIntOf,h1,h2]
end
end Go.Vm
