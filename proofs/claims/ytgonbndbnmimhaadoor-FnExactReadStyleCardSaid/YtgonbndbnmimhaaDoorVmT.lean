/- The arguments' reading, as the given form has it, is a typed value of a read shape: and a row's step from a function's contract. -/
import Derived.Test.YtgonbndbnmimhaaDoorVmS
import Derived.OpenShut
import Derived.WideShapes
import Derived.RowKit3
import Derived.Carry
import Derived.ChangeBook
set_option linter.unusedVariables false
set_option linter.unusedSimpArgs false
namespace Go.Vm
open Go
def Sh.wf:(s:Sh)→s.den→Prop
 | .int k,x => k.min≤x∧x≤k.max
 | .bool,_ => True
 | .str,x => ByteArray.size x≤9223372036854775807
 | .unit,_ => True
 | .any,_ => True
 | .raw,_ => True
 | .gh _,_ => True
 | .pair a b,x => a.wf x.1∧b.wf x.2
 | .st f,x => f.wf x
 | .sl _ _ e,xs => List.length xs≤9223372036854775807∧∀ x ∈ (xs:List e.den),e.wf x
 | .pt _ _ e,x => ∀ y,(x:Option e.den)=some y→e.wf y
 | .mp _ _ _,_ => True
 | .fn _ c,x => c.wf x
def pairsOf:List Sh→Option Sh
 | [] => none
 | [s] => some s
 | s :: r => match pairsOf r with
   | some q => some (.pair s q)
   | none => none
def Tbl.sh (T:Tbl):Nat→Nat→Option Sh
 | 0,_ => none
 | n+1,t => match T.find t with
   | some i => match i.kd with
     | .int k => some (.int k)
     | .bool => some .bool
     | .string => some .str
     | .slice e => match T.sh n e with
       | some s => some (.sl false e s)
       | none => none
     | .ptr e => match T.sh n e with
       | some s => some (.pt false e s)
       | none => none
     | .struct fs => match (fs.map (·.1)).mapM (T.sh n) with
       | some ss => match pairsOf ss with
         | some s => some (.st s)
         | none => none
       | none => none
     | _ => none
   | none => none
section
variable {H:Type} {enc:TypeId × Value→H} {P:Program} {T:Tbl} {W:World}
def allOf (W:World):Fp:=fun i => i < W.heap.size
def noF:Fp:=fun _ => False
theorem cell_lt {ad:Addr} {u:Value} (h:W.cell? ad=some u):ad.block < W.heap.size:=by
 unfold World.cell? at h
 split at h
 ·rename_i c t fr hc
  exact (Array.getElem?_eq_some_iff.1 hc).1
 ·cases h
theorem cells_at {base n:Nat} {a:Addr} {cs:List Value} (h:W.cells? base a n=some cs):cs.length=n∧∀ j u,cs[j]?=some u→W.cell? (a.add j)=some u:=by
 unfold World.cells? at h
 split at h
 ·have hl:=mapM_some_length h
  simp only [List.length_range] at hl
  refine ⟨hl,fun j u hj => ?_⟩
  have hj':j < n:=by rw [← hl]; exact (List.getElem?_eq_some_iff.1 hj).1
  rw [← hj]
  exact mapM_some_get h j j (by simp [hj'])
 ·cases h
theorem row_rep {e:Sh} {sz:Nat} {a:Addr}:∀ (m o:Nat),(∀ i,i < m→∃ (y:e.den) (c:List Value),CRep (allOf W) W e y c noF∧e.wf y∧c.length=sz∧∀ j u,c[j]?=some u→W.cell? (a.add ((o+i)*sz+j))=some u) →
 ∃ (ys:List e.den) (inner:List Value),RRep (CRep (allOf W) W e) ys inner noF∧ys.length=m ∧ (∀ y ∈ ys,e.wf y)∧∀ j u,inner[j]?=some u→W.cell? (a.add (o*sz+j))=some u
 | 0,o,_ => ⟨[],[],⟨rfl,fun i h => h⟩,rfl,fun y hy => absurd hy List.not_mem_nil,fun j u h => by simp at h⟩
 | m+1,o,h => by
   obtain ⟨y,c,h1,h2,h3,h4⟩:=h 0 (Nat.succ_pos m)
   obtain ⟨ys,inner,k1,k2,k3,k4⟩:=row_rep m (o+1) (fun i hi => by
    obtain ⟨y,c,h1,h2,h3,h4⟩:=h (i+1) (by omega)
    exact ⟨y,c,h1,h2,h3,fun j u hj => by rw [show o+1+i=o + (i+1) by omega]; exact h4 j u hj⟩)
   refine ⟨y :: ys,c ++ inner,⟨c,inner,noF,noF,rfl,fun i => ⟨fun h => h.elim,fun h => h.elim id id⟩,fun i h => h.elim,h1,k1⟩,by simp [k2],?_,?_⟩
   ·intro z hz
    rcases List.mem_cons.1 hz with rfl | hz
    ·exact h2
    ·exact k3 z hz
   ·intro j u hj
    by_cases hjl:j < c.length
    ·rw [List.getElem?_append_left hjl] at hj
     have:=h4 j u hj
     simpa using this
    ·rw [List.getElem?_append_right (by omega)] at hj
     have:=k4 _ u hj
     rw [h3] at this hjl
     rw [show (o+1)*sz + (j - sz)=o*sz+j by rw [Nat.add_mul]; omega] at this
     exact this
theorem fields_rep {szs:Nat→Nat} {f:Nat→Option Sh}:∀ (ts:List Nat) (ss:List Sh) (s:Sh) (cs:List Value),ts.mapM f=some ss→pairsOf ss=some s→cs.length = (ts.map szs).sum →
 (∀ j t,ts[j]?=some t→∀ sj,f t=some sj→∃ y:sj.den,CRep (allOf W) W sj y ((cs.drop ((ts.take j).map szs).sum).take (szs t)) noF∧sj.wf y) →
 ∃ y:s.den,CRep (allOf W) W s y cs noF∧s.wf y
 | [],ss,s,cs,hm,hp,hl,h => by
   simp only [List.mapM_nil,Option.pure_def,Option.some.injEq] at hm
   subst hm
   cases hp
 | t :: ts,ss,s,cs,hm,hp,hl,h => by
   simp only [List.mapM_cons,Option.bind_eq_bind,Option.pure_def,Option.bind_eq_some_iff,Option.some.injEq] at hm
   obtain ⟨s0,h0,r,hr,rfl⟩:=hm
   obtain ⟨y0,hy0,hw0⟩:=h 0 t rfl s0 h0
   simp only [List.take_zero,List.map_nil,List.sum_nil,List.drop_zero] at hy0
   simp only [List.map_cons,List.sum_cons] at hl
   match r,hr,hp with
   | [],hr,hp =>
     cases hp
     have hts:ts=[]:=by
      have:=mapM_some_length hr
      cases ts with
      | nil => rfl
      | cons _ _ => simp at this
     subst hts
     simp only [List.map_nil,List.sum_nil,Nat.add_zero] at hl
     rw [List.take_of_length_le (by omega)] at hy0
     exact ⟨y0,hy0,hw0⟩
   | s1 :: r',hr,hp =>
     simp only [pairsOf] at hp
     split at hp
     ·rename_i q hq
      cases hp
      obtain ⟨y1,hy1,hw1⟩:=fields_rep ts (s1 :: r') q (cs.drop (szs t)) hr hq (by rw [List.length_drop,hl]; exact Nat.add_sub_cancel_left _ _) (fun j t' hj sj hsj => by
       obtain ⟨y,hy,hw⟩:=h (j+1) t' (by simpa using hj) sj hsj
       refine ⟨y,?_,hw⟩
       rw [List.drop_drop]
       simpa using hy)
      exact ⟨(y0,y1),⟨_,_,noF,noF,(List.take_append_drop (szs t) cs).symm,fun i => ⟨fun h => h.elim,fun h => h.elim id id⟩,fun i h => h.elim,hy0,hy1⟩,hw0,hw1⟩
     ·cases hp
theorem read_rep (hT:TOk P T) (K:Kids P (· < P.types.size)) {held:Bool}:∀ (n:Nat) (t:Nat) (s:Sh) (fuel:Nat) (cs:List Value) (x:DataW H × List MemPlace),
 T.sh n t=some s→DataW.trod enc P W 0 (fun _ => true) held fuel t cs=some x→t < P.types.size→∃ y:s.den,CRep (allOf W) W s y cs noF∧s.wf y
 | 0,t,s,fuel,cs,x,hs,h,ht => by cases hs
 | n+1,t,s,fuel,cs,x,hs,h,ht => by
   unfold Tbl.sh at hs
   split at hs
   ·rename_i i hi
    obtain ⟨hit,hty⟩:=hT.find hi
    obtain ⟨d,hd,hk⟩:=hty.desc
    rw [hit] at hd
    split at hs
    ·rename_i k hkd
     cases hs
     rw [hkd] at hk
     cases d <;> simp only [kdOf,reduceCtorEq,KD.int.injEq] at hk
     subst hk
     obtain ⟨m,rfl,_,hw⟩:=DataW.trod_int hd h
     simp only [Lit.wf,Bool.and_eq_true,decide_eq_true_eq] at hw
     exact ⟨m,⟨rfl,fun i h => h⟩,hw⟩
    ·rename_i hkd
     cases hs
     rw [hkd] at hk
     cases d <;> simp only [kdOf,reduceCtorEq] at hk
     obtain ⟨b,rfl,_⟩:=DataW.trod_bool hd h
     exact ⟨b,⟨rfl,fun i h => h⟩,trivial⟩
    ·rename_i hkd
     cases hs
     rw [hkd] at hk
     cases d <;> simp only [kdOf,reduceCtorEq] at hk
     obtain ⟨b,rfl,_,hw⟩:=DataW.trod_string hd h
     exact ⟨b,⟨rfl,fun i h => h⟩,hw⟩
    ·rename_i e hkd
     rw [hkd] at hk
     split at hs
     ·rename_i es hes
      cases hs
      cases d <;> simp only [kdOf,reduceCtorEq,KD.slice.injEq] at hk
      subst hk
      have hte:=K.slice ht hd
      rcases DataW.trod_slice hd h with ⟨rfl,_⟩ | ⟨a,len,cap,elems,rest,m,_,rfl,_,_,hlc,hcm,hel,he,_,_⟩
      ·exact ⟨[],⟨_,[],noF,rfl,⟨rfl,fun i h => h⟩,fun i h => h,fun i h => h,none,0,rfl,Nat.le_refl _,Nat.zero_le _,fun h => absurd h (Nat.lt_irrefl 0),fun j u hj => by simp at hj⟩,by simp,fun x hx => absurd hx List.not_mem_nil⟩
      ·obtain ⟨ys,inner,k1,k2,k3,k4⟩:=row_rep (W:=W) (e:=es) (sz:=P.cellsOf _) (a:=a) len 0 (fun i hil => by
        have hb:=he i hil
        obtain ⟨z,hz⟩:∃ z,elems[i]?=some z:=⟨elems[i]'(by omega),by simp [hel,hil]⟩
        rw [hz,Option.bind_eq_some_iff] at hb
        obtain ⟨c,hc,htr⟩:=hb
        obtain ⟨y,hy,hw⟩:=read_rep hT K n _ es m c z hes htr hte
        obtain ⟨q1,q2⟩:=cells_at hc
        exact ⟨y,c,hy,hw,q1,fun j u hj => by rw [Nat.zero_add,← Addr.add_add]; exact q2 j u hj⟩)
       simp only [Nat.zero_mul,Nat.zero_add] at k4
       refine ⟨ys,⟨_,inner,noF,rfl,k1,fun i h => h,fun i h => h,some a,cap,by rw [k2],by rw [k2]; exact hlc,hcm,fun _ => ⟨a,rfl⟩,fun j u hj => ⟨a,rfl,?_,k4 j u hj⟩⟩,?_,k3⟩
       ·have:=cell_lt (k4 j u hj)
        have hab:(a.add j).block=a.block:=by unfold Addr.add; split <;> rfl
        rwa [hab] at this
       ·have:List.length ys=len:=k2
        have hcm':cap≤9223372036854775807:=hcm
        omega
     ·cases hs
    ·rename_i e hkd
     rw [hkd] at hk
     split at hs
     ·rename_i es hes
      cases hs
      cases d <;> simp only [kdOf,reduceCtorEq,KD.ptr.injEq] at hk
      subst hk
      have hte:=K.pointer ht hd
      rcases DataW.trod_pointer hd h with ⟨rfl,_⟩ | ⟨a,cs',y,m,_,rfl,_,hc,htr⟩
      ·exact ⟨none,⟨rfl,fun i h => h⟩,fun y hy => by cases hy⟩
      ·obtain ⟨y,hy,hw⟩:=read_rep hT K n _ es m cs' _ hes htr hte
       obtain ⟨q1,q2⟩:=cells_at hc
       refine ⟨some y,⟨_,cs',noF,rfl,hy,fun i h => h,fun i h => h,a,rfl,fun j u hj => ⟨?_,q2 j u hj⟩⟩,fun z hz => by cases hz; exact hw⟩
       have:=cell_lt (q2 j u hj)
       have hab:(a.add j).block=a.block:=by unfold Addr.add; split <;> rfl
       rwa [hab] at this
     ·cases hs
    ·rename_i fs hkd
     rw [hkd] at hk
     split at hs
     ·rename_i ss hss
      split at hs
      ·rename_i q hq
       cases hs
       cases d <;> simp only [kdOf,reduceCtorEq,KD.struct.injEq] at hk
       rename_i fa
       subst hk
       obtain ⟨xs,m,_,_,hcl,hxl,hf⟩:=DataW.trod_struct hd h
       obtain ⟨hkt,hsz,hoff⟩:=K.struct ht hd
       rw [List.map_map] at hss
       obtain ⟨y,hy,hw⟩:=fields_rep (W:=W) (szs:=P.cellsOf) (f:=T.sh n) _ ss q cs hss hq (by rw [hcl,hsz,List.map_map]; rfl) (fun j t' hj sj hsj => by
        simp only [List.getElem?_map,Option.map_eq_some_iff] at hj
        obtain ⟨fl,hfl,rfl⟩:=hj
        have ho:=hoff j fl hfl
        have hfj:=hf j fl (by simpa using hfl)
        have hjl:j < xs.length:=by rw [hxl]; exact (Array.getElem?_eq_some_iff.1 (by simpa using hfl:fa[j]?=some fl)).1
        rw [List.getElem?_eq_getElem hjl] at hfj
        have htj:=hkt fl (List.mem_of_getElem? hfl)
        obtain ⟨y,hy,hw⟩:=read_rep hT K n fl.type sj m _ _ hsj hfj htj
        refine ⟨y,?_,hw⟩
        rw [ho] at hy
        rw [← List.map_take,List.map_map]
        exact hy)
       exact ⟨y,hy,hw⟩
      ·cases hs
     ·cases hs
    ·cases hs
   ·cases hs
end
end Go.Vm
