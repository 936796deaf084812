/- Arrays of bools with an index that varies: marks. -/
import Derived.Test.YtajigednlopmjaaVmKe
import Derived.Laws.Tables
import Derived.Laws.Pointers
set_option linter.unusedVariables false
set_option linter.unusedSimpArgs false
namespace Go.Vm
open Go
def optC {α β:Type} (x:Option α) (n:β) (s:α→β):β:=match x with
 | none => n
 | some y => s y
theorem optC_none {α β:Type} {n:β} {s:α→β} {r:β} (h:optC (none:Option α) n s=r):n=r:=h
theorem optC_some {α β:Type} {y:α} {n:β} {s:α→β} {r:β} (h:optC (some y) n s=r):s y=r:=h
def markV (X:Array Nat):Array Value:=X.map fun n => Value.bool (n != 0)
def arFam (b t:Nat):Fam where
 J X w f:=(∀ i,f i↔i=b)∧w.heap[b]?=some (.cells (markV X) t)
 lt _ _:=false
 low X w f h i hi:=by
  rw [(h.1 i).1 hi]
  exact (Array.getElem?_eq_some_iff.1 h.2).1
 stay X w w' f hs h:=⟨h.1,by rw [hs b ((h.1 b).2 rfl)]; exact h.2⟩
def arV (b t:Nat) (X:Array Nat):(Sh.gh true).den:=(.pointer (some ⟨b,0,none⟩),arFam b t,X)
def arP (b:Nat) (i:Int):Value:=.pointer (some ⟨b,i.toNat,none⟩)
inductive ArSp where
 | ix (s b t n:Nat) (X:Array Nat)
 | ld (s b t:Nat) (X:Array Nat) (i:Int)
 | st (s b t:Nat) (X:Array Nat) (i:Int)
 | nq (k:Nat)
def ptrT (T:Tbl) (t:Nat):Bool:=match T.find t with
 | some i => (match i.kd with | .ptr _ => true | _ => false)
 | none => false
def arT (T:Tbl) (t n:Nat):Bool:=match T.find t with
 | some i => match i.kd with
   | .array m e => Nat.beq m n && (match T.find e with
     | some j => (match j.kd with | .bool => Nat.beq j.size 1 | _ => false)
     | none => false)
   | _ => false
 | none => false
def boolT (T:Tbl) (t:Nat):Bool:=match T.find t with
 | some i => (match i.kd with | .bool => Nat.beq i.size 1 | _ => false)
 | none => false
abbrev ghIs (S:SS) (s b t:Nat) (X:Array Nat):Prop:=S.get s=some (.val (.gh true) (arV b t X))
def arS (T:Tbl) (N:Fr) (S:SS) (o:Oper):ArSp→SP
 | .ix s b t n X => match o.op with
   | .indexAddr t' (.tmp s') I => if Nat.beq t' t && Nat.beq s' s && arT T t n then match opv T S t I with
     | some ⟨.int k,i⟩ => outS N S o.dst (.val .raw (arP b i)) [ghIs S s b t X,0≤i∧i < (n:Int)]
     | _ => none
     else none
   | _ => none
 | .ld s b t X i => match o.op with
   | .load t' (.tmp d) => if boolT T t' then outS N S o.dst (.val .bool (X.getD i.toNat 0 != 0)) [ghIs S s b t X,S.get d=some (.val .raw (arP b i)),i.toNat < X.size] else none
   | _ => none
 | .st s b t X i => match o.op,o.dst with
   | .store t' (.tmp d) (.const (.bool true)),none => if boolT T t' then some (S.put s (.val (.gh true) (arV b t (X.setIfInBounds i.toNat 1))),[ghIs S s b t X,S.get d=some (.val .raw (arP b i)),i.toNat < X.size]) else none
   | _,_ => none
 | .nq k => match o.op with
   | .binOp .eql t X (.const (.pointer none)) _ => if ptrT T t then match opd T S t X,S.get k with
     | some (.copy k' []),some (.val (.pt _ _ _) x) => if Nat.beq k' k then outS N S o.dst (.val .bool (Option.isNone x)) [] else none
     | _,_ => none
     else none
   | _ => none
section
variable {P:Program} {T:Tbl} {Z:Fp} {F:Nat→Fp} {w0:World} {Wr Zi:Fp} {N:Fr} {S S' S1:SS} {a:Act} {w:World} {o:Oper}
theorem pt_val {ow:Bool} {t:Nat} {e:Sh} {x:(Sh.pt ow t e).den} {v:Value} {f:Fp} (h:VRep Z w (.pt ow t e) x v f):∃ p,v=.pointer p∧p.isNone=Option.isNone x:=by
 obtain ⟨cs,hc,hv⟩:=h
 cases x with
 | none =>
   cases ow <;> (obtain ⟨rfl,_⟩:=hc; exact ⟨none,by simpa [ValOf] using hv.symm,rfl⟩)
 | some y =>
   cases ow with
   | true =>
     obtain ⟨u,inner,fr,rfl,_,g,rfl,_⟩:=hc
     exact ⟨_,by simpa [ValOf] using hv.symm,rfl⟩
   | false =>
     obtain ⟨u,inner,fr,rfl,_,_,_,ad,rfl,_⟩:=hc
     exact ⟨_,by simpa [ValOf] using hv.symm,rfl⟩
theorem ptrT_run (hT:TOk P T) {t:Nat} (h:ptrT T t=true):∃ e,P.underlying t=some (.pointer e):=by
 unfold ptrT at h
 split at h
 ·rename_i i hi
  split at h
  ·rename_i e hk
   obtain ⟨ht,⟨d,hd,hkd⟩,_⟩:=hT.find hi
   rw [ht] at hd
   rw [hk] at hkd
   refine ⟨e,?_⟩
   rw [hd]
   cases d <;> simp_all [kdOf]
  ·cases h
 ·cases h
theorem gh_is (h:RelX Z F w0 Wr Zi N S a w) {s b t:Nat} {X:Array Nat} (hg:ghIs S s b t X):a.tmps[s]?=some (.pointer (some ⟨b,0,none⟩)) ∧ (∀ i,F s i↔i=b)∧w.heap[b]?=some (.cells (markV X) t):=by
 obtain ⟨v,hv,cs,⟨⟨rfl,_⟩,hJ⟩,hval⟩:=h.rep s _ (SS.get_mem hg)
 obtain rfl:v=.pointer (some ⟨b,0,none⟩):=by simpa [ValOf,arV] using hval.symm
 exact ⟨hv,hJ.1,hJ.2⟩
theorem raw_is (h:RelX Z F w0 Wr Zi N S a w) {d:Nat} {x:Value} (hg:S.get d=some (.val .raw x)):a.tmps[d]?=some x:=by
 obtain ⟨v,hv,cs,⟨⟨rfl,_⟩,_⟩,hval⟩:=h.rep d _ (SS.get_mem hg)
 obtain rfl:x=v:=by simpa [ValOf] using hval
 exact hv
theorem boolT_run (hT:TOk P T) {t:Nat} (h:boolT T t=true):∃ info,P.underlying t=some .bool∧P.info? t=some info∧info.size=1:=by
 unfold boolT at h
 split at h
 ·rename_i i hi
  split at h
  ·rename_i hk
   obtain ⟨ht,⟨d,hd,hkd⟩,x,hx,hsz,_⟩:=hT.find hi
   rw [ht] at hd hx
   rw [hk] at hkd
   refine ⟨x,?_,hx,by rw [hsz]; simpa using h⟩
   rw [hd]
   cases d <;> simp_all [kdOf]
  ·cases h
 ·cases h
theorem arT_run (hT:TOk P T) {t n:Nat} (h:arT T t n=true):∃ e info,P.underlying t=some (.array n e)∧P.info? e=some info∧info.size=1:=by
 unfold arT at h
 split at h
 ·rename_i i hi
  split at h
  ·rename_i m e hk
   simp only [Bool.and_eq_true] at h
   obtain ⟨hm,he⟩:=h
   have hm:m=n:=by simpa using hm
   subst hm
   have hb:boolT T e=true:=by unfold boolT; exact he
   obtain ⟨info,_,q2,q3⟩:=boolT_run hT hb
   obtain ⟨ht,⟨d,hd,hkd⟩,_⟩:=hT.find hi
   rw [ht] at hd
   rw [hk] at hkd
   refine ⟨e,info,?_,q2,q3⟩
   rw [hd]
   cases d <;> simp_all [kdOf]
  ·cases h
 ·cases h
theorem mark_get {X:Array Nat} {j:Nat} (h:j < X.size):(markV X)[j]?=some (.bool (X.getD j 0 != 0)):=by
 unfold markV
 simp [h]
theorem mark_set {X:Array Nat} {j:Nat} (h:j < X.size):(markV X).setIfInBounds j (.bool true)=markV (X.setIfInBounds j 1):=by
 unfold markV
 rw [Array.map_setIfInBounds]
 rfl
theorem arS_ok (hT:TOk P T) (h:RelX Z F w0 Wr Zi N S a w) {sp:ArSp} {c:List Prop} (hl:arS T N S o sp=some (S',c)) (hc:AllP c):Does P o a w (Rel w0 Wr Zi N S'):=by
 unfold arS at hl
 split at hl
 ·rename_i s b t n X
  split at hl
  ·rename_i t' s' I hop
   split at hl
   ·rename_i hck
    simp only [Bool.and_eq_true] at hck
    obtain ⟨⟨k1,k2⟩,har⟩:=hck
    obtain rfl:t'=t:=Nat.eq_of_beq_eq_true k1
    obtain rfl:s'=s:=Nat.eq_of_beq_eq_true k2
    split at hl
    ·rename_i k i hi
     obtain ⟨hp,rfl⟩:=outS_some hl
     obtain ⟨hg,⟨i0,i1⟩,_⟩:=hc
     obtain ⟨hs,_,hb⟩:=gh_is h hg
     obtain ⟨e,info,r1,r2,r3⟩:=arT_run hT har
     have hiv:=int_arg (opv_rep h hi)
     have hidx:(Instr.indexAt t' (.pointer (some ⟨b,0,none⟩)) (.int k i)).run P w=.ok (arP b i) w:=by
      simp [Instr.indexAt,asIntOf,Instr.sureAddr,run_underlying r1,i0,i1,Go.sizeOf,typeInfo,r2,r3,arP,Addr.add]
      intro h0
      have:Int.toNat i=0:=Int.toNat_of_nonpos h0
      omega
     refine (Runs.read h hp (v:=arP b i) ?_ ?_).does
     ·simp [execOp,hop,eval_of hs,hiv,hidx]
     ·exact ⟨_,⟨⟨rfl,rfl⟩,fun _ => id⟩,rfl⟩
    ·cases hl
   ·cases hl
  ·cases hl
 ·rename_i s b t X i
  split at hl
  ·rename_i t' d hop
   split at hl
   ·rename_i hbt
    obtain ⟨hp,rfl⟩:=outS_some hl
    obtain ⟨hg,hd,hlt,_⟩:=hc
    obtain ⟨hs,_,hb⟩:=gh_is h hg
    have hdv:=raw_is h hd
    obtain ⟨info,r1,r2,r3⟩:=boolT_run hT hbt
    have hcell:w.cell? ⟨b,i.toNat,none⟩=some (.bool (X.getD i.toNat 0 != 0)):=by
     simp [World.cell?,hb,mark_get hlt]
    refine (Runs.read h hp (v:=.bool (X.getD i.toNat 0 != 0)) ?_ ?_).does
    ·simp [execOp,hop,eval_of hdv,arP,Instr.loadAt,Instr.sureAddr,loadVar,isAgg,run_underlying r1,hcell]
    ·exact ⟨_,⟨rfl,fun _ => id⟩,rfl⟩
   ·cases hl
  ·cases hl
 ·rename_i s b t X i
  split at hl
  ·rename_i t' d hop hdst
   split at hl
   ·rename_i hbt
    cases hl
    obtain ⟨hg,hd,hlt,_⟩:=hc
    obtain ⟨hs,hF,hb⟩:=gh_is h hg
    have hdv:=raw_is h hd
    obtain ⟨info,r1,r2,r3⟩:=boolT_run hT hbt
    have hcell:w.cell? ⟨b,i.toNat,none⟩=some (.bool (X.getD i.toNat 0 != 0)):=by
     simp [World.cell?,hb,mark_get hlt]
    have hst:=run_storeCells_at (P:=P) b i.toNat t [.bool true] 0 (markV X) w hb (by simp [markV]; omega) (by simp [Value.oneCell'])
    have hnew:((markV X).toList.take (i.toNat+0) ++ [.bool true] ++ (markV X).toList.drop (i.toNat+0+[Value.bool true].length)) = (markV (X.setIfInBounds i.toNat 1)).toList:=by
     rw [← mark_set hlt,Array.toList_setIfInBounds,List.set_eq_take_append_cons_drop,if_pos (by simpa [markV] using hlt)]
     simp
    rw [hnew,Array.toArray_toList] at hst
    have hrun:(execOp a.eval o).run P w=.ok .skip (w.setRow b (markV (X.setIfInBounds i.toNat 1))):=by
     have he:a.eval (.const (.bool true))=.bool true:=rfl
     simp [execOp,hop,eval_of hdv,arP,he,Instr.storeAt,Instr.sureAddr,storeVar,Go.sizeOf,typeInfo,r2,r3,Value.cells,hst]
    have hsame:∀ j,j≠b → (w.setRow b (markV (X.setIfInBounds i.toNat 1))).heap[j]?=w.heap[j]?:=fun j hj => setRow_other w b j _ hj
    have hsz:(w.setRow b (markV (X.setIfInBounds i.toNat 1))).heap.size=w.heap.size:=by simp [World.setRow]
    have hgr:Grow (fun j => j=b) w (w.setRow b (markV (X.setIfInBounds i.toNat 1))):=⟨rfl,rfl,rfl,by rw [hsz]; exact Nat.le_refl _,fun j _ hn => hsame j hn⟩
    have ht:=h.turn (k:=s) (s:=.gh true) (x:=arV b t (X.setIfInBounds i.toNat 1)) (v:=.pointer (some ⟨b,0,none⟩)) (f:=F s) (U:=fun j => j=b) (Zn:=fun _ => False) hs hgr (fun j hj => (hF j).2 hj) (fun j hj => hj.elim)
     (fun j hj => ⟨by rw [hsz]; exact h.lt s j hj,.inl hj,fun hf => hf⟩) ⟨[_],⟨⟨rfl,rfl⟩,hF,setRow_heap w b _ _ _ _ hb⟩,rfl⟩
    intro K Q hK
    unfold Oper.wp
    rw [hrun]
    refine hK _ _ ?_
    rw [hdst]
    exact ⟨_,_,ht⟩
   ·cases hl
  ·cases hl
 ·rename_i k
  split at hl
  ·rename_i t X yt hop
   split at hl
   ·rename_i hpt
    split at hl
    ·rename_i k' ow t' e x hX hk
     split at hl
     ·rename_i hkk
      obtain rfl:k'=k:=Nat.eq_of_beq_eq_true hkk
      obtain ⟨hp,rfl⟩:=outS_some hl
      obtain ⟨e2,r1⟩:=ptrT_run hT hpt
      have hrep:=(opd_rep h hX).2
      obtain ⟨s1,x1,vh,hhome,hcase⟩:=hrep
      have hv:a.eval X=vh:=by
       rcases hcase with ⟨_,hv⟩ | ⟨g,o1,s',x',cs,_,hne,_⟩
       ·exact hv
       ·exact absurd rfl hne
      have his:=home_is h hhome hk
      cases his
      obtain ⟨p,hpv,hpn⟩:=pt_val (home_rep h hhome)
      refine (Runs.read h hp (v:=.bool p.isNone) ?_ ?_).does
      ·have hpt2:P.underlying t=some (.pointer (P.pointee t)):=by
        rw [r1]; simp [Program.pointee,r1]
       have:=run_eql_pointer_nil (P:=P) w t p hpt2
       have he:a.eval (.const (.pointer none))=.pointer none:=rfl
       simp [execOp,hop,hv,hpv,he,eqGuard,this]
      ·rw [hpn]
       exact ⟨_,⟨rfl,fun _ => id⟩,rfl⟩
     ·cases hl
    ·cases hl
   ·cases hl
  ·cases hl
end
def gstepS (T:Tbl) (P:Program) (N:Fr) (ops:Array Oper) (S:SS) (o:Oper) (st:SS→SP):SP:=match o.guard with
 | none => st S
 | some (j,b) => match (ops[j]?).bind (·.dst),o.dst with
   | some g,some d => match gprop S 8 g b with
     | some (p,ch) => if (S.all fun e => e.2.flat) && (ch.all fun e => !(e.1 == d)) then match st (S.strip ch) with
       | some (S',c) => match S'.get d with
         | some sv => if refsIn S sv && !(sv.refs d) && !(sv.tests d) then some (S.put d (.cond g b sv),c.map fun q => (p→q)) else none
         | none => none
       | none => none
       else none
     | none => none
   | _,_ => none
section
variable {P:Program} {T:Tbl} {Z:Fp} {F:Nat→Fp} {w0:World} {Wr Zi:Fp} {N:Fr} {S S' S1:SS} {a:Act} {w:World} {o:Oper}
theorem gstep_ok {ops:Array Oper} {st:SS→SP} (hok:∀ (Z:Fp) (F:Nat→Fp) (S1 S2:SS) (c2:List Prop),RelX Z F w0 Wr Zi N S1 a w→st S1=some (S2,c2)→AllP c2→Does P o a w (Rel w0 Wr Zi N S2))
 (hpure:∀ (S1 S2:SS) (c2:List Prop) (d:Nat),o.dst=some d→st S1=some (S2,c2)→∃ k sv,o.dst=some k ∧ (k < N.n∧k ∉ N.keep)∧S2=S1.put k sv∧sv.refs k=false∧sv.tests k=false)
 (h:RelX Z F w0 Wr Zi N S a w) {c:List Prop} (hr:gstepS T P N ops S o st=some (S',c)) (hc:AllP c):DoesG P ops o a w (Rel w0 Wr Zi N S'):=by
 intro K Q hK
 unfold gstepS at hr
 split at hr
 ·rename_i hgd
  rw [if_pos (by simp [Region.wanted,hgd])]
  exact hok _ _ _ _ _ h hr hc K Q hK
 ·rename_i j b hgd
  split at hr
  ·rename_i g d hg hd
   split at hr
   ·rename_i p ch hp
    split at hr
    ·rename_i hchk
     simp only [Bool.and_eq_true] at hchk
     obtain ⟨hflat,hchd⟩:=hchk
     split at hr
     ·rename_i S2 c2 hst
      split at hr
      ·rename_i sv hsv
       split at hr
       ·rename_i hck
        simp only [Bool.and_eq_true,Bool.not_eq_true'] at hck
        obtain ⟨⟨hrefs,hrd⟩,htd⟩:=hck
        cases hr
        obtain ⟨i1,i2,i3⟩:=gprop_ok h hp
        have hchd':∀ e ∈ ch,e.1≠d:=fun e he => by
         have:=List.all_eq_true.1 hchd e he
         simpa using this
        have hgd':g≠d:=hchd' _ i3
        have hy:yielded ops a.tmps j=match a.tmps[g]? with | some (.bool b) => some b | _ => none:=by
         unfold yielded
         rw [hg]
         rfl
        obtain ⟨k,sv2,hk,hkN,rfl,hr2,ht2⟩:=hpure _ _ _ _ hd hst
        rw [hd] at hk
        obtain rfl:d=k:=by simpa using hk
        rw [SS.get_put_same] at hsv
        obtain rfl:sv2=sv:=by simpa using hsv
        by_cases hpp:p
        ·have hgv:=i1.1 hpp
         rw [if_pos (by simp [Region.wanted,hgd,hy,hgv])]
         have hch:=i2 hpp
         have h2:=h.strip hch hflat
         refine wp_put hd (hok _ _ _ _ _ h2 hst (hc.guard hpp)) K Q ?_
         rintro a' w' ⟨⟨Z1,F1,hrel⟩,htm⟩
         exact hK _ _ ⟨Z1,F1,h.merge hch hflat hrel htm hchd' i3 hrefs hrd htd⟩
        ·have hgv:a.tmps[g]?≠some (.bool b):=fun e => hpp (i1.2 e)
         have hnw:Region.wanted o (yielded ops a.tmps)=false:=by
          simp only [Region.wanted,hgd,hy]
          cases hq:a.tmps[g]? with
          | none => simp
          | some v =>
            cases v <;> simp
            rename_i b'
            intro e
            exact hgv (by rw [hq,e])
         rw [hnw]
         simp only [Bool.false_eq_true,if_false]
         refine hK _ _ ?_
         rw [hd]
         refine ⟨Z,_,h.putG (d:=d) (sv:=.cond g b sv2) (v:=undef) (f:=fun _ => False) (U:=fun _ => False) (by rw [h.tsize]; exact hkN.1) (fun hm => absurd hm hkN.2) (Grow.refl _ _) (fun i hi => hi.elim) (fun i hi => hi.elim) ⟨fun e => ?_,fun _ => rfl⟩⟩
         rw [put_other a d g undef hgd'] at e
         exact absurd e hgv
       ·cases hr
      ·cases hr
     ·cases hr
    ·cases hr
   ·cases hr
  ·cases hr
theorem arS_pure {sp:ArSp} {c:List Prop} {d:Nat} (hd:o.dst=some d) (hl:arS T N S o sp=some (S',c)):∃ k sv,o.dst=some k ∧ (k < N.n∧k ∉ N.keep)∧S'=S.put k sv∧sv.refs k=false∧sv.tests k=false:=by
 unfold arS at hl
 split at hl
 ·split at hl
  ·split at hl
   ·split at hl
    ·exact outS_put hl
    ·cases hl
   ·cases hl
  ·cases hl
 ·split at hl
  ·split at hl
   ·exact outS_put hl
   ·cases hl
  ·cases hl
 ·split at hl
  ·rename_i hn
   rw [hd] at hn
   cases hn
  ·cases hl
 ·split at hl
  ·split at hl
   ·split at hl
    ·split at hl
     ·exact outS_put hl
     ·cases hl
    ·cases hl
   ·cases hl
  ·cases hl
end
def sxR (T:Tbl) (P:Program) (N:Fr) (sp:List (Nat × ArSp)) (sx:Sx) (ops:Array Oper):Sx:=fun i S => match sp.find? fun x => Nat.beq x.1 i with
 | some x => match ops[i]? with
   | some o => gstepS T P N ops S o fun S => arS T N S o x.2
   | none => none
 | none => sx i S
theorem sxR_ok {T:Tbl} {P:Program} (hT:TOk P T) {w0:World} {Wr Zi:Fp} {N:Fr} {ops:Array Oper} {sx:Sx} (sp:List (Nat × ArSp)) (hX:SxOk T P w0 Wr Zi N ops sx):SxOk T P w0 Wr Zi N ops (sxR T P N sp sx ops):=by
 intro i o Z F S S' c a w ho hs hc h
 unfold sxR at hs
 split at hs
 ·rw [ho] at hs
  exact gstep_ok (fun Z F S1 S2 c2 h1 h2 h3 => arS_ok hT h1 h2 h3) (fun S1 S2 c2 d hd h2 => arS_pure hd h2) h hs hc
 ·exact hX i o Z F S S' c a w ho hs hc h
section
variable {P:Program} {T:Tbl} {w0:World} {Wr Zi:Fp} {N:Fr} {S S' S1:SS} {a:Act} {w:World} {Q:Exit→Act→World→Prop}
theorem mark_zero (n:Nat):(List.replicate n (Value.bool false)).toArray=markV (Array.replicate n 0):=by
 apply Array.toList_inj.1
 simp [markV]
theorem wp_arNew_seq (hT:TOk P T) {id:Nat} {ops:Array Oper} {rest:Code} {o0 o1 o2:Oper} {t d0 d n:Nat} {ti:TI} (h:Rel w0 Wr Zi N S a w) (hops:ops.toList=[o0,o1,o2])
 (e0:o0.op=.build t #[]) (g0:o0.dst=some d0) (u0:o0.guard=none) (e1:o1.op=.alloc t) (g1:o1.dst=some d) (u1:o1.guard=none) (e2:o2.op=.store t (.tmp d) (.tmp d0)) (g2:o2.dst=none) (u2:o2.guard=none)
 (ha:arT T t n=true) (hti:T.find t=some ti) (hz:ti.zero.zeroV=.agg (List.replicate n (Value.bool false)).toArray) (hsz:ti.size=n) (hf0:freeB N d0=true) (hf:freeB N d=true) (hne:Nat.beq d0 d=false)
 (hQ:∀ b a' w',Rel w0 Wr Zi N ((S.put d0 anyS).put d (.val (.gh true) (arV b t (Array.replicate n 0)))) a' w'→rest.wp P Q a' w'):((Code.region id ops false).seq rest).wp P Q a w:=by
 obtain ⟨Z,F,hX⟩:=h
 obtain ⟨l0,k0⟩:=freeB_ok hf0
 obtain ⟨l1,k1⟩:=freeB_ok hf
 have hdd:d0≠d:=fun e => by simp [e] at hne
 obtain ⟨e,info,r1,r2,r3⟩:=arT_run hT ha
 obtain ⟨ht,hty⟩:=hT.find hti
 obtain ⟨inf,hinf,hisz,hby,hzr⟩:=hty.info
 rw [ht] at hinf
 rw [hz] at hzr
 refine wp_seq (wp_region_list ?_)
 rw [hops]
 have hzero:(zeroValue t).run P w=.ok (.agg (List.replicate n (Value.bool false)).toArray) w:=by simp [zeroValue,typeInfo,hinf,hzr]
 refine wpL_val u0 (v:=.agg (List.replicate n (Value.bool false)).toArray) (w':=w) (by
  simp [execOp,e0,Instr.build,hzero,run_underlying r1,Go.sizeOf,typeInfo,r2,Instr.fill,Value.cells]) ?_
 rw [g0]
 obtain ⟨F2,h2,_⟩:=hX.any3 (.agg (List.replicate n (Value.bool false)).toArray) l0 k0
 have hts:=h2.tsize
 refine wpL_val u1 (v:=.pointer (some ⟨w.heap.size,0,none⟩)) (w':=w.alloc (.cells (List.replicate n (Value.bool false)).toArray t)) (by
  simp [execOp,e1,Instr.alloc,hzero,Go.newVar,Go.newRow,Value.cells]) ?_
 rw [g1]
 have hnew:(w.alloc (.cells (List.replicate n (Value.bool false)).toArray t)).heap[w.heap.size]?=some (.cells (List.replicate n (Value.bool false)).toArray t):=alloc_new w _
 obtain ⟨a2,ha2⟩:∃ a2,a2 = (a.put (some d0) (.agg (List.replicate n (Value.bool false)).toArray)).put (some d) (.pointer (some ⟨w.heap.size,0,none⟩)):=⟨_,rfl⟩
 have q1:a2.eval (.tmp d)=.pointer (some ⟨w.heap.size,0,none⟩):=by rw [ha2]; exact eval_of (put_same _ _ _ (by rw [hts]; exact l1))
 have q2:a2.eval (.tmp d0)=.agg (List.replicate n (Value.bool false)).toArray:=by
  rw [ha2,eval_of]
  rw [put_other _ _ _ _ hdd,put_same _ _ _ (by rw [hX.tsize]; exact l0)]
 rw [← ha2]
 obtain ⟨w2,hw2⟩:∃ w2,w2 = (w.alloc (.cells (List.replicate n (Value.bool false)).toArray t)).setRow w.heap.size (List.replicate n (Value.bool false)).toArray:=⟨_,rfl⟩
 have hnew2:w2.heap[w.heap.size]?=some (.cells (List.replicate n (Value.bool false)).toArray t):=by rw [hw2]; exact setRow_heap _ _ _ _ _ _ hnew
 have hgr:Grow (fun _ => False) w w2:=by
  rw [hw2]
  refine ⟨rfl,rfl,rfl,?_,fun i hi _ => ?_⟩
  ·simp only [World.setRow,Array.size_modify]
   exact (Grow.alloc w _).size
  ·rw [setRow_other _ _ _ _ (by omega),alloc_old w _ i hi]
 refine wpList_step fun K hK => ?_
 rw [if_pos (by simp [Region.wanted,u2])]
 refine wp_store_row t (.tmp d) (.tmp d0) e2 w.heap.size _ q1 q2 t _ hnew (by rw [hinf,Option.map_some,hisz,hsz]; simp) rfl (Array.all_eq_true_iff_forall_mem.2 fun v hv => by rw [(List.mem_replicate.1 (List.mem_toArray.1 hv)).2]; rfl) ?_
 rw [← hw2,g2]
 refine hK _ _ (hQ w.heap.size _ _ ?_)
 have hfin:=h2.putG (d:=d) (sv:=.val (.gh true) (arV w.heap.size t (Array.replicate n 0))) (v:=.pointer (some ⟨w.heap.size,0,none⟩)) (w':=w2) (f:=fun i => i=w.heap.size) (U:=fun _ => False) (by rw [hts]; exact l1) (fun hm => absurd hm k1) hgr (fun i hi => hi.elim) (by
  rintro i rfl
  exact ⟨(Array.getElem?_eq_some_iff.1 hnew2).1,.inl (Nat.le_refl _)⟩) (by
  refine ⟨[_],⟨⟨rfl,rfl⟩,fun i => Iff.rfl,?_⟩,rfl⟩
  rw [hnew2,mark_zero]
  rfl)
 rw [ha2]
 exact ⟨Z,_,hfin⟩
end
end Go.Vm
