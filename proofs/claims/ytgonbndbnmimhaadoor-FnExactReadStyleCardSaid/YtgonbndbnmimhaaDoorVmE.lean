/- The symbolic state: what each slot holds, and what that says of the machine's slots and world. -/
import Derived.Test.YtgonbndbnmimhaaDoorVmD
set_option linter.unusedVariables false
set_option linter.unusedSimpArgs false
namespace Go.Vm
open Go
inductive SV where
 | val (s:Sh) (x:s.den)
 | copy (h:Nat) (p:Path)
 | addr (h:Nat) (p:Path)
 | clo (f:Nat) (caps:List (Nat × Path))
 | tup (vs:List TV)
 | cond (g:Nat) (b:Bool) (v:SV)
 | grown (h:Nat) (p:Path) (v:TV)
abbrev SS:=List (Nat × SV)
def SS.get:SS→Nat→Option SV
 | [],_ => none
 | (k,v) :: r,i => if k=i then some v else SS.get r i
def SV.refs:SV→Nat→Bool
 | .val _ _,_ => false
 | .copy h _,d => h == d
 | .addr h _,d => h == d
 | .clo _ caps,d => caps.any fun c => c.1 == d
 | .tup _,_ => false
 | .cond _ _ v,d => v.refs d
 | .grown h _ _,d => h == d
def SV.tests:SV→Nat→Bool
 | .cond g _ v,d => g == d || v.tests d
 | _,_ => false
def SS.kill (S:SS) (d:Nat):SS:=S.filter fun e => !(e.1 == d) && !(e.2.refs d) && !(e.2.tests d)
def SS.ins:SS→Nat→SV→SS
 | [],d,v => [(d,v)]
 | (k,u) :: r,d,v => if d < k then (d,v) :: (k,u) :: r else (k,u) :: SS.ins r d v
def SS.put (S:SS) (d:Nat) (v:SV):SS:=(S.kill d).ins d v
def VRep (Z:Fp) (w:World) (s:Sh) (x:s.den) (v:Value) (f:Fp):Prop:=∃ cs,CRep Z w s x cs f∧ValOf s v cs
def VReps (Z:Fp) (w:World):List TV→List Value→Fp→Prop
 | [],vs,f => vs=[]∧∀ i,¬ f i
 | t :: ts,vs,f => ∃ v vs' f1 f2,vs=v :: vs' ∧ (∀ i,f i↔f1 i∨f2 i) ∧ (∀ i,f1 i→¬ f2 i)∧VRep Z w t.sh t.x v f1∧VReps Z w ts vs' f2
def CellsAt (w:World) (g o:Nat) (cs:List Value):Prop:=∀ j u,cs[j]?=some u→w.cell? ⟨g,o+j,none⟩=some u
structure Home (S:SS) (tmps:Array Value) (h:Nat) (s:Sh) (x:s.den) (vh:Value):Prop where
 get:(h,SV.val s x) ∈ S
 tmp:tmps[h]?=some vh
def IsRoot:Sh→Prop
 | .sl true _ _ => True
 | .pt true _ _ => True
 | .mp true _ _ => True
 | _ => False
def AddrRep (S:SS) (w:World) (tmps:Array Value) (h:Nat) (p:Path) (v:Value):Prop :=
 ∃ s x vh g o,Home S tmps h s x vh∧IsRoot s∧p≠[]∧okAt s x p∧rootLoc w s vh p=some (g,o)∧v=.pointer (some ⟨g,o,none⟩)
def CopyRep (S:SS) (w:World) (tmps:Array Value) (h:Nat) (p:Path) (v:Value):Prop :=
 ∃ s x vh,Home S tmps h s x vh ∧ ((p=[]∧v=vh)∨∃ g o s' x' cs,IsRoot s∧p≠[]∧okAt s x p∧getAt s x p=some ⟨s',x'⟩∧rootLoc w s vh p=some (g,o)∧cs.length=s'.size∧CellsAt w g o cs∧ValOf s' v cs)
def GrownRep (Z:Fp) (S:SS) (w:World) (tmps:Array Value) (h:Nat) (p:Path) (tv:TV) (v:Value) (f:Fp):Prop :=
 ∃ s x vh g o vold t e xs f2,Home S tmps h s x vh∧IsRoot s∧p≠[]∧okAt s x p∧getAt s x p=some ⟨.sl true t e,xs⟩∧e.noOwn=true∧rootLoc w s vh p=some (g,o)∧w.cell? ⟨g,o,none⟩=some vold ∧
   tv.sh=.sl true t e∧CRep Z w tv.sh tv.x [v] f2∧∀ i,f2 i→f i∨vold.ownBlock=some i
def SV.rep (Z:Fp) (S:SS) (w:World) (tmps:Array Value):SV→Value→Fp→Prop
 | .val s x,v,f => VRep Z w s x v f
 | .copy h p,v,f => (∀ i,¬ f i)∧CopyRep S w tmps h p v
 | .addr h p,v,f => (∀ i,¬ f i)∧AddrRep S w tmps h p v
 | .clo fn caps,v,f => (∀ i,¬ f i)∧∃ vs:List Value,v=.func (.func fn) #[] vs.toArray∧vs.length=caps.length∧∀ (j:Nat) (u:Value) (c:Nat × Path),vs[j]?=some u→caps[j]?=some c→AddrRep S w tmps c.1 c.2 u∨CopyRep S w tmps c.1 c.2 u
 | .tup ts,v,f => ∃ vs:List Value,v=.tuple vs.toArray∧VReps Z w ts vs f
 | .grown h p tv,v,f => GrownRep Z S w tmps h p tv v f
 | .cond g b sv,v,f => (tmps[g]?=some (.bool b)→sv.rep Z S w tmps v f) ∧ (tmps[g]?≠some (.bool b)→v=undef)
structure Grow (Wr:Fp) (w w':World):Prop where
 os:w'.os=w.os
 tape:w'.tape=w.tape
 output:w'.output=w.output
 size:w.heap.size≤w'.heap.size
 block:∀ i,i < w.heap.size→¬ Wr i→w'.heap[i]?=w.heap[i]?
theorem Grow.refl (Wr:Fp) (w:World):Grow Wr w w:=⟨rfl,rfl,rfl,Nat.le_refl _,fun _ _ _ => rfl⟩
theorem Grow.step {Wr U:Fp} {w0 w w':World} (h:Grow Wr w0 w) (k:Grow U w w') (hU:∀ i,U i→Wr i∨w0.heap.size≤i):Grow Wr w0 w' :=
 ⟨k.os.trans h.os,k.tape.trans h.tape,k.output.trans h.output,Nat.le_trans h.size k.size,fun i hi hn => by
  rw [k.block i (Nat.lt_of_lt_of_le hi h.size) (fun hu => by rcases hU i hu with h' | h'; exact hn h'; omega)]; exact h.block i hi hn⟩
structure Fr where
 n:Nat
 keep:List Nat
 val:Nat→Value
instance:Coe Nat Fr:=⟨fun n => ⟨n,[],fun _ => undef⟩⟩
structure RelX (Z:Fp) (F:Nat→Fp) (w0:World) (Wr Zi:Fp) (N:Fr) (S:SS) (a:Act) (w:World):Prop where
 tsize:a.tmps.size=N.n
 pins:∀ k ∈ N.keep,a.tmps[k]?=some (N.val k)
 uniq:∀ k v1 v2,(k,v1) ∈ S → (k,v2) ∈ S→v1=v2
 zlt:∀ i,Z i→i < w.heap.size
 zin:∀ i,Z i→i < w0.heap.size→Zi i
 wr:∀ s i,F s i→Wr i∨w0.heap.size≤i
 nz:∀ s i,F s i→¬ Z i
 lt:∀ s i,F s i→i < w.heap.size
 apart:∀ s t i,F s i→F t i→s=t
 grow:Grow Wr w0 w
 defers:a.defers=[]
 rep:∀ s sv,(s,sv) ∈ S→∃ v,a.tmps[s]?=some v∧sv.rep Z S w a.tmps v (F s)
def Rel (w0:World) (Wr Zi:Fp) (N:Fr) (S:SS) (a:Act) (w:World):Prop:=∃ Z F,RelX Z F w0 Wr Zi N S a w
theorem SS.get_mem:∀ {S:SS} {d:Nat} {v:SV},S.get d=some v → (d,v) ∈ S
 | [],d,v,h => by simp [SS.get] at h
 | (k,u) :: r,d,v,h => by
   by_cases hk:k=d
   ·subst hk
    simp only [SS.get,if_true,Option.some.injEq] at h
    subst h; exact List.mem_cons_self
   ·simp only [SS.get,hk,if_false] at h
    exact List.mem_cons_of_mem _ (SS.get_mem h)
theorem SS.mem_ins:∀ {S:SS} {d:Nat} {v:SV} {e:Nat × SV},e ∈ S.ins d v↔e = (d,v)∨e ∈ S
 | [],d,v,e => by simp [SS.ins]
 | (k,u) :: r,d,v,e => by
   unfold SS.ins
   split
   ·simp
   ·simp only [List.mem_cons,SS.mem_ins (S:=r)]
    constructor
    ·rintro (h | h | h)
     ·exact .inr (.inl h)
     ·exact .inl h
     ·exact .inr (.inr h)
    ·rintro (h | h | h)
     ·exact .inr (.inl h)
     ·exact .inl h
     ·exact .inr (.inr h)
theorem SS.mem_kill {S:SS} {d:Nat} {e:Nat × SV}:e ∈ S.kill d↔e ∈ S∧e.1≠d∧e.2.refs d=false∧e.2.tests d=false:=by
 simp [SS.kill,and_assoc]
theorem SS.mem_put {S:SS} {d:Nat} {v:SV} {e:Nat × SV}:e ∈ S.put d v↔e = (d,v) ∨ (e ∈ S∧e.1≠d∧e.2.refs d=false∧e.2.tests d=false):=by
 rw [SS.put,SS.mem_ins,SS.mem_kill]
theorem uniq_put {S:SS} {d:Nat} {sv:SV} (h:∀ k v1 v2,(k,v1) ∈ S → (k,v2) ∈ S→v1=v2):∀ k v1 v2,(k,v1) ∈ S.put d sv → (k,v2) ∈ S.put d sv→v1=v2:=by
 intro k v1 v2 h1 h2
 rcases SS.mem_put.1 h1 with e1 | ⟨h1,n1,_⟩ <;> rcases SS.mem_put.1 h2 with e2 | ⟨h2,n2,_⟩
 ·simp only [Prod.mk.injEq] at e1 e2; rw [e1.2,e2.2]
 ·simp only [Prod.mk.injEq] at e1; exact absurd e1.1 n2
 ·simp only [Prod.mk.injEq] at e2; exact absurd e2.1 n1
 ·exact h k v1 v2 h1 h2
theorem VRep.same {Z Z':Fp} {w w':World} {s:Sh} {x:s.den} {v:Value} {f:Fp} (hZ:∀ i,Z i→Z' i) (hw:∀ i,Z i→w'.heap[i]?=w.heap[i]?) (hf:∀ i,f i→w'.heap[i]?=w.heap[i]?) (h:VRep Z w s x v f):VRep Z' w' s x v f:=by
 obtain ⟨cs,hc,hv⟩:=h
 exact ⟨cs,CRep.same hZ hw hf hc,hv⟩
theorem VReps.same {Z Z':Fp} {w w':World} (hZ:∀ i,Z i→Z' i) (hw:∀ i,Z i→w'.heap[i]?=w.heap[i]?):∀ {ts:List TV} {vs:List Value} {f:Fp},(∀ i,f i→w'.heap[i]?=w.heap[i]?)→VReps Z w ts vs f→VReps Z' w' ts vs f
 | [],vs,f,_,h => h
 | t :: ts,vs,f,hf,h => by
   obtain ⟨v,vs',f1,f2,rfl,he,hd,h1,h2⟩:=h
   exact ⟨v,vs',f1,f2,rfl,he,hd,h1.same hZ hw (fun i hi => hf i ((he i).2 (.inl hi))),VReps.same hZ hw (fun i hi => hf i ((he i).2 (.inr hi))) h2⟩
theorem root_cells {s:Sh} {x:s.den} {Z:Fp} {w:World} {v:Value} {f:Fp} (hs:IsRoot s) (h:VRep Z w s x v f):CRep Z w s x [v] f:=by
 obtain ⟨cs,hc,hv⟩:=h
 cases s <;> simp only [IsRoot] at hs
 all_goals
  simp only [ValOf] at hv
  subst hv; exact hc
theorem rootLoc_same {Z:Fp} {w w':World} {s:Sh} {x:s.den} {v:Value} {f:Fp} {p:Path} (hs:IsRoot s) (h:CRep Z w s x [v] f) (hok:okAt s x p) (hf:∀ i,f i→w'.heap[i]?=w.heap[i]?):rootLoc w' s v p=rootLoc w s v p:=by
 cases s with
 | sl o t e =>
   cases o with
   | false => simp [IsRoot] at hs
   | true =>
     cases p with
     | nil => simp [rootLoc]
     | cons q p =>
       cases q <;> simp only [okAt] at hok
       rename_i i
       obtain ⟨hi,hok'⟩:=hok
       obtain ⟨hv',inner,fr,hvv,hrr,ho,hfe,hfd⟩:=h
       obtain rfl:v=hv':=by simpa using hvv
       obtain ⟨c1,c,c2,fi,hin,hl1,hget1,hsub1,_⟩:=RRep.focus (size:=e.size) (fun x cs f h => CRep.length h) e.dflt i hi hrr
       rcases ho.2 with ⟨rfl,h0⟩ | ⟨g1,cap,cur,rfl,_,hg1,hnc,hcm,hcs,htake⟩
       ·simp [rootLoc]
       ·have hg1':w'.heap[g1]?=some (.cells cur t):=by rw [hf g1 ((hfe g1).2 (.inl rfl))]; exact hg1
        have hcells:∀ j u,c[j]?=some u→cur[i*e.size+j]?=some u:=by
         intro j u hu
         have hj:=(List.getElem?_eq_some_iff.1 hu).1
         have:inner[i*e.size+j]?=some u:=by
          rw [hin,List.append_assoc,List.getElem?_append_right (by omega),hl1,List.getElem?_append_left (by omega)]
          simpa using hu
         rw [← htake,List.getElem?_take] at this
         split at this
         ·simpa using this
         ·cases this
        have:=loc_same p e (List.getD x i e.dflt) g1 (i*e.size) c fi hget1 hok' (fun j u hu => by simp [World.cell?,hg1,hcells j u hu]) (fun j u hu => by simp [World.cell?,hg1',hcells j u hu]) (fun k hk => hf k ((hfe k).2 (.inr (hsub1 k hk))))
        simp only [rootLoc]
        simpa using this
 | pt o t e =>
   cases o with
   | false => simp [IsRoot] at hs
   | true =>
     cases p with
     | nil => simp [rootLoc]
     | cons q p =>
       cases q <;> simp only [okAt] at hok
       obtain ⟨hsome,hok'⟩:=hok
       cases x with
       | none => simp at hsome
       | some y =>
         obtain ⟨hv',inner,fr,hvv,hre,g1,rfl,hg1,hfe,hfd⟩:=h
         obtain rfl:v=.pointer (some ⟨g1,0,none⟩):=by simpa using hvv
         have hg1':w'.heap[g1]?=some (.cells inner.toArray t):=by rw [hf g1 ((hfe g1).2 (.inl rfl))]; exact hg1
         have:=loc_same p e y g1 0 inner fr hre (by simpa using hok') (fun j u hu => by rw [cells_get hg1]; simpa using hu) (fun j u hu => by rw [cells_get hg1']; simpa using hu) (fun k hk => hf k ((hfe k).2 (.inr hk)))
         simp only [rootLoc]
         simpa using this
 | mp o k mv =>
   cases p with
   | nil => simp [rootLoc]
   | cons q p => cases q <;> simp [okAt] at hok
 | _ => simp [IsRoot] at hs
theorem mp_path {o:Bool} {k v:Sh} {x:(Sh.mp o k v).den} {p:Path} (h:okAt (Sh.mp o k v) x p):p=[]:=by
 cases p with
 | nil => rfl
 | cons q p => cases q <;> simp [okAt] at h
theorem place_in {Z:Fp} {w:World} {s:Sh} {x:s.den} {v:Value} {f:Fp} {p:Path} {g o:Nat} {tv:TV} (hs:IsRoot s) (h:CRep Z w s x [v] f) (hok:okAt s x p) (hp:p≠[]) (hg:getAt s x p=some tv) (hl:rootLoc w s v p=some (g,o)):f g:=by
 obtain ⟨g',t',pre',cs',post',f',R⟩:=rfocus p s x v f tv h hp (by cases s <;> first | exact hs.elim | trivial | exact absurd (mp_path hok) (by assumption)) hok hg
 have:=R.at_
 rw [hl] at this
 simp only [Option.some.injEq,Prod.mk.injEq] at this
 rw [this.1]; exact R.in_
theorem place_row {Z:Fp} {w:World} {s:Sh} {x:s.den} {v vold:Value} {f:Fp} {p:Path} {g o t:Nat} {e:Sh} {xs:List e.den} (hs:IsRoot s) (h:CRep Z w s x [v] f) (hok:okAt s x p) (hp:p≠[]) (hg:getAt s x p=some ⟨.sl true t e,xs⟩) (hl:rootLoc w s v p=some (g,o)) (hc:w.cell? ⟨g,o,none⟩=some vold) :
 ∃ t' pre' post' f',RFocus Z w s x v f p (.sl true t e) xs g t' pre' [vold] post' f'∧pre'.length=o:=by
 obtain ⟨g',t',pre',cs',post',f',R⟩:=rfocus p s x v f _ h hp (by cases s <;> first | exact hs.elim | trivial | exact absurd (mp_path hok) hp) hok hg
 have:=R.at_
 rw [hl] at this
 simp only [Option.some.injEq,Prod.mk.injEq] at this
 obtain ⟨rfl,rfl⟩:=this
 have hl1:cs'.length=1:=CRep.length R.rep
 have hcs':cs'=[vold]:=by
  have h0:=cells_mid R.heap 0 (by omega)
  rw [Nat.add_zero,hc] at h0
  match cs',hl1,h0 with
  | [u],_,h0 => simp at h0; rw [h0]
 subst hcs'
 exact ⟨t',pre',post',f',R,rfl⟩
theorem own_iff {Z:Fp} {w:World} {t:Nat} {e:Sh} {xs:List e.den} {v:Value} {f:Fp} (hn:e.noOwn=true) (h:CRep Z w (.sl true t e) xs [v] f):∀ i,f i↔v.ownBlock=some i:=by
 obtain ⟨v',inner,fr,hvv,hrr,ho,hfe,hfd⟩:=h
 obtain rfl:v=v':=by simpa using hvv
 have hnone:=RRep.none_ (fun x cs f hx => CRep.noOwn hn hx) hrr
 intro i
 rw [hfe i]
 exact ⟨fun h => h.elim id (fun h => absurd h (hnone i)),.inl⟩
theorem okAt_get:∀ (p:Path) (s:Sh) (x:s.den),okAt s x p→∃ tv,getAt s x p=some tv:=by
 intro p s
 induction s generalizing p with
 | int k | bool | str | unit | any | raw | gh _ | mp mo mk mv _ _ | fn ff fc _ =>
   intro x h
   cases p with
   | nil => exact ⟨_,rfl⟩
   | cons q p => cases q <;> simp [okAt] at h
 | st f ih =>
   intro x h
   cases p with
   | nil => exact ⟨_,rfl⟩
   | cons q p =>
     have h':okAt f x (q :: p):=by cases q <;> simpa [okAt] using h
     obtain ⟨tv,htv⟩:=ih (q :: p) x h'
     exact ⟨tv,by cases q <;> simpa [getAt] using htv⟩
 | pair a b iha ihb =>
   intro x h
   cases p with
   | nil => exact ⟨_,rfl⟩
   | cons q p =>
     cases q with
     | fst => exact iha p x.1 (by simpa [okAt] using h)
     | snd => exact ihb p x.2 (by simpa [okAt] using h)
     | idx i => simp [okAt] at h
     | der => simp [okAt] at h
 | sl o t e ih =>
   intro x h
   cases p with
   | nil => exact ⟨_,rfl⟩
   | cons q p =>
     cases q with
     | idx i =>
       cases o with
       | false => simp [okAt] at h
       | true => exact ih p (List.getD x i e.dflt) (by simp only [okAt] at h; exact h.2)
     | fst => simp [okAt] at h
     | snd => simp [okAt] at h
     | der => simp [okAt] at h
 | pt o t e ih =>
   intro x h
   cases p with
   | nil => exact ⟨_,rfl⟩
   | cons q p =>
     cases q with
     | der =>
       cases o with
       | false => simp [okAt] at h
       | true => exact ih p (Option.getD x e.dflt) (by simp only [okAt] at h; exact h.2)
     | fst => simp [okAt] at h
     | snd => simp [okAt] at h
     | idx i => simp [okAt] at h
section
variable {Z Z':Fp} {F:Nat→Fp} {S S':SS} {w w':World} {tmps tmps':Array Value}
theorem AddrRep.turn {h:Nat} {p:Path} {v:Value} (hhome:∀ s x vh,Home S tmps h s x vh→Home S' tmps' h s x vh ∧ (IsRoot s→∃ f,CRep Z w s x [vh] f∧∀ i,f i→w'.heap[i]?=w.heap[i]?)) (hr:AddrRep S w tmps h p v):AddrRep S' w' tmps' h p v:=by
 obtain ⟨s,x,vh,g,o,hh,hs,hp,hok,hl,hv⟩:=hr
 obtain ⟨hh',hf⟩:=hhome s x vh hh
 obtain ⟨f,hc,hf⟩:=hf hs
 exact ⟨s,x,vh,g,o,hh',hs,hp,hok,by rw [rootLoc_same hs hc hok hf]; exact hl,hv⟩
theorem CopyRep.turn {h:Nat} {p:Path} {v:Value} (hhome:∀ s x vh,Home S tmps h s x vh→Home S' tmps' h s x vh ∧ (IsRoot s→∃ f,CRep Z w s x [vh] f∧∀ i,f i→w'.heap[i]?=w.heap[i]?)) (hr:CopyRep S w tmps h p v):CopyRep S' w' tmps' h p v:=by
 obtain ⟨s,x,vh,hh,hr⟩:=hr
 obtain ⟨hh',hf⟩:=hhome s x vh hh
 refine ⟨s,x,vh,hh',?_⟩
 rcases hr with hr | ⟨g,o,s',x',cs,hs,hp,hok,hg,hl,hlen,hcells,hv⟩
 ·exact .inl hr
 ·obtain ⟨f,hc,hf⟩:=hf hs
  refine .inr ⟨g,o,s',x',cs,hs,hp,hok,hg,by rw [rootLoc_same hs hc hok hf]; exact hl,hlen,fun j u hu => ?_,hv⟩
  rw [cell_same (w:=w) (hf g (place_in hs hc hok hp hg hl))]
  exact hcells j u hu
theorem SV.rep_turn (hZ:∀ i,Z i→Z' i) (hw:∀ i,Z i→w'.heap[i]?=w.heap[i]?) :
 ∀ {sv:SV} {v:Value} {f:Fp},(∀ i,f i→w'.heap[i]?=w.heap[i]?) →
   (∀ h,sv.refs h=true→∀ s x vh,Home S tmps h s x vh→Home S' tmps' h s x vh ∧ (IsRoot s→∃ f,CRep Z w s x [vh] f∧∀ i,f i→w'.heap[i]?=w.heap[i]?)) →
   (∀ g,sv.tests g=true→tmps'[g]?=tmps[g]?)→sv.rep Z S w tmps v f→sv.rep Z' S' w' tmps' v f
 | .val s x,v,f,hf,_,_,h => VRep.same hZ hw hf h
 | .copy h p,v,f,hf,hh,_,hr => ⟨hr.1,CopyRep.turn (Z:=Z) (hh h (by simp [SV.refs])) hr.2⟩
 | .addr h p,v,f,hf,hh,_,hr => ⟨hr.1,AddrRep.turn (Z:=Z) (hh h (by simp [SV.refs])) hr.2⟩
 | .grown h p tv,v,f,hf,hh,_,hr => by
   obtain ⟨s,x,vh,g,o,vold,t,e,xs,f2,k1,k2,k3,k4,k5,k6,k7,k8,k9,k10,k11⟩:=hr
   obtain ⟨hh',hf0⟩:=hh h (by simp [SV.refs]) s x vh k1
   obtain ⟨f0,hc0,hsame⟩:=hf0 k2
   obtain ⟨t',pre',post',f',R,_⟩:=place_row k2 hc0 k4 k3 k5 k7 k8
   refine ⟨s,x,vh,g,o,vold,t,e,xs,f2,hh',k2,k3,k4,k5,k6,by rw [rootLoc_same k2 hc0 k4 hsame]; exact k7,by rw [cell_same (w:=w) (hsame g R.in_)]; exact k8,k9,CRep.same hZ hw (fun i hi => ?_) k10,k11⟩
   rcases k11 i hi with h1 | h1
   ·exact hf i h1
   ·exact hsame i (R.sub i ((own_iff k6 R.rep i).2 h1))
 | .clo fn caps,v,f,hf,hh,_,hr => by
   obtain ⟨h0,vs,hv,hl,hr⟩:=hr
   refine ⟨h0,vs,hv,hl,fun j u c hu hc => ?_⟩
   have hm:(SV.clo fn caps).refs c.1=true:=by
    simp only [SV.refs,List.any_eq_true]
    exact ⟨c,List.mem_of_getElem? hc,by simp⟩
   rcases hr j u c hu hc with hr | hr
   ·exact .inl (AddrRep.turn (Z:=Z) (hh c.1 hm) hr)
   ·exact .inr (CopyRep.turn (Z:=Z) (hh c.1 hm) hr)
 | .tup ts,v,f,hf,_,_,hr => by
   obtain ⟨vs,hv,hr⟩:=hr
   exact ⟨vs,hv,VReps.same hZ hw hf hr⟩
 | .cond g b sv,v,f,hf,hh,ht,hr => by
   have e:=ht g (by simp [SV.tests])
   refine ⟨fun hg => ?_,fun hg => hr.2 (by rw [← e]; exact hg)⟩
   rw [e] at hg
   exact SV.rep_turn hZ hw hf (fun h hr => hh h (by simpa [SV.refs] using hr)) (fun g hg => ht g (by simp [SV.tests,hg])) (hr.1 hg)
end
theorem put_other (a:Act) (d s:Nat) (v:Value) (h:s≠d):(a.put (some d) v).tmps[s]?=a.tmps[s]?:=by
 simp [Act.put,Array.getElem?_setIfInBounds,Ne.symm h]
theorem put_same (a:Act) (d:Nat) (v:Value) (h:d < a.tmps.size):(a.put (some d) v).tmps[d]?=some v:=by
 simp [Act.put,Array.getElem?_setIfInBounds,h]
theorem RelX.sub {Z:Fp} {F:Nat→Fp} {w0:World} {Wr Zi:Fp} {N:Fr} {S S':SS} {a:Act} {w:World} (h:RelX Z F w0 Wr Zi N S a w) (hs:∀ e,e ∈ S'→e ∈ S)
 (hh:∀ s sv,(s,sv) ∈ S'→∀ k,sv.refs k=true→∀ s1 x1,(k,SV.val s1 x1) ∈ S → (k,SV.val s1 x1) ∈ S'):RelX Z F w0 Wr Zi N S' a w where
 tsize:=h.tsize
 pins:=h.pins
 uniq k v1 v2 h1 h2:=h.uniq k v1 v2 (hs _ h1) (hs _ h2)
 zlt:=h.zlt
 zin:=h.zin
 wr:=h.wr
 nz:=h.nz
 lt:=h.lt
 apart:=h.apart
 grow:=h.grow
 defers:=h.defers
 rep s sv hm:=by
  obtain ⟨v,hv,hr⟩:=h.rep s sv (hs _ hm)
  refine ⟨v,hv,SV.rep_turn (Z:=Z) (fun i hi => hi) (fun i hi => rfl) (fun i hi => rfl) ?_ (fun g hg => rfl) hr⟩
  intro k hk s1 x1 vh hhome
  refine ⟨⟨hh s sv hm k hk s1 x1 hhome.get,hhome.tmp⟩,fun hs1 => ?_⟩
  obtain ⟨v1,hv1,hr1⟩:=h.rep k _ hhome.get
  rw [hhome.tmp] at hv1
  obtain rfl:vh=v1:=by simpa using hv1
  exact ⟨F k,root_cells hs1 hr1,fun i hi => rfl⟩
end Go.Vm
