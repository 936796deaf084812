/- Operations on places: fields, elements, loads; what makes memory. -/
import Derived.Test.YtgonbndbnmimhaaDoorVmG
import Derived.Laws.MakeOwn
set_option linter.unusedVariables false
set_option linter.unusedSimpArgs false
namespace Go.Vm
open Go
theorem getAt_st_cons (f:Sh) (x:f.den) (q:Step) (p:Path):getAt (.st f) x (q :: p)=getAt f x (q :: p):=by cases q <;> simp [getAt]
theorem okAt_st_cons (f:Sh) (x:f.den) (q:Step) (p:Path):okAt (.st f) x (q :: p)=okAt f x (q :: p):=by cases q <;> simp [okAt]
theorem loc_st_cons (w:World) (f:Sh) (b o:Nat) (q:Step) (p:Path):loc w (.st f) b o (q :: p)=loc w f b o (q :: p):=by cases q <;> simp [loc]
theorem path_append:∀ (p:Path) (s:Sh) (x:s.den) (s1:Sh) (x1:s1.den) (q:Path),getAt s x p=some ⟨s1,x1⟩ →
 getAt s x (p ++ q)=getAt s1 x1 q ∧ (okAt s x p→okAt s1 x1 q→okAt s x (p ++ q)) ∧
  ∀ (w:World) (b o g o':Nat),loc w s b o p=some (g,o')→loc w s b o (p ++ q)=loc w s1 g o' q:=by
 intro p s
 induction s generalizing p with
 | int k | bool | str | unit | any | raw | gh _ | mp mo mk mv _ _ | fn ff fc _ =>
   intro x s1 x1 q h
   cases p with
   | nil => simp only [getAt,Option.some.injEq,TV.mk.injEq] at h; obtain ⟨rfl,h⟩:=h; obtain rfl:=eq_of_heq h; exact ⟨rfl,fun _ h => h,fun w b o g o' h => by simp only [loc,Option.some.injEq,Prod.mk.injEq] at h; obtain ⟨rfl,rfl⟩:=h; rfl⟩
   | cons c p => cases c <;> simp [getAt] at h
 | st f ih =>
   intro x s1 x1 q h
   cases p with
   | nil => simp only [getAt,Option.some.injEq,TV.mk.injEq] at h; obtain ⟨rfl,h⟩:=h; obtain rfl:=eq_of_heq h; exact ⟨rfl,fun _ h => h,fun w b o g o' h => by simp only [loc,Option.some.injEq,Prod.mk.injEq] at h; obtain ⟨rfl,rfl⟩:=h; rfl⟩
   | cons c p =>
     rw [getAt_st_cons] at h
     have:=ih (c :: p) x s1 x1 q h
     rw [List.cons_append,getAt_st_cons,okAt_st_cons,okAt_st_cons]
     refine ⟨this.1,this.2.1,fun w b o g o' hl => ?_⟩
     rw [loc_st_cons] at hl ⊢
     exact this.2.2 w b o g o' hl
 | pair a c iha ihc =>
   intro x s1 x1 q h
   cases p with
   | nil => simp only [getAt,Option.some.injEq,TV.mk.injEq] at h; obtain ⟨rfl,h⟩:=h; obtain rfl:=eq_of_heq h; exact ⟨rfl,fun _ h => h,fun w b o g o' h => by simp only [loc,Option.some.injEq,Prod.mk.injEq] at h; obtain ⟨rfl,rfl⟩:=h; rfl⟩
   | cons c p =>
     cases c with
     | fst => simpa [getAt,okAt,loc] using iha p x.1 s1 x1 q (by simpa [getAt] using h)
     | snd =>
       have:=ihc p x.2 s1 x1 q (by simpa [getAt] using h)
       refine ⟨by simpa [getAt] using this.1,by simpa [okAt] using this.2.1,fun w b o g o' hl => ?_⟩
       simp only [List.cons_append,loc] at hl ⊢
       exact this.2.2 w b _ g o' hl
     | idx i => simp [getAt] at h
     | der => simp [getAt] at h
 | sl ow t e ih =>
   intro x s1 x1 q h
   cases p with
   | nil => simp only [getAt,Option.some.injEq,TV.mk.injEq] at h; obtain ⟨rfl,h⟩:=h; obtain rfl:=eq_of_heq h; exact ⟨rfl,fun _ h => h,fun w b o g o' h => by simp only [loc,Option.some.injEq,Prod.mk.injEq] at h; obtain ⟨rfl,rfl⟩:=h; rfl⟩
   | cons c p =>
     cases c with
     | idx i =>
       have:=ih p (List.getD x i e.dflt) s1 x1 q (by simpa only [getAt] using h)
       refine ⟨by simpa only [getAt,List.cons_append] using this.1,?_,fun w b o g o' hl => ?_⟩
       ·cases ow
        ·simp [okAt]
        ·simp only [okAt,List.cons_append]
         exact fun h1 h2 => ⟨h1.1,this.2.1 h1.2 h2⟩
       ·simp only [List.cons_append,loc] at hl ⊢
        split at hl
        ·exact this.2.2 w _ _ g o' hl
        ·cases hl
     | fst => simp [getAt] at h
     | snd => simp [getAt] at h
     | der => simp [getAt] at h
 | pt ow t e ih =>
   intro x s1 x1 q h
   cases p with
   | nil => simp only [getAt,Option.some.injEq,TV.mk.injEq] at h; obtain ⟨rfl,h⟩:=h; obtain rfl:=eq_of_heq h; exact ⟨rfl,fun _ h => h,fun w b o g o' h => by simp only [loc,Option.some.injEq,Prod.mk.injEq] at h; obtain ⟨rfl,rfl⟩:=h; rfl⟩
   | cons c p =>
     cases c with
     | der =>
       have:=ih p (Option.getD x e.dflt) s1 x1 q (by simpa only [getAt] using h)
       refine ⟨by simpa only [getAt,List.cons_append] using this.1,?_,fun w b o g o' hl => ?_⟩
       ·cases ow
        ·simp [okAt]
        ·simp only [okAt,List.cons_append]
         exact fun h1 h2 => ⟨h1.1,this.2.1 h1.2 h2⟩
       ·simp only [List.cons_append,loc] at hl ⊢
        split at hl
        ·exact this.2.2 w _ _ g o' hl
        ·cases hl
     | fst => simp [getAt] at h
     | snd => simp [getAt] at h
     | idx i => simp [getAt] at h
theorem rootLoc_append {w:World} {s:Sh} {x:s.den} {v:Value} {p q:Path} {s1:Sh} {x1:s1.den} {g o:Nat} (hp:p≠[]) (hg:getAt s x p=some ⟨s1,x1⟩) (hl:rootLoc w s v p=some (g,o)) :
 rootLoc w s v (p ++ q)=loc w s1 g o q:=by
 cases p with
 | nil => exact absurd rfl hp
 | cons c p =>
   cases s with
   | sl ow t e =>
     cases c with
     | idx i =>
       cases v with
       | slice A n c =>
         cases A with
         | none => simp [rootLoc] at hl
         | some ad =>
           simp only [rootLoc,List.cons_append] at hl ⊢
           exact (path_append p e (List.getD x i e.dflt) s1 x1 q (by simpa only [getAt] using hg)).2.2 w _ _ g o hl
       | _ => simp [rootLoc] at hl
     | fst => simp [rootLoc] at hl
     | snd => simp [rootLoc] at hl
     | der => simp [rootLoc] at hl
   | pt ow t e =>
     cases c with
     | der =>
       cases v with
       | pointer A =>
         cases A with
         | none => simp [rootLoc] at hl
         | some ad =>
           simp only [rootLoc,List.cons_append] at hl ⊢
           exact (path_append p e (Option.getD x e.dflt) s1 x1 q (by simpa only [getAt] using hg)).2.2 w _ _ g o hl
       | _ => simp [rootLoc] at hl
     | fst => simp [rootLoc] at hl
     | snd => simp [rootLoc] at hl
     | idx i => simp [rootLoc] at hl
   | _ => simp [rootLoc] at hl
theorem loc_header {w:World} {s1:Sh} {v:Value} {g o:Nat} {q:Path} (hs:IsRoot s1) (hq:q≠[]) (hc:w.cell? ⟨g,o,none⟩=some v):loc w s1 g o q=rootLoc w s1 v q:=by
 cases q with
 | nil => exact absurd rfl hq
 | cons c q =>
   cases s1 with
   | sl ow t e =>
     cases c with
     | idx i => simp only [loc,hc]; cases v with
       | slice A n c => cases A <;> simp [rootLoc]
       | _ => simp [rootLoc]
     | fst => simp [loc,rootLoc]
     | snd => simp [loc,rootLoc]
     | der => simp [loc,rootLoc]
   | pt ow t e =>
     cases c with
     | der => simp only [loc,hc]; cases v with
       | pointer A => cases A <;> simp [rootLoc]
       | _ => simp [rootLoc]
     | fst => simp [loc,rootLoc]
     | snd => simp [loc,rootLoc]
     | idx i => simp [loc,rootLoc]
   | mp ow k mv => cases c <;> simp [loc,rootLoc]
   | _ => exact hs.elim
def fpath (n j:Nat):Path:=if n=1 then [.fst] else if j+1 < n then List.replicate j .snd ++ [.fst] else List.replicate j .snd
def fOff:(s:Sh)→s.den→Path→Option (TV × Nat)
 | s,x,[] => some (⟨s,x⟩,0)
 | .st f,x,p => fOff f x p
 | .pair a _,x,.fst :: p => fOff a x.1 p
 | .pair a b,x,.snd :: p => match fOff b x.2 p with
   | some (v,k) => some (v,a.size+k)
   | none => none
 | _,_,_ => none
theorem fOff_at:∀ (p:Path) (s:Sh) (x:s.den) (v:TV) (k:Nat),fOff s x p=some (v,k) →
 getAt s x p=some v∧okAt s x p∧∀ (w:World) (b o:Nat),loc w s b o p=some (b,o+k):=by
 intro p s
 induction s generalizing p with
 | int k | bool | str | unit | any | raw | gh _ | mp mo mk mv _ _ | fn ff fc _ =>
   intro x v k h
   cases p with
   | nil => simp only [fOff,Option.some.injEq,Prod.mk.injEq] at h; obtain ⟨rfl,rfl⟩:=h; exact ⟨rfl,trivial,fun _ _ _ => rfl⟩
   | cons c p => cases c <;> simp [fOff] at h
 | st f ih =>
   intro x v k h
   cases p with
   | nil => simp only [fOff,Option.some.injEq,Prod.mk.injEq] at h; obtain ⟨rfl,rfl⟩:=h; exact ⟨rfl,trivial,fun _ _ _ => rfl⟩
   | cons c p =>
     have:=ih (c :: p) x v k (by cases c <;> simpa [fOff] using h)
     rw [getAt_st_cons,okAt_st_cons]
     exact ⟨this.1,this.2.1,fun w b o => by rw [loc_st_cons]; exact this.2.2 w b o⟩
 | pair a c iha ihc =>
   intro x v k h
   cases p with
   | nil => simp only [fOff,Option.some.injEq,Prod.mk.injEq] at h; obtain ⟨rfl,rfl⟩:=h; exact ⟨rfl,trivial,fun _ _ _ => rfl⟩
   | cons d p =>
     cases d with
     | fst => simpa [getAt,okAt,loc] using iha p x.1 v k (by simpa [fOff] using h)
     | snd =>
       simp only [fOff] at h
       split at h
       ·rename_i v' k' h'
        simp only [Option.some.injEq,Prod.mk.injEq] at h
        obtain ⟨rfl,rfl⟩:=h
        have:=ihc p x.2 v' k' h'
        refine ⟨by simpa [getAt] using this.1,by simpa [okAt] using this.2.1,fun w b o => ?_⟩
        simp only [loc]
        rw [this.2.2,Nat.add_assoc]
       ·cases h
     | idx i => simp [fOff] at h
     | der => simp [fOff] at h
 | sl ow t e ih =>
   intro x v k h
   cases p with
   | nil => simp only [fOff,Option.some.injEq,Prod.mk.injEq] at h; obtain ⟨rfl,rfl⟩:=h; exact ⟨rfl,trivial,fun _ _ _ => rfl⟩
   | cons c p => cases c <;> simp [fOff] at h
 | pt ow t e ih =>
   intro x v k h
   cases p with
   | nil => simp only [fOff,Option.some.injEq,Prod.mk.injEq] at h; obtain ⟨rfl,rfl⟩:=h; exact ⟨rfl,trivial,fun _ _ _ => rfl⟩
   | cons c p => cases c <;> simp [fOff] at h
theorem fOff_cells {Z:Fp} {w:World}:∀ (p:Path) (s:Sh) (x:s.den) (v:TV) (k:Nat),fOff s x p=some (v,k)→∀ (cs:List Value) (f:Fp),CRep Z w s x cs f →
 ∃ c1 c c2 f',cs=c1 ++ c ++ c2∧c1.length=k∧CRep Z w v.sh v.x c f'∧∀ i,f' i→f i:=by
 intro p s
 induction s generalizing p with
 | int k | bool | str | unit | any | raw | gh _ | mp mo mk mv _ _ | fn ff fc _ =>
   intro x v k h cs f hc
   cases p with
   | nil => simp only [fOff,Option.some.injEq,Prod.mk.injEq] at h; obtain ⟨rfl,rfl⟩:=h; exact ⟨[],cs,[],f,by simp,rfl,hc,fun _ => id⟩
   | cons c p => cases c <;> simp [fOff] at h
 | st f ih =>
   intro x v k h cs f' hc
   cases p with
   | nil => simp only [fOff,Option.some.injEq,Prod.mk.injEq] at h; obtain ⟨rfl,rfl⟩:=h; exact ⟨[],cs,[],f',by simp,rfl,hc,fun _ => id⟩
   | cons c p => exact ih (c :: p) x v k (by cases c <;> simpa [fOff] using h) cs f' hc
 | pair a c iha ihc =>
   intro x v k h cs f hc
   cases p with
   | nil => simp only [fOff,Option.some.injEq,Prod.mk.injEq] at h; obtain ⟨rfl,rfl⟩:=h; exact ⟨[],cs,[],f,by simp,rfl,hc,fun _ => id⟩
   | cons d p =>
     obtain ⟨ca,cc,fa,fc,rfl,hf,hd,h1,h2⟩:=hc
     cases d with
     | fst =>
       obtain ⟨c1,c,c2,f',rfl,hl,hr,hs⟩:=iha p x.1 v k (by simpa [fOff] using h) ca fa h1
       exact ⟨c1,c,c2 ++ cc,f',by simp,hl,hr,fun i hi => (hf i).2 (.inl (hs i hi))⟩
     | snd =>
       simp only [fOff] at h
       split at h
       ·rename_i v' k' h'
        simp only [Option.some.injEq,Prod.mk.injEq] at h
        obtain ⟨rfl,rfl⟩:=h
        obtain ⟨c1,c,c2,f',rfl,hl,hr,hs⟩:=ihc p x.2 v' k' h' cc fc h2
        exact ⟨ca ++ c1,c,c2,f',by simp,by simp [CRep.length h1,hl],hr,fun i hi => (hf i).2 (.inr (hs i hi))⟩
       ·cases h
     | idx i => simp [fOff] at h
     | der => simp [fOff] at h
 | sl ow t e ih =>
   intro x v k h cs f hc
   cases p with
   | nil => simp only [fOff,Option.some.injEq,Prod.mk.injEq] at h; obtain ⟨rfl,rfl⟩:=h; exact ⟨[],cs,[],f,by simp,rfl,hc,fun _ => id⟩
   | cons c p => cases c <;> simp [fOff] at h
 | pt ow t e ih =>
   intro x v k h cs f hc
   cases p with
   | nil => simp only [fOff,Option.some.injEq,Prod.mk.injEq] at h; obtain ⟨rfl,rfl⟩:=h; exact ⟨[],cs,[],f,by simp,rfl,hc,fun _ => id⟩
   | cons c p => cases c <;> simp [fOff] at h
section
variable {P:Program} {T:Tbl} {Z:Fp} {F:Nat→Fp} {w0:World} {Wr Zi:Fp} {N:Fr} {S S':SS} {a:Act} {w:World} {o:Oper}
theorem home_is (h:RelX Z F w0 Wr Zi N S a w) {k:Nat} {s s1:Sh} {x:s.den} {x1:s1.den} {vh:Value} (hh:Home S a.tmps k s x vh) (hg:S.get k=some (.val s1 x1)):(⟨s,x⟩:TV)=⟨s1,x1⟩:=by
 have:=h.uniq k _ _ hh.get (SS.get_mem hg)
 injection this with e1 e2
 subst e1
 obtain rfl:=eq_of_heq e2
 rfl
theorem home_rep (h:RelX Z F w0 Wr Zi N S a w) {k:Nat} {s:Sh} {x:s.den} {vh:Value} (hh:Home S a.tmps k s x vh):VRep Z w s x vh (F k):=by
 obtain ⟨v,hv,hr⟩:=h.rep k _ hh.get
 rw [hh.tmp] at hv
 obtain rfl:vh=v:=by simpa using hv
 exact hr
theorem copy_sub (h:RelX Z F w0 Wr Zi N S a w) {k:Nat} {p:Path} {v:Value} {s s1:Sh} {x:s.den} {x1:s1.den} (hr:CopyRep S w a.tmps k p v) (hg:S.get k=some (.val s x)) (hroot:IsRoot s) (hat:getAt s x p=some ⟨s1,x1⟩) (hs1:IsRoot s1) :
 ∃ vh f',Home S a.tmps k s x vh∧okAt s x p∧CRep Z w s1 x1 [v] f' ∧ (∀ i,f' i→F k i)∧∀ q,q≠[]→rootLoc w s vh (p ++ q)=rootLoc w s1 v q:=by
 obtain ⟨s',x',vh,hh,hr⟩:=hr
 have he:=home_is h hh hg
 simp only [TV.mk.injEq] at he
 obtain ⟨rfl,he⟩:=he
 obtain rfl:=eq_of_heq he
 have hrep:=root_cells hroot (home_rep h hh)
 rcases hr with ⟨rfl,rfl⟩ | ⟨g,oo,s2,x2,cs,_,hp,hok,hat2,hl,hlen,hcells,hv⟩
 ·simp only [getAt,Option.some.injEq,TV.mk.injEq] at hat
  obtain ⟨rfl,hx⟩:=hat
  obtain rfl:=eq_of_heq hx
  exact ⟨v,F k,hh,by simp [okAt],hrep,fun _ => id,fun q hq => rfl⟩
 ·rw [hat] at hat2
  simp only [Option.some.injEq,TV.mk.injEq] at hat2
  obtain ⟨rfl,hx⟩:=hat2
  obtain rfl:=eq_of_heq hx
  obtain ⟨g',t',pre',cs',post',f',R⟩:=rfocus p s' x' vh (F k) ⟨s1,x1⟩ hrep hp (by cases s' <;> first | exact hroot.elim | trivial | exact absurd (mp_path hok) (by assumption)) hok hat
  have hgo:=R.at_
  rw [hl] at hgo
  simp only [Option.some.injEq,Prod.mk.injEq] at hgo
  obtain ⟨rfl,rfl⟩:=hgo
  have hcs:cs=[v]:=by cases s1 <;> first | exact hs1.elim | simpa [ValOf] using hv
  subst hcs
  have hcv:w.cell? ⟨g,pre'.length,none⟩=some v:=by simpa using hcells 0 v rfl
  have hl1:cs'.length=1:=by rw [CRep.length R.rep]; cases s1 <;> first | exact hs1.elim | rfl
  have hcs':cs'=[v]:=by
   have h0:=cells_mid R.heap 0 (by omega)
   rw [Nat.add_zero,hcv] at h0
   match cs',hl1,h0 with
   | [u],_,h0 => simp at h0; rw [h0]
  have hrr:=R.rep
  rw [hcs'] at hrr
  exact ⟨vh,f',hh,hok,hrr,R.sub,fun q hq => by rw [rootLoc_append hp hat hl,loc_header hs1 hq hcv]⟩
def placeOf (S:SS) (k:Nat) (p:Path):Option TV :=
 match S.get k with
 | some (.val s x) => if s.isRoot then getAt s x p else none
 | _ => none
theorem placeOf_some {k:Nat} {p:Path} {tv:TV} (h:placeOf S k p=some tv):∃ s x,S.get k=some (.val s x)∧IsRoot s∧getAt s x p=some tv:=by
 unfold placeOf at h
 split at h
 ·rename_i s x hg
  split at h
  ·exact ⟨s,x,hg,Sh.isRoot_iff ‹_›,h⟩
  ·cases h
 ·cases h
theorem run_field_at {st j:Nat} {i fi:TI} {fs:List (Nat × Nat)} {ft off:Nat} (hT:TOk P T) (hi:T.find st=some i) (hk:i.kd=.struct fs) (hj:fs[j]?=some (ft,off)) (hfi:T.find ft=some fi) (hz:fi.size≠0)
 (ad:Addr) (w:World):(Instr.fieldAt st (.pointer (some ad)) j).run P w=.ok (.pointer (some (ad.add off))) w:=by
 obtain ⟨ht,hty⟩:=hT.find hi
 obtain ⟨d,hd,hdk⟩:=hty.desc
 rw [ht] at hd
 rw [hk] at hdk
 obtain ⟨hft,hfty⟩:=hT.find hfi
 obtain ⟨info,hinfo,hsz,_⟩:=hfty.info
 rw [hft] at hinfo
 cases d with
 | struct fields =>
   simp only [kdOf,KD.struct.injEq] at hdk
   rw [← hdk] at hj
   simp only [List.getElem?_map,Array.getElem?_toList,Option.map_eq_some_iff,Prod.mk.injEq] at hj
   obtain ⟨f,hf,rfl,rfl⟩:=hj
   simp [Instr.fieldAt,Sem.run_bind,run_underlying hd,hf,Instr.sureAddr,fieldPlace,Go.sizeOf,typeInfo,hinfo,hsz,hz]
 | _ => simp [kdOf] at hdk
def fieldT (T:Tbl) (st j:Nat):Option (Nat × Nat) :=
 match T.find st with
 | some i => match i.kd with
   | .struct fs => match fs[j]? with
     | some (ft,off) => match T.find ft with
       | some fi => if fi.size=0 then none else some (fs.length,off)
       | none => none
     | none => none
   | _ => none
 | none => none
theorem fieldT_run (hT:TOk P T) {st j n off:Nat} (h:fieldT T st j=some (n,off)) (ad:Addr) (w:World):(Instr.fieldAt st (.pointer (some ad)) j).run P w=.ok (.pointer (some (ad.add off))) w:=by
 unfold fieldT at h
 split at h
 ·rename_i i hi
  split at h
  ·rename_i fs hk
   split at h
   ·rename_i ft off' hj
    split at h
    ·rename_i fi hfi
     split at h
     ·cases h
     ·rename_i hz
      cases h
      exact run_field_at hT hi hk hj hfi hz ad w
    ·cases h
   ·cases h
  ·cases h
 ·cases h
def fieldAddrV (T:Tbl) (S:SS) (st j:Nat):SV→Option (SV × List Prop)
 | .addr k p => match placeOf S k p,fieldT T st j with
   | some ⟨s1,x1⟩,some (n,off) => match fOff s1 x1 (fpath n j) with
     | some (_,off') => if off=off' then some (.addr k (p ++ fpath n j),[]) else none
     | none => none
   | _,_ => none
 | .copy k p => match placeOf S k p,fieldT T st j with
   | some ⟨.pt true t e,some x1⟩,some (n,off) => match fOff e x1 (fpath n j) with
     | some (_,off') => if off=off' then some (.addr k (p ++ .der :: fpath n j),[]) else none
     | none => none
   | _,_ => none
 | .val (.pt false t e) (some x1) => match fieldT T st j with
   | some (n,off) => match fOff e x1 (fpath n j) with
     | some (v,off') => if off=off' then some (.val (.pt false 0 v.sh) (some v.x),[]) else none
     | none => none
   | none => none
 | _ => none
theorem add_add (ad:Addr) (m n:Nat) (h:ad.spot=none):(ad.add m).add n=ad.add (m+n):=by
 cases ad with
 | mk b o s =>
   simp only at h
   subst h
   unfold Addr.add
   split <;> split <;> split <;> simp_all <;> omega
theorem fieldAddr_ok (hT:TOk P T) (h:RelX Z F w0 Wr Zi N S a w) {st j:Nat} {X:Operand} {sv r:SV} {c:List Prop} (ho:o.op=.fieldAddr st X j) (hx:opd T S st X=some sv)
 (hr:fieldAddrV T S st j sv=some (r,c)) (hc:AllP c) (hp:putS N S o.dst r=some S'):Runs P o a w (Rel w0 Wr Zi N S'):=by
 have hrep:=opd_rep h hx
 unfold fieldAddrV at hr
 split at hr
 ·rename_i k p
  split at hr
  ·rename_i s1 x1 n off hpl hfT
   split at hr
   ·rename_i v off' hfo
    split at hr
    ·rename_i he
     subst he
     cases hr
     obtain ⟨s,x,hg,hroot,hat⟩:=placeOf_some hpl
     obtain ⟨_,s',x',vh,g,oo,hh,_,hpn,hok,hl,hv⟩:=hrep
     have he:=home_is h hh hg
     simp only [TV.mk.injEq] at he
     obtain ⟨rfl,he⟩:=he
     obtain rfl:=eq_of_heq he
     obtain ⟨h1,h2,h3⟩:=fOff_at _ _ _ _ _ hfo
     have hpa:=path_append p s' x' s1 x1 (fpath n j) hat
     refine Runs.read h hp (v:=.pointer (some ⟨g,oo+off,none⟩)) ?_ ⟨fun _ => id,s',x',vh,g,oo+off,hh,hroot,by simp [hpn],hpa.2.1 hok h2,by rw [rootLoc_append hpn hat hl,h3],rfl⟩
     simp [execOp,ho,hv,fieldT_run hT hfT,Addr.add_mid]
    ·cases hr
   ·cases hr
  ·cases hr
 ·rename_i k p
  split at hr
  ·rename_i t e y n off hpl hfT
   split at hr
   ·rename_i v off' hfo
    split at hr
    ·rename_i he
     subst he
     cases hr
     obtain ⟨s,x,hg,hroot,hat⟩:=placeOf_some hpl
     obtain ⟨_,hcr⟩:=hrep
     obtain ⟨vh,f',hh,hok,hsub,hin,hloc⟩:=copy_sub h hcr hg hroot hat trivial
     ·obtain ⟨v',inner,fr,hvv,hre,g1,rfl,hg1,_,_⟩:=hsub
      have hv:a.eval X=.pointer (some ⟨g1,0,none⟩):=by simpa using hvv
      obtain ⟨h1,h2,h3⟩:=fOff_at _ _ _ _ _ hfo
      have hpa:=path_append p s x _ _ (.der :: fpath n j) hat
      refine Runs.read h hp (v:=.pointer (some ⟨g1,off,none⟩)) ?_ ⟨fun _ => id,s,x,vh,g1,off,hh,hroot,by simp,hpa.2.1 hok ⟨rfl,h2⟩,?_,rfl⟩
      ·simp [execOp,ho,hv,fieldT_run hT hfT,Addr.add_mid]
      ·rw [hloc _ (by simp),hv]
       simp only [rootLoc]
       rw [h3]; simp
    ·cases hr
   ·cases hr
  ·cases hr
 ·rename_i t e x1
  split at hr
  ·rename_i n off hfT
   split at hr
   ·rename_i v off' hfo
    split at hr
    ·rename_i he
     subst he
     cases hr
     obtain ⟨cs,hcr,hv⟩:=hrep
     obtain ⟨v',inner,fr,rfl,hre,h0,hfr,ad,rfl,hread⟩:=hcr
     have hv:a.eval X=.pointer (some ad):=by simpa [ValOf] using hv.symm
     obtain ⟨c1,c,c2,f',rfl,hl,hcv,hsub⟩:=fOff_cells _ _ _ _ _ hfo inner fr hre
     refine Runs.read h hp (v:=.pointer (some (ad.add off))) (by simp [execOp,ho,hv,fieldT_run hT hfT]) ?_
     refine ⟨_,⟨_,c,f',rfl,hcv,fun _ => id,fun i hi => hfr i (hsub i hi),ad.add off,rfl,fun jj u hu => ?_⟩,rfl⟩
     have hu':(c1 ++ c ++ c2)[off+jj]?=some u:=by
      have hjj:=(List.getElem?_eq_some_iff.1 hu).1
      rw [List.append_assoc,List.getElem?_append_right (by omega),hl,List.getElem?_append_left (by omega)]
      simpa using hu
     obtain ⟨hz,hcell⟩:=hread _ u hu'
     rw [add_block]
     refine ⟨hz,?_⟩
     rw [← hcell]
     unfold World.cell?
     rw [add_block,add_block,add_block]
     have:((ad.add off).add jj).off = (ad.add (off+jj)).off ∧ ((ad.add off).add jj).spot.isSome = (ad.add (off+jj)).spot.isSome:=by
      unfold Addr.add
      split <;> split <;> split <;> simp_all <;> omega
     rw [this.1,this.2]
    ·cases hr
   ·cases hr
  ·cases hr
 ·cases hr
def derefV (S:SS):SV→SV
 | .copy k p => match placeOf S k p with
   | some ⟨.pt true _ _,some _⟩ => .addr k (p ++ [.der])
   | _ => .copy k p
 | sv => sv
theorem derefV_rep (h:RelX Z F w0 Wr Zi N S a w) {sv:SV} {v:Value} (hrep:sv.rep Z S w a.tmps v (fun _ => False)):(derefV S sv).rep Z S w a.tmps v (fun _ => False):=by
 unfold derefV
 split
 ·rename_i k p
  split
  ·rename_i t e y hpl
   obtain ⟨s,x,hg,hroot,hat⟩:=placeOf_some hpl
   obtain ⟨_,hcr⟩:=hrep
   obtain ⟨vh,f',hh,hok,hsub,hin,hloc⟩:=copy_sub h hcr hg hroot hat trivial
   obtain ⟨v',inner,fr,hvv,hre,g1,rfl,hg1,_,_⟩:=hsub
   have hv:v=.pointer (some ⟨g1,0,none⟩):=by simpa using hvv
   have hpa:=path_append p s x _ _ [.der] hat
   refine ⟨fun _ => id,s,x,vh,g1,0,hh,hroot,by simp,hpa.2.1 hok ⟨rfl,by simp [okAt]⟩,?_,hv⟩
   rw [hloc _ (by simp),hv]
   simp [rootLoc,loc]
  ·exact hrep
 ·exact hrep
theorem copy_rep (h:RelX Z F w0 Wr Zi N S a w) {k:Nat} {p:Path} {v:Value} {s1:Sh} {x1:s1.den} (hr:CopyRep S w a.tmps k p v) (hpl:placeOf S k p=some ⟨s1,x1⟩):∃ f',VRep Z w s1 x1 v f'∧∀ i,f' i→F k i:=by
 obtain ⟨s,x,hg,hroot,hat⟩:=placeOf_some hpl
 obtain ⟨s',x',vh,hh,hr⟩:=hr
 have he:=home_is h hh hg
 simp only [TV.mk.injEq] at he
 obtain ⟨rfl,he⟩:=he
 obtain rfl:=eq_of_heq he
 rcases hr with ⟨rfl,rfl⟩ | ⟨g,o,s2,x2,cs,_,hpn,hok,hat',hl,hlen,hcells,hvo⟩
 ·simp only [getAt,Option.some.injEq,TV.mk.injEq] at hat
  obtain ⟨rfl,hat⟩:=hat
  obtain rfl:=eq_of_heq hat
  exact ⟨F k,home_rep h hh,fun i hi => hi⟩
 ·rw [hat] at hat'
  simp only [Option.some.injEq,TV.mk.injEq] at hat'
  obtain ⟨rfl,hat'⟩:=hat'
  obtain rfl:=eq_of_heq hat'
  obtain ⟨g',t',pre',cs',post',f',R⟩:=rfocus p s' x' vh (F k) ⟨s1,x1⟩ (root_cells hroot (home_rep h hh)) hpn (by cases s' <;> first | exact hroot.elim | trivial | exact absurd (mp_path hok) (by assumption)) hok hat
  have hgo:=R.at_
  rw [hl] at hgo
  simp only [Option.some.injEq,Prod.mk.injEq] at hgo
  obtain ⟨rfl,rfl⟩:=hgo
  have hl1:=CRep.length R.rep
  have hcs:cs=cs':=by
   apply List.ext_getElem?
   intro j
   by_cases hj:j < cs.length
   ·have hj':j < cs'.length:=by simp only at hl1 hlen; omega
    have h1:=hcells j cs[j] (by simp [hj])
    rw [cells_mid R.heap j hj'] at h1
    rw [List.getElem?_eq_getElem hj,h1]
   ·have hj':¬ j < cs'.length:=by simp only at hl1 hlen; omega
    rw [List.getElem?_eq_none (by omega),List.getElem?_eq_none (by omega)]
  subst hcs
  exact ⟨f',⟨cs,R.rep,hvo⟩,R.sub⟩
end
end Go.Vm
