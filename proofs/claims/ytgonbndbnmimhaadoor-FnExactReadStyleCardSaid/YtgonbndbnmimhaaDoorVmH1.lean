/- A part taken out of a whole: the place stays, what it held is gone. -/
import Derived.Test.YtgonbndbnmimhaaDoorVmZm
set_option linter.unusedVariables false
set_option linter.unusedSimpArgs false
namespace Go.Vm
open Go
def Sh.hole:Sh→Sh
 | .pair a b => .pair a.hole b.hole
 | .st f => .st f.hole
 | .sl _ _ _ => .any
 | .pt _ _ _ => .any
 | .mp _ _ _ => .any
 | .gh _ => .any
 | s => s
def Sh.holeX:(s:Sh)→s.den→s.hole.den
 | .pair a b,x => (a.holeX x.1,b.holeX x.2)
 | .st f,x => f.holeX x
 | .sl _ _ _,_ => ()
 | .pt _ _ _,_ => ()
 | .mp _ _ _,_ => ()
 | .int _,x => x
 | .bool,x => x
 | .str,x => x
 | .unit,x => x
 | .any,x => x
 | .raw,x => x
 | .gh _,_ => ()
 | .fn _ _,x => x
def Sh.noFn:Sh→Bool
 | .pair a b => a.noFn && b.noFn
 | .st f => f.noFn
 | .fn _ _ => false
 | _ => true
theorem one_any {Z:Fp} {w:World} {s:Sh} {x:s.den} {cs:List Value} {f:Fp} (h:CRep Z w s x cs f) (hs:s.size=1):CRep Z w .any () cs (fun _ => False):=by
 have hl:=CRep.length h
 rw [hs] at hl
 match cs,hl,CRep.one h with
 | [v],_,h1 => exact ⟨⟨v,rfl,h1 v (by simp)⟩,fun _ => id⟩
theorem hole_rep {Z:Fp} {w:World}:∀ {s:Sh} {x:s.den} {cs:List Value} {f:Fp},s.noFn=true→CRep Z w s x cs f→CRep Z w s.hole (s.holeX x) cs (fun _ => False)
 | .int k,x,cs,f,_,h => ⟨h.1,fun _ => id⟩
 | .bool,x,cs,f,_,h => ⟨h.1,fun _ => id⟩
 | .str,x,cs,f,_,h => ⟨h.1,fun _ => id⟩
 | .unit,x,cs,f,_,h => ⟨h.1,fun _ => id⟩
 | .any,x,cs,f,_,h => ⟨h.1,fun _ => id⟩
 | .raw,x,cs,f,_,h => ⟨h.1,fun _ => id⟩
 | .gh o,x,cs,f,hn,h => one_any h rfl
 | .pair a b,x,cs,f,hn,h => by
   simp only [Sh.noFn,Bool.and_eq_true] at hn
   obtain ⟨c1,c2,f1,f2,rfl,he,hd,h1,h2⟩:=h
   exact ⟨c1,c2,fun _ => False,fun _ => False,rfl,fun i => ⟨.inl,fun h => h.elim id id⟩,fun i h => h.elim,hole_rep hn.1 h1,hole_rep hn.2 h2⟩
 | .st s,x,cs,f,hn,h => hole_rep (s:=s) hn h
 | .sl o t e,x,cs,f,hn,h => one_any h rfl
 | .pt o t e,x,cs,f,hn,h => one_any h rfl
 | .mp o k v,x,cs,f,hn,h => one_any h rfl
theorem locN (w:World) (s:Sh) (b o:Nat):loc w s b o []=some (b,o):=by cases s <;> rfl
theorem loc_upd:∀ (p:Path) (s:Sh) (x:s.den) (q:Path) (v r:TV) (w:World) (b o:Nat),upd s x (p ++ q) v=some r→loc w r.sh b o p=loc w s b o p:=by
 intro p s
 induction s generalizing p with
 | int k | bool | str | unit | any | raw | gh _ | mp mo mk mv _ _ | fn ff fc _ =>
   intro x q v r w b o hu
   cases p with
   | nil => rw [locN,locN]
   | cons c p => cases c <;> simp [upd] at hu
 | st f ih =>
   intro x q v r w b o hu
   cases p with
   | nil => rw [locN,locN]
   | cons c p =>
     rw [List.cons_append] at hu
     have hu':(match upd f x (c :: (p ++ q)) v with | some r => some (⟨.st r.sh,r.x⟩:TV) | none => none)=some r:=by cases c <;> exact hu
     split at hu'
     ·rename_i r' hr
      cases hu'
      have:=ih (c :: p) x q v r' w b o hr
      cases c <;> exact this
     ·cases hu'
 | pair a c iha ihb =>
   intro x q v r w b o hu
   cases p with
   | nil => rw [locN,locN]
   | cons d p =>
     cases d with
     | fst =>
       simp only [List.cons_append,upd] at hu
       split at hu
       ·rename_i r' hr
        cases hu
        exact iha p x.1 q v r' w b o hr
       ·cases hu
     | snd =>
       simp only [List.cons_append,upd] at hu
       split at hu
       ·rename_i r' hr
        cases hu
        exact ihb p x.2 q v r' w b _ hr
       ·cases hu
     | idx i => simp [upd] at hu
     | der => simp [upd] at hu
 | sl o t e ih =>
   intro x q v r w b oo hu
   cases p with
   | nil => rw [locN,locN]
   | cons d p =>
     cases d with
     | idx i =>
       simp only [List.cons_append,upd] at hu
       split at hu
       ·rename_i r' hr
        split at hu
        ·cases hu; rfl
        ·cases hu
       ·cases hu
     | fst => simp [upd] at hu
     | snd => simp [upd] at hu
     | der => simp [upd] at hu
 | pt o t e ih =>
   intro x q v r w b oo hu
   cases p with
   | nil => rw [locN,locN]
   | cons d p =>
     cases d with
     | der =>
       simp only [List.cons_append,upd] at hu
       split at hu
       ·rename_i r' hr
        cases hu
        simp only [loc]
        split
        ·exact ih p _ q v r' w _ _ hr
        ·rfl
       ·cases hu
     | fst => simp [upd] at hu
     | snd => simp [upd] at hu
     | idx i => simp [upd] at hu
theorem rootLoc_upd {s:Sh} {x:s.den} {p q:Path} {v r:TV} {w:World} {vh:Value} (hu:upd s x (p ++ q) v=some r) (hp:p≠[]):rootLoc w r.sh vh p=rootLoc w s vh p:=by
 cases p with
 | nil => exact absurd rfl hp
 | cons c p =>
   cases s with
   | sl o t e =>
     cases c with
     | idx i =>
       simp only [List.cons_append,upd] at hu
       split at hu
       ·rename_i r' hr
        split at hu
        ·cases hu; rfl
        ·cases hu
       ·cases hu
     | fst => simp [upd] at hu
     | snd => simp [upd] at hu
     | der => simp [upd] at hu
   | pt o t e =>
     cases c with
     | der =>
       simp only [List.cons_append,upd] at hu
       split at hu
       ·rename_i r' hr
        cases hu
        unfold rootLoc
        cases vh with
        | pointer A => cases A with
          | some ad => exact loc_upd p _ _ q v r' w _ _ hr
          | none => rfl
        | _ => rfl
       ·cases hu
     | fst => simp [upd] at hu
     | snd => simp [upd] at hu
     | idx i => simp [upd] at hu
   | st f =>
     have hu':(match upd f x (c :: (p ++ q)) v with | some r => some (⟨.st r.sh,r.x⟩:TV) | none => none)=some r:=by cases c <;> exact hu
     split at hu'
     ·cases hu'; unfold rootLoc; rfl
     ·cases hu'
   | pair a b =>
     cases c <;> simp only [List.cons_append,upd] at hu
     ·split at hu
      ·cases hu; rfl
      ·cases hu
     ·split at hu
      ·cases hu; rfl
      ·cases hu
     ·cases hu
     ·cases hu
   | _ => cases c <;> simp [upd] at hu
def keepA (k:Nat) (p:Path):List (Nat × SV)→SS→SS
 | [],acc => acc
 | (q,.addr k' p0) :: r,acc => keepA k p r (if Nat.beq k' k && !(Nat.beq q k) && prefE p0 p then acc.put q (.addr k p0) else acc)
 | _ :: r,acc => keepA k p r acc
def holeS (S:SS) (k:Nat) (p:Path):Option SS:=match S.get k with
 | some (.val s x) => match getAt s x p with
   | some tv => match upd s x p ⟨tv.sh.hole,tv.sh.holeX tv.x⟩ with
     | some r => if tv.sh.noFn then some (keepA k p S (S.put k (.val r.sh r.x))) else none
     | none => none
   | none => none
 | _ => none
section
variable {P:Program} {T:Tbl} {Z:Fp} {F:Nat→Fp} {w0:World} {Wr Zi:Fp} {N:Fr} {S S' S1:SS} {a:Act} {w:World} {o:Oper}
theorem keepA_ok (h1:RelX Z F w0 Wr Zi N S a w) {k:Nat} {p:Path} {s:Sh} {x:s.den} {v r:TV} {vh:Value} (hg:S.get k=some (.val s x)) (hroot:IsRoot s) (hrr:IsRoot r.sh) (hok:okAt s x p) (hu:upd s x p v=some r) (hvh:a.tmps[k]?=some vh) (C:Fp) :
 ∀ (l:List (Nat × SV)) (acc:SS) (F':Nat→Fp),(∀ e ∈ l,e ∈ S) → (k,SV.val r.sh r.x) ∈ acc→RelX Z F' w0 Wr Zi N acc a w → (∀ i,C i→∀ t,¬ F' t i)→∃ F2,RelX Z F2 w0 Wr Zi N (keepA k p l acc) a w∧∀ i,C i→∀ t,¬ F2 t i
 | [],acc,F',_,_,h,hC => ⟨F',h,hC⟩
 | (q,.addr k' p0) :: l,acc,F',hm,hk,h,hC => by
   simp only [keepA]
   have hr:∀ e ∈ l,e ∈ S:=fun e he => hm e (List.mem_cons_of_mem _ he)
   split
   ·rename_i hc
    simp only [Bool.and_eq_true,Bool.not_eq_true'] at hc
    obtain ⟨⟨c1,c2⟩,c3⟩:=hc
    obtain rfl:k'=k:=Nat.eq_of_beq_eq_true c1
    have hqk:q≠k':=fun e => by rw [e] at c2; simp at c2
    obtain ⟨rr,rfl⟩:=prefE_ok c3
    obtain ⟨v0,hv0,_,s2,x2,vh2,g,oo,hh,_,hp0,hok0,hl0,hv⟩:=h1.rep q _ (hm _ List.mem_cons_self)
    have heq:=home_is h1 hh hg
    simp only [TV.mk.injEq] at heq
    obtain ⟨rfl,heq⟩:=heq
    obtain rfl:=eq_of_heq heq
    have hvv:vh2=vh:=by have:=hh.tmp; rw [hvh] at this; simpa using this.symm
    subst hvv
    have hlt:q < a.tmps.size:=(Array.getElem?_eq_some_iff.1 hv0).1
    have hrep:(SV.addr k' p0).rep Z acc w a.tmps v0 (fun _ => False):=⟨fun _ => id,r.sh,r.x,vh2,g,oo,⟨hk,hvh⟩,hrr,hp0,upd_okAt p0 s2 x2 rr v r hok hu,by rw [rootLoc_upd hu hp0]; exact hl0,hv⟩
    have h3:=h.putR (d:=q) (sv:=.addr k' p0) (v:=v0) hlt (fun _ => hv0) hrep (by simp only [SV.refs]; simpa using Ne.symm hqk) rfl
    rw [put_idem hv0] at h3
    exact keepA_ok h1 hg hroot hrr hok hu hvh C l _ _ hr (SS.mem_put.2 (.inr ⟨hk,fun e => hqk e.symm,rfl,rfl⟩)) h3 (fun i hi t ht => by
     by_cases e:t=q
     ·simp [e] at ht
     ·simp only [e,if_false] at ht; exact hC i hi t ht)
   ·exact keepA_ok h1 hg hroot hrr hok hu hvh C l acc F' hr hk h hC
 | (q,.val _ _) :: l,acc,F',hm,hk,h,hC | (q,.copy _ _) :: l,acc,F',hm,hk,h,hC | (q,.clo _ _) :: l,acc,F',hm,hk,h,hC | (q,.tup _) :: l,acc,F',hm,hk,h,hC | (q,.cond _ _ _) :: l,acc,F',hm,hk,h,hC | (q,.grown _ _ _) :: l,acc,F',hm,hk,h,hC => by
   simp only [keepA]
   exact keepA_ok h1 hg hroot hrr hok hu hvh C l acc F' (fun e he => hm e (List.mem_cons_of_mem _ he)) hk h hC
theorem hole_ok (h:RelX Z F w0 Wr Zi N S a w) {k:Nat} {p:Path} {v:Value} {tv:TV} (hc:CopyRep S w a.tmps k p v) (hp:p≠[]) (hpl:placeOf S k p=some tv) (hs:holeS S k p=some S1) :
 ∃ F1 f,VRep Z w tv.sh tv.x v f∧RelX Z F1 w0 Wr Zi N S1 a w∧Held Z F1 w0 Wr w f:=by
 obtain ⟨s,x,hg,hroot,hat⟩:=placeOf_some hpl
 obtain ⟨s2,x2,vh,hh,hor⟩:=hc
 have heq:=home_is h hh hg
 simp only [TV.mk.injEq] at heq
 obtain ⟨rfl,heq⟩:=heq
 obtain rfl:=eq_of_heq heq
 rcases hor with ⟨e,_⟩ | ⟨g,oo,s3,x3,cs,_,_,hok,hat2,hl,hlen,hcells,hvo⟩
 ·exact absurd e hp
 rw [hat] at hat2
 simp only [Option.some.injEq] at hat2
 subst hat2
 unfold holeS at hs
 rw [hg] at hs
 simp only [hat] at hs
 split at hs
 ·rename_i r hu
  split at hs
  ·rename_i hn
   cases hs
   have hcr:=root_cells hroot (home_rep h hh)
   obtain ⟨g',t',pre',cs',post',f',R⟩:=rfocus p s2 x2 vh (F k) ⟨s3,x3⟩ hcr hp (by cases s2 <;> first | exact hroot.elim | trivial | exact absurd (mp_path hok) (by assumption)) hok hat
   have hgo:=R.at_
   rw [hl] at hgo
   simp only [Option.some.injEq,Prod.mk.injEq] at hgo
   obtain ⟨rfl,rfl⟩:=hgo
   have hcs:cs'=cs:=by
    have hl2:cs'.length=cs.length:=by rw [CRep.length R.rep,hlen]
    apply List.ext_getElem?
    intro j
    by_cases hj:j < cs.length
    ·have h1:=cells_mid R.heap j (by omega)
     obtain ⟨u,hu⟩:∃ u,cs[j]?=some u:=⟨_,List.getElem?_eq_getElem hj⟩
     have h2:=hcells j u hu
     rw [h1] at h2
     rw [hu,← h2]
    ·rw [List.getElem?_eq_none (by omega),List.getElem?_eq_none (by omega)]
   subst hcs
   obtain ⟨f3,c1,c2⟩:=R.put Z w ⟨s3.hole,s3.holeX x3⟩ cs' (fun _ => False) r hu (hole_rep hn R.rep) rfl (fun _ => id) (fun _ _ => rfl) (fun _ _ _ _ => rfl) R.heap (fun i hi => hi.elim) id
   have hrr:IsRoot r.sh:=upd_root hroot hp hu
   have h2:=h.turnG (k:=k) (s:=r.sh) (x:=r.x) (v:=vh) (f:=f3) (U:=F k) (Zn:=fun _ => False) hh.tmp (Grow.refl _ _) (fun i hi => ⟨h.nz k i hi,fun t ht hF => ht (h.apart t k i hF hi),h.wr k i hi⟩) (fun i hi => hi.elim)
    (fun i hi => by
     rcases (c2 i).1 hi with ⟨h1,_⟩ | h1
     ·exact ⟨h.lt k i h1,.inl h1,id⟩
     ·exact h1.elim) ⟨[vh],CRep.same (fun i hi => .inl hi) (fun _ _ => rfl) (fun _ _ => rfl) c1,root_val hrr vh⟩
   have hZ:(fun i => Z i∨False)=Z:=funext fun i => propext ⟨fun h => h.elim id False.elim,.inl⟩
   rw [hZ] at h2
   obtain ⟨F2,h3,hC⟩:=keepA_ok h hg hroot hrr hok hu hh.tmp f' S _ _ (fun _ => id) (SS.mem_put.2 (.inl rfl)) h2 (fun i hi t ht => by
    by_cases e:t=k
    ·simp only [e,if_true] at ht
     rcases (c2 i).1 ht with ⟨_,h1⟩ | h1
     ·exact h1 hi
     ·exact h1
    ·simp only [e,if_false] at ht
     exact e (h.apart t k i ht (R.sub i hi)))
   exact ⟨F2,f',⟨cs',R.rep,hvo⟩,h3,fun i hi => ⟨h.lt k i (R.sub i hi),h.nz k i (R.sub i hi),hC i hi,h.wr k i (R.sub i hi)⟩⟩
  ·cases hs
 ·cases hs
end
end Go.Vm
