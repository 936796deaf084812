/- Guarded operations; regions; control. -/
import Derived.Test.YtgonbndbnmimhaaDoorVmP
set_option linter.unusedVariables false
set_option linter.unusedSimpArgs false
namespace Go.Vm
open Go
abbrev Chain:=List (Nat × Bool)
def SV.strip1 (ch:Chain):SV→SV
 | .cond g b v => if ch.any (fun e => e.1 == g && e.2 == b) then v else .cond g b v
 | v => v
def SS.strip (ch:Chain) (S:SS):SS:=S.map fun e => (e.1,e.2.strip1 ch)
def SV.isCond:SV→Bool
 | .cond _ _ _ => true
 | _ => false
def SV.flat:SV→Bool
 | .cond _ _ v => !v.isCond
 | _ => true
def refsIn (S:SS):SV→Bool
 | .copy k _ => match S.get k with | some (.val _ _) => true | _ => false
 | .addr k _ => match S.get k with | some (.val _ _) => true | _ => false
 | .grown k _ _ => match S.get k with | some (.val _ _) => true | _ => false
 | .clo _ caps => caps.all fun c => match S.get c.1 with | some (.val _ _) => true | _ => false
 | .val _ _ => true
 | .tup _ => true
 | .cond _ _ _ => false
def gprop (S:SS):Nat→Nat→Bool→Option (Prop × Chain)
 | 0,_,_ => none
 | n+1,g,b => match S.get g with
   | some (.val .bool c) => some ((c:Bool)=b,[(g,b)])
   | some (.cond g2 b2 (.val .bool c)) => match gprop S n g2 b2 with
     | some (p,ch) => some (p ∧ (c:Bool)=b,(g,b) :: ch)
     | none => none
   | _ => none
section
variable {P:Program} {T:Tbl} {Z Z0:Fp} {F F0:Nat→Fp} {w0:World} {Wr Zi:Fp} {N:Fr} {S S' S1:SS} {a a':Act} {w w':World} {o:Oper} {c:Prop}
theorem gprop_ok (h:RelX Z F w0 Wr Zi N S a w):∀ {n g:Nat} {b:Bool} {p:Prop} {ch:Chain},gprop S n g b=some (p,ch) →
 (p↔a.tmps[g]?=some (.bool b)) ∧ (p→∀ e ∈ ch,a.tmps[e.1]?=some (.bool e.2)) ∧ (g,b) ∈ ch
 | 0,g,b,p,ch,hp => by simp [gprop] at hp
 | n+1,g,b,p,ch,hp => by
   simp only [gprop] at hp
   split at hp
   ·rename_i cb hg
    cases hp
    obtain ⟨v,hv,hr⟩:=h.rep g _ (SS.get_mem hg)
    have hvb:v=.bool cb:=scal_eval (Z:=Z) (w:=w) (tv:=⟨.bool,cb⟩) rfl hr
    subst hvb
    refine ⟨⟨fun e => by rw [hv,e],fun e => by rw [hv] at e; simpa using e⟩,fun e x hx => ?_,by simp⟩
    simp only [List.mem_singleton] at hx
    subst hx
    rw [hv,e]
   ·rename_i g2 b2 cb hg
    split at hp
    ·rename_i p2 ch2 h2
     cases hp
     obtain ⟨i1,i2,i3⟩:=gprop_ok h h2
     obtain ⟨v,hv,hr1,hr2⟩:=h.rep g _ (SS.get_mem hg)
     have key:p2→a.tmps[g]?=some (.bool cb):=fun hp2 => by
      have:=hr1 (i1.1 hp2)
      have hvb:v=.bool cb:=scal_eval (Z:=Z) (w:=w) (tv:=⟨.bool,cb⟩) rfl this
      rw [hv,hvb]
     refine ⟨⟨fun e => by rw [key e.1,e.2],fun e => ?_⟩,fun e x hx => ?_,by simp⟩
     ·by_cases hp2:p2
      ·rw [key hp2] at e
       exact ⟨hp2,by simpa using e⟩
      ·have:=hr2 (fun e2 => hp2 (i1.2 e2))
       rw [hv,this] at e
       simp [undef] at e
     ·rcases List.mem_cons.1 hx with rfl | hx
      ·rw [key e.1,e.2]
      ·exact i2 e.1 x hx
    ·cases hp
   ·cases hp
theorem refs_home {v:SV} {val:Value} {f:Fp} {tmps:Array Value} (hn:v.isCond=false) (hr:v.rep Z S w tmps val f) {k:Nat} (hk:v.refs k=true):∃ s x,(k,SV.val s x) ∈ S:=by
 cases v with
 | val s x => simp [SV.refs] at hk
 | copy h p =>
   obtain ⟨_,s,x,vh,hh,_⟩:=hr
   have:h=k:=by simpa [SV.refs] using hk
   subst this
   exact ⟨s,x,hh.get⟩
 | addr h p =>
   obtain ⟨_,s,x,vh,g,oo,hh,_⟩:=hr
   have:h=k:=by simpa [SV.refs] using hk
   subst this
   exact ⟨s,x,hh.get⟩
 | clo fn caps =>
   obtain ⟨_,vs,_,hl,hr⟩:=hr
   simp only [SV.refs,List.any_eq_true,beq_iff_eq] at hk
   obtain ⟨c,hc,rfl⟩:=hk
   obtain ⟨j,hj,hcj⟩:=List.getElem_of_mem hc
   have hjv:j < vs.length:=by omega
   rcases hr j vs[j] c (List.getElem?_eq_getElem hjv) (by rw [List.getElem?_eq_getElem hj,hcj]) with ⟨s,x,vh,g,oo,hh,_⟩ | ⟨s,x,vh,hh,_⟩
   ·exact ⟨s,x,hh.get⟩
   ·exact ⟨s,x,hh.get⟩
 | tup ts => simp [SV.refs] at hk
 | grown h p tv =>
   obtain ⟨s,x,vh,g,o,vold,t,e,xs,f2,hh,_⟩:=hr
   have:h=k:=by simpa [SV.refs] using hk
   subst this
   exact ⟨s,x,hh.get⟩
 | cond g b v => simp [SV.isCond] at hn
theorem mem_strip {ch:Chain} {e:Nat × SV}:e ∈ SS.strip ch S↔∃ v,(e.1,v) ∈ S∧e.2=v.strip1 ch:=by
 unfold SS.strip
 simp only [List.mem_map]
 constructor
 ·rintro ⟨x,hx,rfl⟩; exact ⟨x.2,hx,rfl⟩
 ·rintro ⟨v,hv,he⟩; exact ⟨(e.1,v),hv,by rw [← he]⟩
theorem strip1_val {ch:Chain} {s:Sh} {x:s.den}:(SV.val s x).strip1 ch=.val s x:=rfl
theorem RelX.strip (h:RelX Z F w0 Wr Zi N S a w) {ch:Chain} (hch:∀ e ∈ ch,a.tmps[e.1]?=some (.bool e.2)) (hfl:(S.all fun e => e.2.flat)=true):RelX Z F w0 Wr Zi N (S.strip ch) a w where
 tsize:=h.tsize
 pins:=h.pins
 uniq k v1 v2 h1 h2:=by
  obtain ⟨u1,m1,e1⟩:=mem_strip.1 h1
  obtain ⟨u2,m2,e2⟩:=mem_strip.1 h2
  simp only at m1 m2 e1 e2
  rw [e1,e2,h.uniq k u1 u2 m1 m2]
 zlt:=h.zlt
 zin:=h.zin
 wr:=h.wr
 nz:=h.nz
 lt:=h.lt
 apart:=h.apart
 grow:=h.grow
 defers:=h.defers
 rep k sv hm:=by
  obtain ⟨v,hv,he⟩:=mem_strip.1 hm
  simp only at hv he
  obtain ⟨val,hval,hr⟩:=h.rep k v hv
  refine ⟨val,hval,?_⟩
  have homes:∀ (u:SV),u.rep Z S w a.tmps val (F k)→u.rep Z (S.strip ch) w a.tmps val (F k):=by
   intro u hu
   refine SV.rep_turn (Z:=Z) (fun i => id) (fun i hi => rfl) (fun i hi => rfl) ?_ (fun g hg => rfl) hu
   intro q hq s1 x1 vh hh
   refine ⟨⟨mem_strip.2 ⟨_,hh.get,rfl⟩,hh.tmp⟩,fun hs => ?_⟩
   obtain ⟨v1,hv1,hr1⟩:=h.rep q _ hh.get
   rw [hh.tmp] at hv1
   obtain rfl:vh=v1:=by simpa using hv1
   exact ⟨F q,root_cells hs hr1,fun i hi => rfl⟩
  rw [he]
  cases v with
  | cond g b u =>
    simp only [SV.strip1]
    split
    ·rename_i hany
     simp only [List.any_eq_true,Bool.and_eq_true,beq_iff_eq] at hany
     obtain ⟨e,he,h1,h2⟩:=hany
     have:=hch e he
     rw [h1,h2] at this
     exact homes u (hr.1 this)
    ·exact homes _ hr
  | _ => exact homes _ hr
theorem strip1_refs {ch:Chain} {v:SV} {d:Nat} (h:v.refs d=false):(v.strip1 ch).refs d=false:=by
 cases v with
 | cond g b u =>
   simp only [SV.strip1]
   split
   ·exact h
   ·exact h
 | _ => exact h
theorem strip1_tests {ch:Chain} {v:SV} {d:Nat} (h:v.tests d=false):(v.strip1 ch).tests d=false:=by
 cases v with
 | cond g b u =>
   simp only [SV.strip1]
   split
   ·simp only [SV.tests,Bool.or_eq_false_iff] at h; exact h.2
   ·exact h
 | _ => exact h
theorem RelX.merge (h0:RelX Z0 F0 w0 Wr Zi N S a w) {ch:Chain} (hch:∀ e ∈ ch,a.tmps[e.1]?=some (.bool e.2)) (hfl:(S.all fun e => e.2.flat)=true) {d g:Nat} {b:Bool} {sv:SV}
 (h1:RelX Z F w0 Wr Zi N ((S.strip ch).put d sv) a' w') (htm:∀ k,k≠d→a'.tmps[k]?=a.tmps[k]?) (hd:∀ e ∈ ch,e.1≠d) (hgb:(g,b) ∈ ch) (hrefs:refsIn S sv=true) (hr:sv.refs d=false) (ht:sv.tests d=false) :
 RelX Z F w0 Wr Zi N (S.put d (.cond g b sv)) a' w' where
 tsize:=h1.tsize
 pins:=h1.pins
 uniq:=uniq_put h0.uniq
 zlt:=h1.zlt
 zin:=h1.zin
 wr:=h1.wr
 nz:=h1.nz
 lt:=h1.lt
 apart:=h1.apart
 grow:=h1.grow
 defers:=h1.defers
 rep k v hm:=by
  have hhome:∀ q s1 x1 vh,(∃ s x,(q,SV.val s x) ∈ S)→q≠d→Home ((S.strip ch).put d sv) a'.tmps q s1 x1 vh→Home (S.put d (.cond g b sv)) a'.tmps q s1 x1 vh ∧ (IsRoot s1→∃ f,CRep Z w' s1 x1 [vh] f∧∀ i,f i→w'.heap[i]?=w'.heap[i]?):=by
   rintro q s1 x1 vh ⟨s2,x2,hm2⟩ hqd hh
   rcases SS.mem_put.1 hh.get with e | ⟨hms,_,_,_⟩
   ·simp only [Prod.mk.injEq] at e; exact absurd e.1 hqd
   ·obtain ⟨u,hu,he⟩:=mem_strip.1 hms
    simp only at hu he
    have:=h0.uniq q _ _ hu hm2
    subst this
    rw [strip1_val] at he
    refine ⟨⟨SS.mem_put.2 (.inr ⟨by rw [he]; exact hm2,hqd,rfl,rfl⟩),hh.tmp⟩,fun hs => ?_⟩
    obtain ⟨v1,hv1,hr1⟩:=h1.rep q _ hh.get
    rw [hh.tmp] at hv1
    obtain rfl:vh=v1:=by simpa using hv1
    exact ⟨F q,root_cells hs hr1,fun i hi => rfl⟩
  rcases SS.mem_put.1 hm with he | ⟨hm,hne,hvr,hvt⟩
  ·simp only [Prod.mk.injEq] at he
   obtain ⟨rfl,rfl⟩:=he
   obtain ⟨val,hval,hrep⟩:=h1.rep k sv (SS.mem_put.2 (.inl rfl))
   have hgt:a'.tmps[g]?=some (.bool b):=by rw [htm g (hd _ hgb)]; exact hch _ hgb
   refine ⟨val,hval,fun _ => ?_,fun hn => absurd hgt hn⟩
   refine SV.rep_turn (Z:=Z) (fun i => id) (fun i hi => rfl) (fun i hi => rfl) ?_ (fun g hg => rfl) hrep
   intro q hq s1 x1 vh hh
   have hqd:q≠k:=fun e => by rw [e,hr] at hq; cases hq
   refine hhome q s1 x1 vh ?_ hqd hh
   cases sv with
   | copy h p =>
     have:h=q:=by simpa [SV.refs] using hq
     subst this
     simp only [refsIn] at hrefs
     split at hrefs
     ·rename_i hgg; exact ⟨_,_,SS.get_mem hgg⟩
     ·cases hrefs
   | addr h p =>
     have:h=q:=by simpa [SV.refs] using hq
     subst this
     simp only [refsIn] at hrefs
     split at hrefs
     ·rename_i hgg; exact ⟨_,_,SS.get_mem hgg⟩
     ·cases hrefs
   | clo fn caps =>
     simp only [SV.refs,List.any_eq_true,beq_iff_eq] at hq
     obtain ⟨c,hc,rfl⟩:=hq
     simp only [refsIn,List.all_eq_true] at hrefs
     have:=hrefs c hc
     split at this
     ·rename_i hgg; exact ⟨_,_,SS.get_mem hgg⟩
     ·cases this
   | val s x => simp [SV.refs] at hq
   | tup ts => simp [SV.refs] at hq
   | grown h p tv =>
     have:h=q:=by simpa [SV.refs] using hq
     subst this
     simp only [refsIn] at hrefs
     split at hrefs
     ·rename_i hgg; exact ⟨_,_,SS.get_mem hgg⟩
     ·cases hrefs
   | cond g b u => simp [refsIn] at hrefs
  ·simp only at hne hvr hvt
   obtain ⟨val0,hval0,hrep0⟩:=h0.rep k v hm
   obtain ⟨val,hval,hrep⟩:=h1.rep k (v.strip1 ch) (SS.mem_put.2 (.inr ⟨mem_strip.2 ⟨v,hm,rfl⟩,hne,strip1_refs hvr,strip1_tests hvt⟩))
   refine ⟨val,hval,?_⟩
   have turn:∀ u:SV,u.isCond=false→u.refs d=false→u.tests d=false→u.rep Z0 S w a.tmps val0 (F0 k)→u.rep Z ((S.strip ch).put d sv) w' a'.tmps val (F k)→u.rep Z (S.put d (.cond g b sv)) w' a'.tmps val (F k):=by
    intro u hc hur hut hu0 hu1
    refine SV.rep_turn (Z:=Z) (fun i => id) (fun i hi => rfl) (fun i hi => rfl) ?_ (fun g hg => rfl) hu1
    intro q hq s1 x1 vh hh
    have hqd:q≠d:=fun e => by rw [e,hur] at hq; cases hq
    exact hhome q s1 x1 vh (refs_home hc hu0 hq) hqd hh
   cases v with
   | cond g1 b1 u =>
     have hflu:u.isCond=false:=by
      have:=List.all_eq_true.1 hfl _ hm
      simpa [SV.flat] using this
     have hg1:g1≠d:=by
      intro e
      simp [SV.tests,e] at hvt
     have hut:u.tests d=false:=by
      simp only [SV.tests,Bool.or_eq_false_iff] at hvt; exact hvt.2
     simp only [SV.strip1] at hrep
     split at hrep
     ·rename_i hany
      simp only [List.any_eq_true,Bool.and_eq_true,beq_iff_eq] at hany
      obtain ⟨e,he,e1,e2⟩:=hany
      have hct:=hch e he
      rw [e1,e2] at hct
      refine ⟨fun _ => turn u hflu hvr hut (hrep0.1 hct) hrep,fun hn => absurd ?_ hn⟩
      rw [htm g1 hg1]; exact hct
     ·refine ⟨fun hct => ?_,fun hn => hrep.2 hn⟩
      exact turn u hflu hvr hut (hrep0.1 (by rw [← htm g1 hg1]; exact hct)) (hrep.1 hct)
   | val s x => exact turn _ rfl hvr hvt hrep0 hrep
   | copy h p => exact turn _ rfl hvr hvt hrep0 hrep
   | addr h p => exact turn _ rfl hvr hvt hrep0 hrep
   | clo f cs => exact turn _ rfl hvr hvt hrep0 hrep
   | tup ts => exact turn _ rfl hvr hvt hrep0 hrep
   | grown h p tv => exact turn _ rfl hvr hvt hrep0 hrep
end
end Go.Vm
