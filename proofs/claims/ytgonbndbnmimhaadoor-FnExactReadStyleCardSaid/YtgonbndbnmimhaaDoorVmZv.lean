/- Regions whose order is drawn, told by all sets of operations that may be done: calls that change an argument among them. -/
import Derived.Test.YtgonbndbnmimhaaDoorVmZ
set_option linter.unusedVariables false
set_option linter.unusedSimpArgs false
namespace Go.Vm
open Go
abbrev Sx:=Nat→SS→SP
def SxOk (T:Tbl) (P:Program) (w0:World) (Wr Zi:Fp) (N:Fr) (ops:Array Oper) (sx:Sx):Prop:=∀ (i:Nat) (o:Oper) (Z:Fp) (F:Nat→Fp) (S S':SS) (c:List Prop) (a:Act) (w:World),ops[i]?=some o→sx i S=some (S',c)→AllP c→RelX Z F w0 Wr Zi N S a w→DoesG P ops o a w (Rel w0 Wr Zi N S')
def prefE:Path→Path→Bool
 | [],_ => true
 | .fst :: p,.fst :: q => prefE p q
 | .snd :: p,.snd :: q => prefE p q
 | .der :: p,.der :: q => prefE p q
 | _,_ => false
theorem prefE_ok:∀ {p q:Path},prefE p q=true→∃ r,q=p ++ r
 | [],q,_ => ⟨q,rfl⟩
 | .fst :: p,.fst :: q,h => by
   obtain ⟨r,rfl⟩:=prefE_ok (p:=p) (q:=q) (by simpa [prefE] using h)
   exact ⟨r,rfl⟩
 | .snd :: p,.snd :: q,h => by
   obtain ⟨r,rfl⟩:=prefE_ok (p:=p) (q:=q) (by simpa [prefE] using h)
   exact ⟨r,rfl⟩
 | .der :: p,.der :: q,h => by
   obtain ⟨r,rfl⟩:=prefE_ok (p:=p) (q:=q) (by simpa [prefE] using h)
   exact ⟨r,rfl⟩
def prefAll (S:SS) (k:Nat) (p:Path):Bool:=(S.filter fun e => e.2.refs k).all fun e => prefE (e.2.pathTo p) p
def sideB (orc:List TV) (S:SS) (o:Oper):Bool:=match tgtG orc S o with
 | some q => prefAll S q.1 q.2
 | none => true
theorem sideB_ok {orc:List TV} {S:SS} {o:Oper} (h:sideB orc S o=true):AllP (sideG orc S o):=by
 unfold sideB at h
 unfold sideG sideQ
 cases ht:tgtG orc S o with
 | none => trivial
 | some q =>
   rw [ht] at h
   simp only [Option.map_some]
   refine ⟨?_,trivial⟩
   unfold PrefL
   rw [List.map_map]
   refine List.map_inj_left.2 fun e he => ?_
   have:=List.all_eq_true.1 h e he
   obtain ⟨r,hr⟩:=prefE_ok this
   simp only [Function.comp]
   generalize e.2.pathTo q.2=y at hr
   rw [hr,List.take_left]
def sx0 (T:Tbl) (P:Program) (N:Fr) (orc:Nat→List TV) (ops:Array Oper):Sx:=fun i S => match ops[i]? with
 | some o => if sideB (orc (keyO o)) S o then stepG T P N orc S ops o else none
 | none => none
theorem sx0_ok {T:Tbl} {P:Program} (hT:TOk P T) {w0:World} {Wr Zi:Fp} {N:Fr} {orc:Nat→List TV} {ops:Array Oper}:SxOk T P w0 Wr Zi N ops (sx0 T P N orc ops):=by
 intro i o Z F S S' c a w ho hs hc h
 unfold sx0 at hs
 rw [ho] at hs
 simp only at hs
 split at hs
 ·rename_i hb
  exact stepG_ok hT h hs hc (sideB_ok hb)
 ·cases hs
abbrev AlT:=List (Nat × Nat × Nat × Nat)
def alsAt (Al:AlT) (m:Nat):List (Nat × Nat):=(Al.filter fun x => m.testBit x.2.2.1 && !(m.testBit x.2.2.2)).map fun x => (x.1,x.2.1)
def addC:List (Nat × Nat)→SS→SS
 | [],S => S
 | (q,k) :: r,S => addC r (S.put q (.copy k []))
def stV (Ev:List VEnt) (Al:AlT) (m:Nat):SS:=addC (alsAt Al m) (view Ev m)
def tgtV (Ev:List VEnt) (Al:AlT) (m:Nat) (o:Oper):SS:=view Ev m ++ ((alsAt Al m).filter fun x => match o.dst with | some d => Nat.beq x.1 d | none => false).map fun x => (x.1,SV.copy x.2 [])
def slC (cs:List (Nat × Nat × Nat)) (c:List Prop) (i:Nat):List Prop:=match cs.find? fun x => Nat.beq x.1 i with
 | some x => (c.drop x.2.1).take x.2.2
 | none => []
def isVal:Option SV→Bool
 | some (.val _ _) => true
 | _ => false
def nodeB (Ev:List VEnt) (Al:AlT) (m:Nat):Bool :=
 ((view Ev m).all fun e => e.2.homes.all fun k => ((view Ev m).get k).isSome) &&
 ((alsAt Al m).all fun x => !(Nat.beq x.1 x.2) && isVal ((view Ev m).get x.2) && (alsAt Al m).all fun y => !(Nat.beq y.2 x.1))
def edgeB (Al:AlT) (ms:List Nat) (m i:Nat) (o:Oper):Bool :=
 (ms.any fun k => Nat.beq k (m ||| (1 <<< i))) && (match o.dst with
  | some d => (alsAt Al (m ||| (1 <<< i))).all fun x => Nat.beq x.1 d || (((alsAt Al m).any fun y => Nat.beq y.1 x.1 && Nat.beq y.2 x.2) && !(Nat.beq x.2 d))
  | none => (alsAt Al (m ||| (1 <<< i))).isEmpty)
def lstM (ops:Array Oper) (m:Nat):Array Bool:=((List.range ops.size).map fun i => m.testBit i).toArray
theorem Listed.eq {ops:Array Oper} {listed:Array Bool} {m:Nat} (h:Listed ops listed m):listed=lstM ops m:=by
 apply Array.ext
 ·simp [lstM,h.size]
 ·intro i h1 h2
  have:=h.bit i
  rw [Array.getD_eq_getD_getElem?,Array.getElem?_eq_getElem h1] at this
  simp only [Option.getD_some] at this
  rw [this]
  simp [lstM]
def isMove (o:Oper):Bool:=match o.op,o.guard,o.dst with
 | .move (.tmp _),none,some _ => true
 | .fieldAddr _ (.tmp _) _,none,some _ => true
 | _,_,_ => false
def mvM (md:Region.Mode) (ops:Array Oper) (m:Nat):Option Nat:=(readyM md ops m).find? fun i => (match ops[i]? with | some o => isMove o | none => false) && Region.free md ops (lstM ops m) i
def nextM (md:Region.Mode) (ops:Array Oper) (m:Nat):List Nat:=match mvM md ops m with
 | some i => [i]
 | none => readyM md ops m
def vB (md:Region.Mode) (ops:Array Oper) (Ev:List VEnt) (Al:AlT) (ms:List Nat) (full:Nat):Bool :=
 Region.noSelect ops && ms.all fun m => nodeB Ev Al m && (match nextM md ops m with
  | [] => Nat.beq m full
  | is => is.all fun i => match ops[i]? with
    | some o => edgeB Al ms m i o
    | none => false)
section
variable (sx:Sx) (md:Region.Mode) (ops:Array Oper) (Ev:List VEnt) (Al:AlT) (ms:List Nat) (cs:List (Nat × Nat × Nat)) (c:List Prop)
abbrev EO:=Option (List (Option SV) × List Prop)
def eA:List (List EO):=ms.map fun m => (nextM md ops m).map fun i => match ops[i]? with
 | some o => (sx i (stV Ev Al m)).map fun r => ((tgtV Ev Al (m ||| (1 <<< i)) o).map fun e => r.1.get e.1,r.2)
 | none => none
def eB:List (List EO):=ms.map fun m => (nextM md ops m).map fun i => match ops[i]? with
 | some o => some ((tgtV Ev Al (m ||| (1 <<< i)) o).map fun e => some e.2,slC cs c i)
 | none => none
end
section
variable {P:Program} {T:Tbl} {w0:World} {Wr Zi:Fp} {N:Fr} {S S' S1:SS} {a:Act} {w:World} {Q:Exit→Act→World→Prop}
variable {sx:Sx} {md:Region.Mode} {ops:Array Oper} {Ev:List VEnt} {Al:AlT} {ms:List Nat} {cs:List (Nat × Nat × Nat)} {c:List Prop} {full:Nat}
theorem AllP.drop:∀ {l:List Prop} (n:Nat),AllP l→AllP (l.drop n)
 | l,0,h => h
 | [],n+1,h => h
 | p :: l,n+1,h => AllP.drop n h.2
theorem AllP.take:∀ {l:List Prop} (n:Nat),AllP l→AllP (l.take n)
 | l,0,h => trivial
 | [],n+1,h => trivial
 | p :: l,n+1,h => ⟨h.1,AllP.take n h.2⟩
theorem slC_all (h:AllP c) (i:Nat):AllP (slC cs c i):=by
 unfold slC
 split
 ·exact (h.drop _).take _
 ·trivial
theorem Rel.alias (h:Rel w0 Wr Zi N S a w) {q k:Nat} {s:Sh} {x:s.den} (hk:(k,SV.val s x) ∈ S) (hqk:q≠k) (he:a.tmps[q]?=a.tmps[k]?):Rel w0 Wr Zi N (S.put q (.copy k [])) a w:=by
 obtain ⟨Z,F,h⟩:=h
 obtain ⟨v,hv,_⟩:=h.rep k _ hk
 have hvq:a.tmps[q]?=some v:=by rw [he,hv]
 have hlt:q < a.tmps.size:=(Array.getElem?_eq_some_iff.1 hvq).1
 have:=h.putR (d:=q) (sv:=.copy k []) (v:=v) hlt (fun _ => hvq) ⟨fun _ => id,s,x,v,⟨hk,hv⟩,.inl ⟨rfl,rfl⟩⟩ (by simp only [SV.refs]; simpa using Ne.symm hqk) rfl
 rw [put_idem hvq] at this
 exact ⟨_,_,this⟩
theorem addC_ok:∀ {al:List (Nat × Nat)} {S:SS},Rel w0 Wr Zi N S a w → (∀ x ∈ al,x.1≠x.2 ∧ (∃ s y,(x.2,SV.val s y) ∈ S) ∧ (∀ y ∈ al,y.2≠x.1)∧a.tmps[x.1]?=a.tmps[x.2]?)→Rel w0 Wr Zi N (addC al S) a w
 | [],S,h,_ => h
 | (q,k) :: r,S,h,hal => by
   obtain ⟨h1,⟨s,y,h2⟩,h3,h4⟩:=hal (q,k) List.mem_cons_self
   refine addC_ok (al:=r) (S:=S.put q (.copy k [])) (h.alias h2 h1 h4) (fun x hx => ?_)
   obtain ⟨k1,⟨s',y',k2⟩,k3,k4⟩:=hal x (List.mem_cons_of_mem _ hx)
   exact ⟨k1,⟨s',y',SS.mem_put.2 (.inr ⟨k2,h3 x (List.mem_cons_of_mem _ hx),rfl,rfl⟩)⟩,fun z hz => k3 z (List.mem_cons_of_mem _ hz),k4⟩
def InvV (w0:World) (Wr Zi:Fp) (N:Fr) (Ev:List VEnt) (Al:AlT) (m:Nat) (a:Act) (w:World):Prop:=Rel w0 Wr Zi N (view Ev m) a w∧∀ x ∈ alsAt Al m,a.tmps[x.1]?=a.tmps[x.2]?
theorem beq_ne {a b:Nat} (h:(!(Nat.beq a b))=true):a≠b:=by
 intro e; subst e; simp at h
theorem fewer_of (h:Rel w0 Wr Zi N S1 a w) (hg:∀ e ∈ S,S1.get e.1=some e.2) (hh:(S.all fun e => e.2.homes.all fun k => (S.get k).isSome)=true):Rel w0 Wr Zi N S a w:=by
 obtain ⟨Z,F,hX⟩:=h
 have hs:∀ e,e ∈ S→e ∈ S1:=fun e he => SS.get_mem (hg e he)
 refine Rel.fewer ⟨Z,F,hX⟩ hs (fun s sv hm k hk s1 x1 h1 => ?_)
 have h2:=List.all_eq_true.1 (List.all_eq_true.1 hh _ hm) k (SV.homes_refs hk)
 obtain ⟨v,hv⟩:=Option.isSome_iff_exists.1 h2
 have:=hX.uniq k _ _ h1 (hs _ (SS.get_mem hv))
 rw [this]
 exact SS.get_mem hv
theorem step_d (hX:SxOk T P w0 Wr Zi N ops sx) (hB:vB md ops Ev Al ms full=true) (hE:eA sx md ops Ev Al ms=eB md ops Ev Al ms cs c) (hc:AllP c) {m i:Nat} (hm:m ∈ ms) (hi:i ∈ nextM md ops m) (h:InvV w0 Wr Zi N Ev Al m a w):∃ o,ops[i]?=some o ∧ (m ||| (1 <<< i)) ∈ ms∧DoesG P ops o a w (InvV w0 Wr Zi N Ev Al (m ||| (1 <<< i))):=by
 have hB:=(Bool.and_eq_true _ _ |>.mp hB).2
 have b:=List.all_eq_true.1 hB m hm
 simp only [Bool.and_eq_true] at b
 obtain ⟨bn,be⟩:=b
 have be':∃ o,ops[i]?=some o∧edgeB Al ms m i o=true:=by
  split at be
  ·rename_i hr; rw [hr] at hi; cases hi
  ·have:=List.all_eq_true.1 be i hi
   split at this
   ·rename_i o ho
    exact ⟨o,ho,this⟩
   ·cases this
 obtain ⟨o,ho,he⟩:=be'
 unfold edgeB at he
 simp only [Bool.and_eq_true] at he
 obtain ⟨hin,hal⟩:=he
 have hm':(m ||| (1 <<< i)) ∈ ms:=by
  obtain ⟨k,hk,hb⟩:=List.any_eq_true.1 hin
  rw [← Nat.eq_of_beq_eq_true hb]; exact hk
 have e1:=List.map_inj_left.1 hE m hm
 have e2:=List.map_inj_left.1 e1 i hi
 simp only [ho] at e2
 unfold nodeB at bn
 simp only [Bool.and_eq_true] at bn
 have bn':=List.all_eq_true.1 hB _ hm'
 simp only [Bool.and_eq_true] at bn'
 have bn2:=bn'.1
 unfold nodeB at bn2
 simp only [Bool.and_eq_true] at bn2
 have hR:Rel w0 Wr Zi N (stV Ev Al m) a w:=addC_ok h.1 (fun x hx => by
  have h1:=List.all_eq_true.1 bn.2 x hx
  simp only [Bool.and_eq_true] at h1
  obtain ⟨⟨q1,q2⟩,q3⟩:=h1
  refine ⟨beq_ne q1,?_,fun y hy => beq_ne (List.all_eq_true.1 q3 y hy),h.2 x hx⟩
  unfold isVal at q2
  split at q2
  ·rename_i s y hg; exact ⟨s,y,SS.get_mem hg⟩
  ·cases q2)
 obtain ⟨Z,F,hRX⟩:=hR
 cases hs:sx i (stV Ev Al m) with
 | none => rw [hs] at e2; cases e2
 | some r =>
   obtain ⟨S1,c1⟩:=r
   rw [hs] at e2
   simp only [Option.map_some,Option.some.injEq,Prod.mk.injEq] at e2
   obtain ⟨e3,e4⟩:=e2
   have hget:∀ e ∈ tgtV Ev Al (m ||| (1 <<< i)) o,S1.get e.1=some e.2:=fun e he => List.map_inj_left.1 e3 e he
   have hc1:AllP c1:=by rw [e4]; exact slC_all hc i
   have hdone:=hX i o Z F _ _ _ a w ho hs hc1 hRX
   have key:DoesG P ops o a w (fun a' w' => Rel w0 Wr Zi N S1 a' w'∧∀ x ∈ alsAt Al (m ||| (1 <<< i)),a'.tmps[x.1]?=a'.tmps[x.2]?):=by
    cases hd:o.dst with
    | none =>
      rw [hd] at hal
      simp only at hal
      have hnil:alsAt Al (m ||| (1 <<< i))=[]:=List.isEmpty_iff.1 hal
      intro K' Q' hK'
      exact hdone K' Q' (fun a' w' hr => hK' a' w' ⟨hr,fun x hx => by rw [hnil] at hx; cases hx⟩)
    | some d =>
      rw [hd] at hal
      simp only at hal
      have post:∀ a' w',Rel w0 Wr Zi N S1 a' w' → (∀ k,k≠d→a'.tmps[k]?=a.tmps[k]?)→∀ x ∈ alsAt Al (m ||| (1 <<< i)),a'.tmps[x.1]?=a'.tmps[x.2]?:=by
       intro a' w' hr hk x hx
       have h1:=List.all_eq_true.1 hal x hx
       cases hb:Nat.beq x.1 d with
       | true =>
         have hxd:x.1=d:=Nat.eq_of_beq_eq_true hb
         have h2:=hget (x.1,SV.copy x.2 []) (List.mem_append_right _ (List.mem_map.2 ⟨x,List.mem_filter.2 ⟨hx,by simp only [hd]; exact hb⟩,rfl⟩))
         obtain ⟨Z',F',hX'⟩:=hr
         obtain ⟨v,hv,_,s,xs,vh,hh,hor⟩:=hX'.rep _ _ (SS.get_mem h2)
         rcases hor with ⟨_,rfl⟩ | ⟨g,oo,s',x',cs',hroot,hp,_⟩
         ·rw [hv]; exact hh.tmp.symm
         ·exact absurd rfl hp
       | false =>
         rw [hb] at h1
         simp only [Bool.false_or,Bool.and_eq_true] at h1
         obtain ⟨y,hy,hyb⟩:=List.any_eq_true.1 h1.1
         simp only [Bool.and_eq_true] at hyb
         have g1:=Nat.eq_of_beq_eq_true hyb.1
         have g2:=Nat.eq_of_beq_eq_true hyb.2
         have g3:x.1≠d:=fun e => by rw [e] at hb; simp at hb
         rw [hk _ g3,hk _ (beq_ne h1.2),← g1,← g2]
         exact h.2 y hy
      intro K' Q' hK'
      by_cases hw:Region.wanted o (yielded ops a.tmps)=true
      ·have:=wp_put (R:=Rel w0 Wr Zi N S1) hd (fun K1 Q1 h1 => by have:=hdone K1 Q1 h1; rw [if_pos hw] at this; exact this) K' Q' (fun a' w' hr => hK' a' w' ⟨hr.1,post a' w' hr.1 hr.2⟩)
       rw [if_pos hw]; exact this
      ·rw [if_neg hw]
       have h1:=hdone (fun a' w' => Rel w0 Wr Zi N S1 a' w') Q' (fun _ _ h => h)
       rw [if_neg hw] at h1
       refine hK' _ _ ⟨h1,post _ _ h1 (fun k hk => ?_)⟩
       rw [hd]; exact put_other a d k undef hk
   exact ⟨o,ho,hm',fun K' Q' hK' => key K' Q' (fun a' w' hr => hK' a' w' ⟨fewer_of hr.1 (fun e he => hget e (List.mem_append_left _ he)) bn2.1,hr.2⟩)⟩
theorem step_v (hX:SxOk T P w0 Wr Zi N ops sx) (hB:vB md ops Ev Al ms full=true) (hE:eA sx md ops Ev Al ms=eB md ops Ev Al ms cs c) (hc:AllP c) {m i:Nat} (hm:m ∈ ms) (hi:i ∈ nextM md ops m) (h:InvV w0 Wr Zi N Ev Al m a w)
 {K:Act→World→Prop} (hK:∀ a' w',(m ||| (1 <<< i)) ∈ ms→InvV w0 Wr Zi N Ev Al (m ||| (1 <<< i)) a' w'→K a' w'):wpOp P ops Q i K a w:=by
 obtain ⟨o,ho,hm',key⟩:=step_d hX hB hE hc hm hi h
 have hfin:=key K Q (fun a' w' hr => hK a' w' hm' hr)
 unfold wpOp
 rw [ho]
 simp only
 split
 ·rename_i hw
  rw [if_pos hw] at hfin
  exact .inl hfin
 ·rename_i hw
  rw [if_neg hw] at hfin
  exact hfin
def fineF (P:Program) (st j:Nat):Bool:=match P.underlying st with
 | some (.struct fs) => match fs[j]? with
   | some f => match P.info? f.type with
     | some i => !(Nat.beq i.size 0)
     | none => false
   | none => false
 | _ => false
def fineB (P:Program) (ops:Array Oper):Bool:=ops.toList.all fun o => match o.op with
 | .fieldAddr st (.tmp _) j => fineF P st j
 | _ => true
theorem isMove_guard {o:Oper} (h:isMove o=true):o.guard=none:=by
 unfold isMove at h
 split at h
 ·assumption
 ·assumption
 ·cases h
theorem isMove_run {o:Oper} (h:isMove o=true) (hfine:fineB P ops=true) (ho:o ∈ ops.toList) (a:Act) (w:World) (hk:o.wp P a w (fun _ _ => True) (fun _ _ _ => False)):o.guard=none ∧ (∃ d,o.dst=some d)∧∃ v,∀ w,(execOp a.eval o).run P w=.ok (.value v) w:=by
 unfold isMove at h
 split at h
 ·rename_i s d h1 h2 h3
  exact ⟨h2,⟨d,h3⟩,a.eval (.tmp s),fun w => by simp [execOp,h1]⟩
 ·rename_i st s j d h1 h2 h3
  refine ⟨h2,⟨d,h3⟩,?_⟩
  have hff:=List.all_eq_true.1 hfine o ho
  rw [h1] at hff
  simp only at hff
  unfold fineF at hff
  split at hff
  ·rename_i fs hd
   split at hff
   ·rename_i f hf
    split at hff
    ·rename_i info hinfo
     have hz:info.size≠0:=fun e => by rw [e] at hff; cases hff
     have he:∀ w,(execOp a.eval o).run P w = ((Instr.fieldAt st (a.eval (.tmp s)) j).run P w).andThen fun v w' => .ok (.value v) w':=fun w => by simp [execOp,h1]
     generalize a.eval (.tmp s)=x at he
     by_cases hx:∃ ad,x=.pointer (some ad)
     ·obtain ⟨ad,rfl⟩:=hx
      refine ⟨.pointer (some (ad.add f.offset)),fun w => ?_⟩
      rw [he]
      simp [Instr.fieldAt,Sem.run_bind,run_underlying hd,hf,Instr.sureAddr,fieldPlace,Go.sizeOf,typeInfo,hinfo,hz]
     ·exfalso
      unfold Oper.wp at hk
      rw [he] at hk
      have : Instr.sureAddr x = stuck "an address expected (no nilCheck in front?)" := by
       unfold Instr.sureAddr
       split
       ·rename_i ad; exact absurd ⟨ad,rfl⟩ hx
       ·rfl
      simp [Instr.fieldAt,Sem.run_bind,run_underlying hd,hf,this] at hk
      exact hk
    ·cases hff
   ·cases hff
  ·cases hff
 ·cases h
theorem any_v (hfine:fineB P ops=true) (hX:SxOk T P w0 Wr Zi N ops sx) (hB:vB md ops Ev Al ms full=true) (hE:eA sx md ops Ev Al ms=eB md ops Ev Al ms cs c) (hc:AllP c) (hp:∀ c a (d:Nat) v w,Q (.panic c) (a.put (some d) v) w→Q (.panic c) a w) (hQ:∀ a' w',Rel w0 Wr Zi N (view Ev full) a' w'→Q .normal a' w') :
 ∀ (fuel m:Nat) (listed:Array Bool) (a:Act) (w:World),remN m ops.size≤fuel→m ∈ ms→Listed ops listed m→InvV w0 Wr Zi N Ev Al m a w→wpAny P md ops Q fuel listed a w:=by
 intro fuel
 have fin:∀ (m:Nat) (a:Act) (w:World),m ∈ ms→readyM md ops m=[]→InvV w0 Wr Zi N Ev Al m a w→Q .normal a w:=by
  intro m a w hm hr h
  have b:=List.all_eq_true.1 (Bool.and_eq_true _ _ |>.mp hB).2 m hm
  have hn:nextM md ops m=[]:=by unfold nextM mvM; rw [hr]; rfl
  simp only [Bool.and_eq_true,hn] at b
  have:=Nat.eq_of_beq_eq_true b.2
  subst this
  exact hQ _ _ h.1
 have bit:∀ {m i:Nat},i ∈ readyM md ops m→i < ops.size∧m.testBit i=false:=fun {m i} hi => by
  refine ⟨ready_lt hi,?_⟩
  unfold readyM at hi
  have:=(List.mem_filter.1 hi).2
  simp only [Bool.and_eq_true,Bool.not_eq_true'] at this
  exact this.1
 induction fuel with
 | zero =>
   intro m listed a w hf hm hl h
   have hr:readyM md ops m=[]:=by
    cases hr:readyM md ops m with
    | nil => rfl
    | cons i is =>
      obtain ⟨h1,h2⟩:=bit (m:=m) (i:=i) (by rw [hr]; exact List.mem_cons_self)
      have:=remN_zero (Nat.le_zero.1 hf) i h1
      rw [h2] at this; cases this
   exact ⟨by rw [hl.ready]; exact hr,fin m a w hm hr h⟩
 | succ fuel ih =>
   intro m listed a w hf hm hl h
   cases hmv:mvM md ops m with
   | some i =>
     have hmm:=hmv
     unfold mvM at hmm
     have hi:=List.mem_of_find?_eq_some hmm
     have hpr:=List.find?_some hmm
     simp only [Bool.and_eq_true] at hpr
     obtain ⟨h1,h2⟩:=bit hi
     have hin:i ∈ nextM md ops m:=by unfold nextM; rw [hmv]; exact List.mem_singleton.2 rfl
     obtain ⟨o,ho,hm',key⟩:=step_d hX hB hE hc hm hin h
     rw [ho] at hpr
     have hg:o.guard=none:=isMove_guard hpr.1
     have hwk:o.wp P a w (fun _ _ => True) (fun _ _ _ => False):=by
      have:=key (fun _ _ => True) (fun _ _ _ => False) (fun _ _ _ => trivial)
      rw [if_pos (by simp [Region.wanted,hg])] at this
      exact this
     obtain ⟨_,⟨dd,hdd⟩,v,hv⟩:=isMove_run (P:=P) hpr.1 hfine (List.mem_of_getElem? (by rw [Array.getElem?_toList]; exact ho)) a w hwk
     have hw:Region.wanted o (yielded ops a.tmps)=true:=by simp [Region.wanted,hg]
     have hinv:InvV w0 Wr Zi N Ev Al (m ||| (1 <<< i)) (a.put o.dst v) w:=by
      have:=key (InvV w0 Wr Zi N Ev Al (m ||| (1 <<< i))) Q (fun _ _ h => h)
      rw [if_pos hw] at this
      unfold Oper.wp at this
      rw [hv w] at this
      exact this
     refine wpAny_take ho (Bool.and_eq_true _ _ |>.mp hB).1 (by rw [hl.eq]; exact hpr.2) (by rw [hl.ready]; simpa using hi) (fun c a' w' hq => hp c a' dd v w' (by rw [← hdd]; exact hq)) (.inl ⟨hw,hv⟩) ?_
     have:=remN_lt h2 h1
     exact ih _ _ _ _ (by omega) hm' (hl.step h1) hinv
   | none =>
   have hnx:nextM md ops m=readyM md ops m:=by unfold nextM; rw [hmv]
   refine ⟨fun hr => fin m a w hm (hl.ready ▸ hr) h,fun i hi => ?_⟩
   rw [hl.ready] at hi
   obtain ⟨h1,h2⟩:=bit hi
   refine step_v hX hB hE hc hm (by rw [hnx]; exact hi) h (fun a' w' hm' h' => ih _ _ a' w' ?_ hm' (hl.step h1) h')
   have:=remN_lt h2 h1; omega
theorem wp_regX {id:Nat} {ops:Array Oper} {c:List Prop} {sx:Sx} (hX:SxOk T P w0 Wr Zi N ops sx) (Ev:List VEnt) (Al:AlT) (ms:List Nat) (full:Nat) (cs:List (Nat × Nat × Nat)) (h:Rel w0 Wr Zi N S a w)
 (h0:(fineB P ops && (ms.any (Nat.beq 0) && (alsAt Al 0).isEmpty && (modesOf ops).all fun md => vB md ops Ev Al ms full))=true)
 (hS:(view Ev 0).map (fun e => S.get e.1) = (view Ev 0).map fun e => some e.2)
 (hE:(modesOf ops).map (fun md => eA sx md ops Ev Al ms) = (modesOf ops).map fun md => eB md ops Ev Al ms cs c) (hc:AllP c) (hp:∀ c a (d:Nat) v w,Q (.panic c) (a.put (some d) v) w→Q (.panic c) a w)
 (hrest:∀ a' w',Rel w0 Wr Zi N (view Ev full) a' w'→Q .normal a' w'):(Code.region id ops true).wp P Q a w:=by
 simp only [Bool.and_eq_true] at h0
 obtain ⟨hfine,⟨z1,z2⟩,z3⟩:=h0
 have hm0:0 ∈ ms:=by
  obtain ⟨k,hk,hb⟩:=List.any_eq_true.1 z1
  rw [Nat.eq_of_beq_eq_true hb]; exact hk
 have key:∀ md ∈ modesOf ops,∀ t,wpOps P ops Q (Region.linearise md ops t) a { w with drawn:=w.drawn+1 }:=fun md hmd t => by
  have hB:=List.all_eq_true.1 z3 md hmd
  have he:=List.map_inj_left.1 hE md hmd
  have bn:=List.all_eq_true.1 (Bool.and_eq_true _ _ |>.mp hB).2 0 hm0
  simp only [Bool.and_eq_true] at bn
  have bn1:=bn.1
  unfold nodeB at bn1
  simp only [Bool.and_eq_true] at bn1
  refine wpAny_sound ops.size t _ a _ (any_v hfine hX hB he hc hp hrest ops.size 0 _ a _ ?_ hm0 Listed.none ⟨(fewer_of h (fun e he => List.map_inj_left.1 hS e he) bn1.1).drew,fun x hx => by rw [List.isEmpty_iff.1 z2] at hx; cases hx⟩)
  have:∀ k,remN 0 k≤k:=by
   intro k
   induction k with
   | zero => exact Nat.le_refl _
   | succ k ihk => simp only [remN,Nat.zero_testBit]; simp; omega
  exact this _
 refine wp_region_draw fun t => ?_
 unfold Region.schedule
 unfold modesOf at key
 split
 ·exact key .any (by split <;> simp) t
 ·rename_i hdep
  simp only [Bool.or_eq_true,Bool.not_eq_true',not_or,Bool.not_eq_false] at hdep
  rw [if_pos hdep.2] at key
  split
  ·exact key .text (by simp) _
  ·exact key .gc (by simp) _
theorem wp_regv (hT:TOk P T) {id:Nat} {ops:Array Oper} {orc:Nat→List TV} {c:List Prop} (Ev:List VEnt) (Al:AlT) (ms:List Nat) (full:Nat) (cs:List (Nat × Nat × Nat)) (h:Rel w0 Wr Zi N S a w)
 (h0:(fineB P ops && (ms.any (Nat.beq 0) && (alsAt Al 0).isEmpty && (modesOf ops).all fun md => vB md ops Ev Al ms full))=true)
 (hS:(view Ev 0).map (fun e => S.get e.1) = (view Ev 0).map fun e => some e.2)
 (hE:(modesOf ops).map (fun md => eA (sx0 T P N orc ops) md ops Ev Al ms) = (modesOf ops).map fun md => eB md ops Ev Al ms cs c) (hc:AllP c) (hp:∀ c a (d:Nat) v w,Q (.panic c) (a.put (some d) v) w→Q (.panic c) a w)
 (hrest:∀ a' w',Rel w0 Wr Zi N (view Ev full) a' w'→Q .normal a' w'):(Code.region id ops true).wp P Q a w :=
 wp_regX (sx0_ok hT) Ev Al ms full cs h h0 hS hE hc hp hrest
theorem wp_regv_seq (hT:TOk P T) {id:Nat} {ops:Array Oper} {rest:Code} {orc:Nat→List TV} {c:List Prop} (Ev:List VEnt) (Al:AlT) (ms:List Nat) (full:Nat) (cs:List (Nat × Nat × Nat)) (h:Rel w0 Wr Zi N S a w)
 (h0:(fineB P ops && (ms.any (Nat.beq 0) && (alsAt Al 0).isEmpty && (modesOf ops).all fun md => vB md ops Ev Al ms full))=true)
 (hS:(view Ev 0).map (fun e => S.get e.1) = (view Ev 0).map fun e => some e.2)
 (hE:(modesOf ops).map (fun md => eA (sx0 T P N orc ops) md ops Ev Al ms) = (modesOf ops).map fun md => eB md ops Ev Al ms cs c) (hc:AllP c) (hp:∀ c a (d:Nat) v w,Q (.panic c) (a.put (some d) v) w→Q (.panic c) a w)
 (hrest:∀ a' w',Rel w0 Wr Zi N (view Ev full) a' w'→rest.wp P Q a' w'):((Code.region id ops true).seq rest).wp P Q a w :=
 wp_seq (wp_regv hT Ev Al ms full cs h h0 hS hE hc hp hrest)
def stepsX (sx:Sx):List Nat→SS→SP
 | [],S => some (S,[])
 | i :: r,S => match sx i S with
   | some (S1,c1) => match stepsX sx r S1 with
     | some (S2,c2) => some (S2,c1 ++ c2)
     | none => none
   | none => none
theorem stepsX_ok {ops:Array Oper} {sx:Sx} (hX:SxOk T P w0 Wr Zi N ops sx):∀ {n i:Nat} {S S':SS} {c:List Prop} {a:Act} {w:World},i+n=ops.size→Rel w0 Wr Zi N S a w→stepsX sx (List.range' i n) S=some (S',c)→AllP c → (∀ a' w',Rel w0 Wr Zi N S' a' w'→Q .normal a' w')→wpList P ops Q (ops.toList.drop i) a w
 | 0,i,S,S',c,a,w,hn,h,hs,hc,hQ => by
   cases hs
   rw [List.drop_of_length_le (by simp; omega)]
   exact hQ a w h
 | n+1,i,S,S',c,a,w,hn,h,hs,hc,hQ => by
   rw [List.range'_succ] at hs
   simp only [stepsX] at hs
   split at hs
   ·rename_i S1 c1 h1
    split at hs
    ·rename_i S2 c2 h2
     cases hs
     have hlt:i < ops.toList.length:=by simp; omega
     have ho:ops[i]?=some (ops.toList[i]):=by simp
     obtain ⟨Z,F,hR⟩:=h
     rw [List.drop_eq_getElem_cons hlt]
     refine wpList_step fun K hK => ?_
     exact hX i _ Z F S S1 c1 a w ho h1 hc.left hR K Q (fun a' w' hr => hK a' w' (stepsX_ok hX (by omega) hr h2 hc.right hQ))
    ·cases hs
   ·cases hs
def seqXS (sx:Sx) (n:Nat) (S:SS):SS:=match stepsX sx (List.range' 0 n) S with
 | some r => r.1
 | none => []
theorem wp_seqX {id:Nat} {ops:Array Oper} {c:List Prop} {sx:Sx} (hX:SxOk T P w0 Wr Zi N ops sx) (h:Rel w0 Wr Zi N S a w) (hcq:(stepsX sx (List.range' 0 ops.size) S).map (·.2)=some c) (hc:AllP c)
 (hrest:∀ a' w',Rel w0 Wr Zi N (seqXS sx ops.size S) a' w'→Q .normal a' w'):(Code.region id ops false).wp P Q a w:=by
 obtain ⟨r,hr,rfl⟩:=Option.map_eq_some_iff.1 hcq
 obtain ⟨S2,c2⟩:=r
 have hS:seqXS sx ops.size S=S2:=by unfold seqXS; rw [hr]
 rw [hS] at hrest
 refine wp_region_list ?_
 have:=stepsX_ok (P:=P) (Q:=Q) hX (n:=ops.size) (i:=0) (by omega) h hr hc hrest
 rwa [List.drop_zero] at this
end
def frzT (t:TV):TV:=⟨t.sh.ro,t.sh.fz t.x⟩
theorem VReps.freeze {Z Z':Fp} {w:World} (hZ:∀ i,Z i→Z' i):∀ {ts:List TV} {vs:List Value} {f:Fp},(∀ i,f i→Z' i)→VReps Z w ts vs f→VReps Z' w (ts.map frzT) vs (fun _ => False)
 | [],vs,f,_,h => ⟨h.1,fun i => id⟩
 | t :: ts,vs,f,hf,h => by
   obtain ⟨v,vs',f1,f2,rfl,he,hd,⟨cs,h1,hv⟩,h2⟩:=h
   refine ⟨v,vs',fun _ => False,fun _ => False,rfl,fun i => ⟨.inl,fun h => h.elim id id⟩,fun i h => h.elim,⟨cs,CRep.freeze hZ (fun i hi => hf i ((he i).2 (.inl hi))) h1,?_⟩,VReps.freeze hZ (fun i hi => hf i ((he i).2 (.inr hi))) h2⟩
   obtain ⟨s,x⟩:=t
   show ValOf s.ro v cs
   cases s <;> first | exact hv | (rename_i o t e; cases o <;> exact hv)
theorem PCall.frozen {P:Program} {f:Nat} {ins outs outs':List TV} (h:PCall P f ins outs) (he:outs.map frzT=outs'):PCall P f ins outs':=by
 subst he
 refine ⟨h.1,fun Z w args hZ ha => (h.2 Z w args hZ ha).mono ?_⟩
 rintro e w' ⟨vs,Fr,Zn,rfl,hzn,hvs,hfr,hg⟩
 refine ⟨vs,fun _ => False,fun i => Zn i∨Fr i,rfl,?_,VReps.freeze (fun i => .inl) (fun i hi => .inr hi) hvs,fun i hi => hi.elim,hg⟩
 rintro i (hi | hi)
 ·exact hzn i hi
 ·exact ⟨VReps.lt hvs i hi,fun hlt => absurd hlt (Nat.not_lt.2 (hfr i hi).1)⟩
theorem ret_frz {P:Program} {w0:World} {Zi:Fp} {a:Act} {w:World} {fn:Func} {outs outs':List TV} (h:RetOk P fn w0 Zi outs .ret a w∧RetOk P fn w0 Zi outs .normal a w) (he:outs.map frzT=outs') :
 RetOk P fn w0 Zi outs' .ret a w∧RetOk P fn w0 Zi outs' .normal a w:=by
 subst he
 obtain ⟨⟨hd,v,hr,vs,Fr,Zn,e1,hzn,hvs,hfr,hg⟩,_⟩:=h
 have key:∃ v,(results fn a.tmps).run P w=.ok v w∧∃ vs Fr Zn,Ending.returned v=.returned (RetV vs) ∧ (∀ i,Zn i→i < w.heap.size ∧ (i < w0.heap.size→Zi i))∧VReps Zn w (outs.map frzT) vs Fr ∧ (∀ i,Fr i→w0.heap.size≤i∧¬ Zn i)∧Grow (fun _ => False) w0 w :=
  ⟨v,hr,vs,fun _ => False,fun i => Zn i∨Fr i,e1,fun i hi => hi.elim (hzn i) (fun hi => ⟨VReps.lt hvs i hi,fun hlt => absurd hlt (Nat.not_lt.2 (hfr i hi).1)⟩),VReps.freeze (fun i => .inl) (fun i hi => .inr hi) hvs,fun i hi => hi.elim,hg⟩
 exact ⟨⟨hd,key⟩,⟨hd,key⟩⟩
theorem PMut.frozen {P:Program} {f:Nat} {ins outs outs' fins:List TV} (h:PMut P f ins outs fins) (he:outs.map frzT=outs'):PMut P f ins outs' fins:=by
 subst he
 refine ⟨h.1,fun Z w args f0 hZ ha hf0 => (h.2 Z w args f0 hZ ha hf0).mono ?_⟩
 rintro e w' ⟨vs,Fr,f1,Zn,rfl,hzn,hvs,hfr,hfs,hf1,hg⟩
 refine ⟨vs,fun _ => False,f1,fun i => Zn i∨Fr i,rfl,?_,VReps.freeze (fun i => .inl) (fun i hi => .inr hi) hvs,fun i hi => hi.elim,VReps.same (fun i hi => .inl hi) (fun i _ => rfl) (fun i _ => rfl) hfs,?_,hg⟩
 ·rintro i (hi | hi)
  ·exact hzn i hi
  ·exact ⟨VReps.lt hvs i hi,fun hlt => absurd hlt (Nat.not_lt.2 (hfr i hi).1)⟩
 ·intro i hi
  exact ⟨(hf1 i hi).1,fun hz => hz.elim (hf1 i hi).2 (fun hF => (hfr i hF).2.2 hi)⟩
end Go.Vm
