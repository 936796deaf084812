/- Regions whose order is drawn: each operation is checked once. -/
import Derived.Test.YtgonbndbnmimhaaDoorVmY
import Derived.Test.YtgonbndbnmimhaaDoorVmW
set_option linter.unusedVariables false
set_option linter.unusedSimpArgs false
namespace Go.Vm
open Go
section
variable {T:Tbl} {P:Program} {N:Fr} {V S V':SS}
def keepX (b:Bool) (S S0:SS) (k:Nat) (p:Path):SS:=if b=true then keepC S S0 k p else S0
theorem store_frame (h:Sub V S) {orc:List TV} {o:Oper} {t:Nat} {X Y:Operand} {V':SS} {c:List Prop} (hX:inV V X=true) (hY:inV V Y=true) (hp:plainO V Y=true) (hs:sStore T orc V o t X Y=some (V',c)) :
 ∃ d sv p,V'=keepX (keepO orc) V (V.put d sv) d p ∧ (opd T V t X).map (derefV V)=some (.addr d p) ∧ (V.get d).isSome=true ∧ (∃ s0 x0,sv=SV.val s0 x0)∧sStore T orc S o t X Y=some (keepX (keepO orc) S (S.put d sv) d p,c):=by
 have hng:∀ W:SS,plainO W Y=true→grownAt W Y=none:=fun W hW => by
  unfold grownAt
  cases Y with
  | tmp s =>
    simp only [plainO] at hW ⊢
    split at hW
    ·rename_i hg; rw [hg]
    ·cases hW
  | _ => rfl
 unfold sStore at hs ⊢
 rw [hng V hp] at hs
 rw [hng S (plainO_mono h hp)]
 simp only at hs ⊢
 split at hs
 ·rename_i tv V1 hd hy
  obtain ⟨rfl,hy2⟩:=take_frame h hY hp hy
  split at hs
  ·rename_i sv hsv
   split at hs
   ·rename_i V2 hst
    obtain ⟨sv0,e0,rfl⟩:=Option.map_eq_some_iff.1 hsv
    have hh:=h.opdHomes e0
    unfold storeV at hst
    split at hst
    ·rename_i k p he
     have hk:(V1.get k).isSome=true:=deref_homes hh k (by rw [he]; simp [SV.homes])
     split at hst
     ·rename_i s x hg
      split at hst
      ·rename_i hroot
       split at hst
       ·rename_i old i h1 h2
        split at hst
        ·rename_i h3
         split at hst
         ·rename_i r h4
          cases hst
          refine ⟨k,.val r.sh r.x,p,?_,by rw [e0,Option.map_some,he],hk,⟨_,_,rfl⟩,?_⟩
          ·rw [he] at hs
           cases hko:keepO orc with
           | true => simp only [hko,if_true,Option.some.injEq,Prod.mk.injEq] at hs; rw [keepX,if_pos rfl]; exact hs.1.symm
           | false => simp only [hko,Bool.false_eq_true,if_false,Option.some.injEq,Prod.mk.injEq] at hs; rw [keepX,if_neg (by simp)]; exact hs.1.symm
          ·have hc:c=[]:=by
            rw [he] at hs
            cases hko:keepO orc with
            | true => simp only [hko,if_true,Option.some.injEq,Prod.mk.injEq] at hs; exact hs.2.symm
            | false => simp only [hko,Bool.false_eq_true,if_false,Option.some.injEq,Prod.mk.injEq] at hs; exact hs.2.symm
           subst hc
           rw [hd]
           simp only [hy2,h.opd hX,e0,Option.map_some,h.deref hh,he]
           unfold storeV
           simp only [h.get hk,hg,hroot,if_true,h1,h2,h3,h4]
           cases hko:keepO orc <;> simp [keepX]
         ·cases hst
        ·cases hst
       ·cases hst
      ·cases hst
     ·cases hst
    ·cases hst
   ·cases hs
  ·cases hs
 ·cases hs
end
def SS.killL (S:SS):List Nat→SS
 | [] => S
 | k :: r => SS.killL (S.kill k) r
theorem SS.mem_killL:∀ {ks:List Nat} {S:SS} {e:Nat × SV},e ∈ S.killL ks↔e ∈ S∧∀ k ∈ ks,e.1≠k∧e.2.refs k=false∧e.2.tests k=false
 | [],S,e => by simp [SS.killL]
 | k :: r,S,e => by
   simp only [SS.killL,SS.mem_killL (ks:=r),SS.mem_kill,List.mem_cons,forall_eq_or_imp]
   constructor
   ·rintro ⟨⟨h1,h2⟩,h3⟩; exact ⟨h1,h2,h3⟩
   ·rintro ⟨h1,h2,h3⟩; exact ⟨⟨h1,h2⟩,h3⟩
theorem SS.killL_append:∀ {k1 k2:List Nat} {S:SS},S.killL (k1 ++ k2) = (S.killL k1).killL k2
 | [],k2,S => rfl
 | k :: r,k2,S => by simp only [List.cons_append,SS.killL,SS.killL_append (k1:=r)]
def Uq (S:SS):Prop:=∀ k v1 v2,(k,v1) ∈ S → (k,v2) ∈ S→v1=v2
theorem Uq.killL {S:SS} (h:Uq S) (ks:List Nat):Uq (S.killL ks):=fun k v1 v2 h1 h2 => h k v1 v2 (SS.mem_killL.1 h1).1 (SS.mem_killL.1 h2).1
def uqB:SS→Bool
 | [] => true
 | e :: r => (r.all fun x => !(Nat.beq e.1 x.1)) && uqB r
theorem uqB_ok:∀ {S:SS},uqB S=true→Uq S
 | [],_,k,v1,v2,h1,_ => absurd h1 List.not_mem_nil
 | e :: r,h,k,v1,v2,h1,h2 => by
   simp only [uqB,Bool.and_eq_true] at h
   have key:∀ v,(k,v) ∈ r→e.1≠k:=fun v hv he => by
    have:=List.all_eq_true.1 h.1 _ hv
    rw [he] at this; simp at this
   rcases List.mem_cons.1 h1 with e1 | m1 <;> rcases List.mem_cons.1 h2 with e2 | m2
   ·rw [← e2] at e1; simpa using e1
   ·exact absurd (by rw [← e1]) (key _ m2)
   ·exact absurd (by rw [← e2]) (key _ m1)
   ·exact uqB_ok h.2 k v1 v2 m1 m2
section
variable {T:Tbl} {P:Program} {N:Fr} {V S V':SS}
theorem Sub.killL (h:Sub V S) (uV:Uq V) (uS:Uq S) {ks:List Nat} (hc:closedB (V.killL ks)=true):Sub (V.killL ks) (S.killL ks) where
 le k v hv:=by
  obtain ⟨m1,m2⟩:=SS.mem_killL.1 (SS.get_mem hv)
  have:=h.le k v (mem_getU uV m1)
  exact mem_getU (uS.killL ks) (SS.mem_killL.2 ⟨SS.get_mem this,m2⟩)
 closed:=hc
def tkO (V:SS):Operand→List Nat
 | .tmp s => match V.get s with
   | some (.val sh _) => if sh.noOwn then [] else [s]
   | some (.copy h _) => [h]
   | _ => []
 | _ => []
theorem takeO_tk (h:Sub V S) {ty:Nat} {X:Operand} {tv:TV} {V1:SS} (hi:inV V X=true) (ht:takeO T V ty X=some (tv,V1)):V1=V.killL (tkO V X)∧takeO T S ty X=some (tv,S.killL (tkO V X)):=by
 cases X with
 | const v =>
   simp only [takeO,Option.map_eq_some_iff,Prod.mk.injEq] at ht ⊢
   obtain ⟨t,e1,e2,e3⟩:=ht
   exact ⟨e3.symm,t,e1,e2,rfl⟩
 | tmp s =>
   simp only [takeO] at ht ⊢
   rw [h.get (k:=s) (by simpa [inV] using hi)]
   split at ht
   ·rename_i sh x hg
    simp only [tkO,hg]
    cases hn:sh.noOwn with
    | true =>
      simp only [hn,if_true,Option.some.injEq,Prod.mk.injEq] at ht
      obtain ⟨rfl,rfl⟩:=ht
      exact ⟨rfl,rfl⟩
    | false =>
      simp only [hn,Bool.false_eq_true,if_false,Option.some.injEq,Prod.mk.injEq] at ht
      obtain ⟨rfl,rfl⟩:=ht
      exact ⟨rfl,rfl⟩
   ·rename_i k hg
    have hk:(V.get k).isSome=true:=h.homes hg k (by simp [SV.homes])
    split at ht
    ·rename_i sh x hk2
     cases ht
     simp only [tkO,hg,h.get hk,hk2]
     exact ⟨rfl,rfl⟩
    ·cases ht
   ·rename_i k q p hg
    have hk:(V.get k).isSome=true:=h.homes hg k (by simp [SV.homes])
    split at ht
    ·rename_i sh x hk2
     split at ht
     ·rename_i hroot
      split at ht
      ·rename_i tv' hat
       cases ht
       simp only [tkO,hg,h.get hk,hk2,hroot,if_true,hat]
       exact ⟨rfl,rfl⟩
      ·cases ht
     ·cases ht
    ·cases ht
   ·cases ht
 | func f => simp [takeO] at ht
 | global g => simp [takeO] at ht
def tkL (V:SS):List Operand→List Nat
 | [] => []
 | X :: r => tkO V X ++ tkL (V.killL (tkO V X)) r
def tkLok (V:SS):List Operand→Bool
 | [] => true
 | X :: r => inV V X && closedB (V.killL (tkO V X)) && tkLok (V.killL (tkO V X)) r
theorem takeL_tk {ty:Nat}:∀ {l:List Operand} {V S:SS} {tvs:List TV} {V1:SS},Sub V S→Uq V→Uq S→tkLok V l=true→takeL T V ty l=some (tvs,V1)→V1=V.killL (tkL V l)∧takeL T S ty l=some (tvs,S.killL (tkL V l))
 | [],V,S,tvs,V1,h,uV,uS,hok,ht => by cases ht; exact ⟨rfl,rfl⟩
 | X :: r,V,S,tvs,V1,h,uV,uS,hok,ht => by
   simp only [tkLok,Bool.and_eq_true] at hok
   simp only [takeL] at ht ⊢
   split at ht
   ·rename_i tv V2 h2
    obtain ⟨rfl,k2⟩:=takeO_tk h hok.1.1 h2
    split at ht
    ·rename_i tvs' V3 h3
     cases ht
     obtain ⟨q3,k3⟩:=takeL_tk (h.killL uV uS hok.1.2) (uV.killL _) (uS.killL _) hok.2 h3
     simp only [k2,k3,tkL,SS.killL_append]
     exact ⟨q3,trivial⟩
    ·cases ht
   ·cases ht
def tkOp (orc:List TV) (T:Tbl) (V:SS) (o:Oper):Option (List Nat):=match o.op with
 | .assign X => if (ownAt V X || takeB orc) && inV V X then some (tkO V X) else none
 | .field _ X _ => if inV V X then some (tkO V X) else none
 | .build _ parts => if tkLok V (parts.toList.map (·.2)) then some (tkL V (parts.toList.map (·.2))) else none
 | .buildSlice _ _ parts => if tkLok V (parts.toList.map (·.2)) then some (tkL V (parts.toList.map (·.2))) else none
 | .call c => match c.callee with
   | .builtin .append => if grownO orc then none else match c.args.toList,c.argTypes.toList with
     | [X,Y],[t,_] => match takeO T V t X with
       | some (⟨.sl true _ e,_⟩,_) => if e.noOwn && inV V X && closedB (V.killL (tkO V X)) && inV (V.killL (tkO V X)) Y then some (tkO V X) else none
       | _ => none
     | _,_ => none
   | _ => none
 | _ => none
theorem step_takes (h:Sub V S) (uV:Uq V) (uS:Uq S) {orc:List TV} {o:Oper} {c:List Prop} {ks:List Nat} (hk:tkOp orc T V o=some ks) (hs:step T P N orc V o=some (V',c)) :
 ∃ d sv,o.dst=some d∧V' = (V.killL ks).put d sv∧step T P N orc S o=some ((S.killL ks).put d sv,c):=by
 have fin:∀ {V1 S1:SS} {sv:SV} {c':List Prop},V1=V.killL ks→S1=S.killL ks→outS N V1 o.dst sv c'=some (V',c)→step T P N orc S o=outS N S1 o.dst sv c'→∃ d sv,o.dst=some d∧V' = (V.killL ks).put d sv∧step T P N orc S o=some ((S.killL ks).put d sv,c):=by
  intro V1 S1 sv c' e1 e2 h1 h2
  subst e1 e2
  obtain ⟨d,k1,k2,k3,k4,k5⟩:=out_frame h1
  exact ⟨d,sv,k1,k2,by rw [h2,k5]⟩
 unfold tkOp at hk
 split at hk
 ·rename_i X ho
  split at hk
  ·rename_i hc
   cases hk
   simp only [Bool.and_eq_true] at hc
   simp only [step,ho] at hs
   unfold sAssign at hs
   rw [if_pos hc.1] at hs
   split at hs
   ·rename_i tv V1 e1
    obtain ⟨q1,q2⟩:=takeO_tk h hc.2 e1
    refine fin q1 rfl hs ?_
    simp only [step,ho,sAssign,ownAt_frame h hc.2]
    rw [if_pos hc.1,q2]
   ·cases hs
  ·cases hk
 ·rename_i st X j ho
  split at hk
  ·rename_i hc
   cases hk
   simp only [step,ho] at hs
   unfold sFieldV at hs
   split at hs
   ·rename_i tv V1 e1
    obtain ⟨q1,q2⟩:=takeO_tk h hc e1
    split at hs
    ·rename_i v e2
     exact fin q1 rfl hs (by simp only [step,ho,sFieldV,q2,e2])
    ·cases hs
   ·cases hs
  ·cases hk
 ·rename_i t parts ho
  split at hk
  ·rename_i hc
   cases hk
   simp only [step,ho] at hs
   unfold sBuild at hs
   split at hs
   ·rename_i tvs V1 e1
    obtain ⟨q1,q2⟩:=takeL_tk h uV uS hc e1
    split at hs
    ·rename_i hl
     split at hs
     ·rename_i r e2
      exact fin q1 rfl hs (by simp only [step,ho,sBuild,q2,hl,if_true,e2])
     ·cases hs
    ·cases hs
   ·cases hs
  ·cases hk
 ·rename_i t n parts ho
  split at hk
  ·rename_i hc
   cases hk
   simp only [step,ho] at hs
   unfold sLit at hs
   split at hs
   ·rename_i hl
    split at hs
    ·rename_i tvs V1 e1
     obtain ⟨q1,q2⟩:=takeL_tk h uV uS hc e1
     split at hs
     ·rename_i r e2
      exact fin q1 rfl hs (by simp only [step,ho,sLit,q2,hl,if_true,e2])
     ·cases hs
    ·cases hs
   ·cases hs
  ·cases hk
 ·rename_i cl ho
  split at hk
  ·rename_i hcl
   split at hk
   ·cases hk
   ·rename_i hng
    split at hk
    ·rename_i X Y t t' a1 a2
     split at hk
     ·rename_i te e xs V1 hX
      split at hk
      ·rename_i hc
       cases hk
       simp only [Bool.and_eq_true] at hc
       obtain ⟨⟨⟨c1,c2⟩,c3⟩,c4⟩:=hc
       obtain ⟨q1,q2⟩:=takeO_tk h c2 hX
       subst q1
       have hsub:=h.killL uV uS c3
       simp only [step,ho] at hs
       unfold sCall at hs
       simp only [hcl,a1,a2] at hs
       split at hs
       ·rename_i ht
        try rw [if_neg (by simpa using hng)] at hs
        split at hs
        ·rename_i r V2 q hap
         unfold appendV at hap
         rw [hX] at hap
         simp only at hap
         split at hap
         ·rename_i b hb
          split at hap
          ·rename_i ys V3 hsrc
           have hV3:=srcO_plain c1 hsrc
           subst hV3
           cases hap
           refine fin rfl rfl hs ?_
           simp only [step,ho]
           unfold sCall
           simp only [hcl,a1,a2,ht,if_true]
           rw [if_neg (by simpa using hng)]
           unfold appendV
           rw [q2]
           simp only [hb,hsub.src c4 c1 hsrc]
          ·cases hap
         ·cases hap
        ·cases hs
       ·cases hs
      ·cases hk
     ·cases hk
    ·cases hk
  ·cases hk
 ·cases hk
end
abbrev VEnt:=(Nat × SV) × Option Nat × Option Nat
def alive (m:Nat) (e:VEnt):Bool:=(match e.2.1 with | none => true | some i => m.testBit i) && (match e.2.2 with | none => true | some g => !(m.testBit g))
def view (Ev:List VEnt) (m:Nat):SS:=(Ev.filter (alive m)).map (·.1)
theorem mem_view {Ev:List VEnt} {m:Nat} {e:Nat × SV}:e ∈ view Ev m↔∃ x ∈ Ev,alive m x=true∧x.1=e:=by
 unfold view
 simp only [List.mem_map,List.mem_filter]
 constructor
 ·rintro ⟨x,⟨h1,h2⟩,h3⟩; exact ⟨x,h1,h2,h3⟩
 ·rintro ⟨x,h1,h2,h3⟩; exact ⟨x,⟨h1,h2⟩,h3⟩
theorem testBit_add (m i j:Nat):(m ||| (1 <<< i)).testBit j = (m.testBit j || decide (i=j)):=by
 rw [Nat.testBit_or,Nat.testBit_shiftLeft]
 by_cases e:i=j
 ·subst e; simp
 ·have:(decide (j ≥ i) && Nat.testBit 1 (j - i))=false:=by
   by_cases hle:i≤j
   ·have hne:j - i≠0:=by omega
    have h1:Nat.testBit 1 (j - i)=false:=Bool.eq_false_iff.2 (fun hh => hne (Nat.testBit_one_eq_true_iff_self_eq_zero.1 hh))
    simp [h1]
   ·simp [hle]
  rw [this]; simp [e]
def remN (m:Nat):Nat→Nat
 | 0 => 0
 | k+1 => (if m.testBit k then 0 else 1)+remN m k
theorem remN_le (m i:Nat):∀ k,remN (m ||| (1 <<< i)) k≤remN m k
 | 0 => Nat.le_refl _
 | k+1 => by
   have:=remN_le m i k
   simp only [remN,testBit_add]
   cases h:m.testBit k <;> simp
   ·split <;> omega
   ·omega
theorem remN_lt {m i:Nat} (hi:m.testBit i=false):∀ {k},i < k→remN (m ||| (1 <<< i)) k+1≤remN m k
 | 0,h => absurd h (Nat.not_lt_zero _)
 | k+1,h => by
   simp only [remN,testBit_add]
   by_cases e:i=k
   ·subst e
    have:=remN_le m i i
    simp [hi]; omega
   ·have:=remN_lt hi (k:=k) (by omega)
    cases hk:m.testBit k <;> simp [e] <;> omega
theorem remN_zero {m:Nat}:∀ {k},remN m k=0→∀ j,j < k→m.testBit j=true
 | 0,_,j,hj => absurd hj (Nat.not_lt_zero _)
 | k+1,h,j,hj => by
   simp only [remN] at h
   by_cases e:j=k
   ·subst e
    cases hk:m.testBit j <;> simp [hk] at h ⊢
   ·exact remN_zero (k:=k) (by omega) j (by omega)
def fwdB (md:Region.Mode) (ops:Array Oper):Bool:=(List.range ops.size).any fun i => match ops[i]? with
 | none => false
 | some o => o.after.any fun e => Region.binds md e && decide (i≤e.on)
def cloPass (md:Region.Mode) (ops:Array Oper) (old:List Nat):List Nat :=
 ops.toList.foldl (fun acc o => acc ++ [o.after.toList.foldl (fun s e => if Region.binds md e then s ||| (1 <<< e.on) ||| (if e.on < acc.length then acc.getD e.on 0 else old.getD e.on 0) else s) 0]) []
def cloN (md:Region.Mode) (ops:Array Oper):Nat→List Nat→List Nat
 | 0,l => l
 | k+1,l => let l':=cloPass md ops l; if l' == l then l else cloN md ops k l'
def cloOf (md:Region.Mode) (ops:Array Oper):List Nat:=if fwdB md ops then cloN md ops 6 (cloPass md ops []) else cloPass md ops []
def popN (m:Nat):Nat→Nat
 | 0 => 0
 | k+1 => popN m k + (if m.testBit k then 1 else 0)
def rkOf (md:Region.Mode) (ops:Array Oper) (cl:List Nat) (i:Nat):Nat:=if fwdB md ops then popN (cl.getD i 0) ops.size else i
def closOk (md:Region.Mode) (ops:Array Oper) (cl:List Nat):Bool:=(List.range ops.size).all fun i => match ops[i]? with
 | none => false
 | some o => (o.after.all fun e => !Region.binds md e || (decide (e.on < ops.size) && decide (rkOf md ops cl e.on < rkOf md ops cl i))) &&
   (List.range ops.size).all fun j => !((cl.getD i 0).testBit j) || o.after.any fun e => Region.binds md e && (Nat.beq e.on j || (cl.getD e.on 0).testBit j)
abbrev Eff:=List (Nat × Nat) × List (Nat × List Nat) × List (Nat × List Nat) × List (Nat × List Nat)
def onlyB (st:Eff) (i:Nat) (e:Nat × SV):Bool:=match st.2.2.2.find? fun x => Nat.beq x.1 i with
 | some x => x.2.any fun q => Nat.beq e.1 q
 | none => true
def tkB (st:Eff) (i:Nat):Bool:=st.2.1.any fun e => Nat.beq e.1 i
def kpE (st:Eff) (i:Nat) (e:Nat × SV):Bool:=(st.2.2.1.any fun x => Nat.beq x.1 i && x.2.any fun q => Nat.beq e.1 q) && (match e.2 with | .copy _ _ => true | _ => false)
def kl (st:Eff) (i:Nat):List Nat:=match st.2.1.find? fun e => Nat.beq e.1 i with
 | some e => e.2
 | none => []
def hitK (ks:List Nat) (e:Nat × SV):Bool:=ks.any fun k => Nat.beq e.1 k || e.2.refs k || e.2.tests k
theorem kl_nil {st:Eff} {i:Nat} (h:¬ tkB st i=true):kl st i=[]:=by
 unfold kl
 split
 ·rename_i e he
  exact absurd (List.any_eq_true.2 ⟨e,List.mem_of_find?_eq_some he,List.find?_some he⟩) h
 ·rfl
theorem hitK_not {ks:List Nat} {e:Nat × SV} (h:hitK ks e=false):∀ k ∈ ks,e.1≠k∧e.2.refs k=false∧e.2.tests k=false:=fun k hk => by
 have:=List.any_eq_false.1 h k hk
 simp only [Bool.not_eq_true,Bool.or_eq_false_iff] at this
 exact ⟨fun e => by rw [e] at this; simp at this,this.1.2,this.2⟩
theorem hitK_yes {ks:List Nat} {e:Nat × SV} (h:hitK ks e=true):¬ ∀ k ∈ ks,e.1≠k∧e.2.refs k=false∧e.2.tests k=false:=fun hn => by
 obtain ⟨k,hk,hb⟩:=List.any_eq_true.1 h
 obtain ⟨h1,h2,h3⟩:=hn k hk
 simp only [h2,h3,Bool.or_false] at hb
 exact h1 (Nat.eq_of_beq_eq_true hb)
def vw (st:Eff) (Ev:List VEnt) (cl:List Nat) (i:Nat):SS:=(view Ev (cl.getD i 0)).filter (onlyB st i)
def effO (st:Eff) (ops:Array Oper) (i:Nat):Option Nat:=match ops[i]? with
 | none => none
 | some o => match o.dst with
   | some d => some d
   | none => (st.1.find? fun e => Nat.beq e.1 i).map (·.2)
def inC (cl:List Nat) (g i:Nat):Bool:=(cl.getD g 0).testBit i
def tailOk (ops:Array Oper) (p:Nat) (cl:List Nat):Bool:=(List.range ops.size).all fun q => decide (q < p) || (List.range q).all fun j => inC cl q j
def ordE (cl:List Nat) (e1 e2:VEnt):Bool:=!(Nat.beq e1.1.1 e2.1.1) || (match e1.2.2,e2.2.1 with
 | some g,some g2 => Nat.beq g g2 || inC cl g2 g
 | _,_ => false)
def uniqB (cl:List Nat):List VEnt→Bool
 | [] => true
 | e :: r => r.all (ordE cl e) && uniqB cl r
def entB (cl:List Nat) (st:Eff) (ops:Array Oper) (p:Nat) (e:VEnt):Bool :=
 (match e.2.1 with | none => true | some i => decide (i < p) && (match effO st ops i with | some d => Nat.beq d e.1.1 | none => false)) &&
 (match e.2.2 with
  | none => true
  | some g => decide (g < p) && (match e.2.1 with | none => true | some i => inC cl g i) && (match effO st ops g with | some d => Nat.beq d e.1.1 || e.1.2.refs d || e.1.2.tests d || hitK (kl st g) e.1 | none => false)) &&
 (match e.2.2 with
  | none => true
  | some g => (List.range p).all fun j => Nat.beq g j || inC cl g j || !(alive (cl.getD j 0) e && onlyB st j e.1)) &&
 (e.1.2.flat) &&
 (List.range p).all fun i => match effO st ops i with
  | none => false
  | some d => !(e.1.2.refs d || e.1.2.tests d || hitK (kl st i) e.1) || kpE st i e.1 || (match e.2.1 with | some j => inC cl j i | none => false) || (match e.2.2 with | some g => Nat.beq g i || inC cl i g | none => false)
def opOk (orc:Nat→List TV) (T:Tbl) (st:Eff) (ops:Array Oper) (Ev:List VEnt) (cl:List Nat) (i:Nat):Bool:=match ops[i]? with
 | none => false
 | some o => closedB (vw st Ev cl i) && (match o.dst with
   | some _ => if tkB st i then o.guard.isNone && (match tkOp (orc (keyO o)) T (vw st Ev cl i) o with | some ks => ks == kl st i | none => false) && uqB (vw st Ev cl i) && !(grownO (orc (keyO o)))
     else (o.guard.isSome || pureOp (orc (keyO o)) T (vw st Ev cl i) o) && (opsOf o).all (inV (vw st Ev cl i))
   | none => o.guard.isNone && !(tkB st i) && (match o.op with
     | .store t X Y => inV (vw st Ev cl i) X && inV (vw st Ev cl i) Y && plainO (vw st Ev cl i) Y && !(grownO (orc (keyO o))) && (match (opd T (vw st Ev cl i) t X).map (derefV (vw st Ev cl i)),effO st ops i with
       | some (.addr k _),some d => Nat.beq k d
       | _,_ => false)
     | _ => false))
def numOk (orc:Nat→List TV) (T:Tbl) (md:Region.Mode) (st:Eff) (ops:Array Oper) (p:Nat) (Ev:List VEnt) (cl:List Nat):Bool :=
 decide (p≤ops.size) && closOk md ops cl && tailOk ops p cl && uniqB cl Ev && Ev.all (entB cl st ops p) && (List.range p).all (opOk orc T st ops Ev cl)
def sameSh (V V':SS) (d:Nat):Bool:=match V.get d,V'.get d with
 | some (.val s _),some (.val s' _) => decide (s'=s)
 | _,_ => false
def keptOk (T:Tbl) (P:Program) (N:Fr) (orc:Nat→List TV) (st:Eff) (ops:Array Oper) (Ev:List VEnt) (cl:List Nat) (i:Nat):Bool:=match ops[i]? with
 | none => true
 | some o => match o.op with
   | .store t X _ => if keepO (orc (keyO o)) then match (opd T (vw st Ev cl i) t X).map (derefV (vw st Ev cl i)),stepG T P N orc (vw st Ev cl i) ops o with
    | some (.addr d p),some (S2,_) => sameSh (vw st Ev cl i) S2 d && (Ev.all fun e => (!(kpE st i e.1) || keptE (vw st Ev cl i) S2 d p e.1) && (!(keptE (vw st Ev cl i) S2 d p e.1) || Ev.all fun e2 => !(e2.1.2.refs e.1.1) && !(e2.1.2.tests e.1.1)))
    | _,_ => false
     else Ev.all fun e => !(kpE st i e.1)
   | _ => Ev.all fun e => !(kpE st i e.1)
def valY (T:Tbl) (P:Program) (N:Fr) (orc:Nat→List TV) (st:Eff) (ops:Array Oper) (Ev:List VEnt) (cl:List Nat) (i:Nat):List (Option SV) × List Prop:=match ops[i]? with
 | none => ([],[False])
 | some o => match stepG T P N orc (vw st Ev cl i) ops o with
   | some (S',c) => ([S'.get ((effO st ops i).getD 0)],c)
   | none => ([],[False])
def expY (Ev:List VEnt) (i:Nat):List (Option SV):=(Ev.filter fun e => match e.2.1 with | some j => Nat.beq j i | none => false).map fun e => some e.1.2
def stepsN (T:Tbl) (P:Program) (N:Fr) (orc:Nat→List TV) (ops:Array Oper):List Oper→SS→SP
 | [],S => some (S,[])
 | o :: r,S => match stepG T P N orc S ops o with
   | some (S1,c1) => match stepsN T P N orc ops r S1 with
     | some (S2,c2) => some (S2,c1 ++ c2)
     | none => none
   | none => none
theorem stepsN_of {T:Tbl} {P:Program} {N:Fr} {orc:Nat→List TV} {ops:Array Oper}:∀ {l:List Oper} {S S2:SS} {c:List Prop},steps T P N orc ops l S=some (S2,c)→∃ c',stepsN T P N orc ops l S=some (S2,c') ∧ (AllP c→AllP c')
 | [],S,S2,c,h => by cases h; exact ⟨[],rfl,id⟩
 | o :: r,S,S2,c,h => by
   simp only [steps] at h
   split at h
   ·rename_i S1 c1 h1
    split at h
    ·rename_i S3 c2 h2
     cases h
     obtain ⟨c',k1,k2⟩:=stepsN_of h2
     exact ⟨c1 ++ c',by simp only [stepsN,h1,k1],fun hc => AllP.append hc.left.right (k2 hc.right)⟩
    ·cases h
   ·cases h
def insE:List VEnt→VEnt→List VEnt
 | [],e => [e]
 | x :: r,e => if e.1.1 < x.1.1 then e :: x :: r else x :: insE r e
def evStep (st:Eff) (Ev:List VEnt) (i d:Nat) (ks:List Nat) (sv:SV):List VEnt :=
 insE (Ev.map fun e => if e.2.2.isNone && !(kpE st i e.1) && (Nat.beq e.1.1 d || e.1.2.refs d || e.1.2.tests d || hitK ks e.1) then (e.1,e.2.1,some i) else e) ((d,sv),some i,none)
def evs (T:Tbl) (P:Program) (N:Fr) (orc:Nat→List TV) (st:Eff) (ops:Array Oper):Nat→List Oper→SS→List VEnt→List VEnt
 | _,[],_,Ev => Ev
 | i,o :: r,S,Ev => match stepG T P N orc S ops o with
   | some (S1,_) => match effO st ops i with
     | some d => match S1.get d with
       | some sv => evs T P N orc st ops (i+1) r S1 (evStep st Ev i d (kl st i) sv)
       | none => []
     | none => []
   | none => []
def restE (Ev:List VEnt) (i:Nat):SS:=(Ev.filter fun e => !(match e.2.1 with | some j => Nat.beq j i | none => false)).map (·.1)
def pathsA (orc:Nat→List TV) (st:Eff) (Ev:List VEnt) (cl:List Nat) (ops:Array Oper) (i:Nat):Option (List Path):=match ops[i]? with
 | some o => (tgtG (orc (keyO o)) (vw st Ev cl i) o).map fun q => ((restE Ev i).filter fun e => e.2.refs q.1).map fun e => e.2.pathTo q.2
 | none => none
def pathsB (orc:Nat→List TV) (st:Eff) (Ev:List VEnt) (cl:List Nat) (ops:Array Oper) (i:Nat):Option (List Path):=match ops[i]? with
 | some o => (tgtG (orc (keyO o)) (vw st Ev cl i) o).map fun q => (((restE Ev i).filter fun e => e.2.refs q.1).map fun e => e.2.pathTo q.2).map fun r => q.2.take r.length
 | none => none
abbrev YS:=List (List (Option SV)) × List Prop × SS × SS × Bool × List (Option (List Path))
def yA (T:Tbl) (P:Program) (N:Fr) (orc:Nat→List TV) (fz:List Nat) (st:Eff) (ops:Array Oper) (p:Nat) (S:SS) (md:Region.Mode):Option YS :=
 match S.freezeL fz with
 | some S0 => match stepsN T P N orc ops (ops.toList.take p) S0,evs T P N orc st ops 0 (ops.toList.take p) S0 (S0.map fun e => (e,none,none)) with
   | some (Sn,c1),Ev => some ((List.range p).map (fun i => (valY T P N orc st ops Ev (cloOf md ops) i).1),(List.range p).flatMap (fun i => (valY T P N orc st ops Ev (cloOf md ops) i).2),view Ev 0,view Ev (1 <<< p - 1),numOk orc T md st ops p Ev (cloOf md ops) && (List.range p).all (keptOk T P N orc st ops Ev (cloOf md ops)),(List.range p).map (pathsA orc st Ev (cloOf md ops) ops))
   | none,_ => none
 | none => none
def yB (T:Tbl) (P:Program) (N:Fr) (orc:Nat→List TV) (fz:List Nat) (st:Eff) (ops:Array Oper) (p:Nat) (S:SS) (md:Region.Mode):Option YS :=
 match S.freezeL fz with
 | some S0 => match stepsN T P N orc ops (ops.toList.take p) S0,evs T P N orc st ops 0 (ops.toList.take p) S0 (S0.map fun e => (e,none,none)) with
   | some (Sn,c1),Ev => some ((List.range p).map (expY Ev),c1,S0,Sn,true,(List.range p).map (pathsB orc st Ev (cloOf md ops) ops))
   | none,_ => some ([],[],[],[],true,[])
 | none => some ([],[],[],[],true,[])
theorem AllP.flat {α:Type} {f:α→List Prop}:∀ {l:List α},AllP (l.flatMap f)→∀ x ∈ l,AllP (f x)
 | [],_,x,hx => absurd hx List.not_mem_nil
 | y :: r,h,x,hx => by
   rw [List.flatMap_cons] at h
   rcases List.mem_cons.1 hx with rfl | hx
   ·exact h.left
   ·exact AllP.flat h.right x hx
theorem steps_append {T:Tbl} {P:Program} {N:Fr} {orc:Nat→List TV} {ops:Array Oper}:∀ {l1 l2:List Oper} {S S2:SS} {c:List Prop},steps T P N orc ops (l1 ++ l2) S=some (S2,c) →
 ∃ S1 c1 c2,steps T P N orc ops l1 S=some (S1,c1)∧steps T P N orc ops l2 S1=some (S2,c2)∧c=c1 ++ c2
 | [],l2,S,S2,c,h => ⟨S,[],c,rfl,h,rfl⟩
 | o :: r,l2,S,S2,c,h => by
   simp only [List.cons_append,steps] at h
   split at h
   ·rename_i S1 c1 h1
    split at h
    ·rename_i S3 c3 h3
     cases h
     obtain ⟨S4,c4,c5,k1,k2,rfl⟩:=steps_append h3
     exact ⟨S4,(sideG (orc (keyO o)) S o ++ c1) ++ c4,c5,by simp only [steps,h1,k1],k2,by simp⟩
    ·cases h
   ·cases h
section
variable {P:Program} {T:Tbl} {w0:World} {Wr Zi:Fp} {N:Fr} {S S' S1 Sn Sf:SS} {a:Act} {w:World} {Q:Exit→Act→World→Prop}
variable {orc:Nat→List TV} {md:Region.Mode} {ops:Array Oper} {p:Nat} {cl:List Nat} {st:Eff} {Ev:List VEnt}
theorem Rel.fewer (h:Rel w0 Wr Zi N S a w) (hs:∀ e,e ∈ S'→e ∈ S) (hh:∀ s sv,(s,sv) ∈ S'→∀ k,sv.refs k=true→∀ s1 x1,(k,SV.val s1 x1) ∈ S → (k,SV.val s1 x1) ∈ S'):Rel w0 Wr Zi N S' a w:=by
 obtain ⟨Z,F,h⟩:=h
 exact ⟨Z,F,h.sub hs hh⟩
structure NumOk (orc:Nat→List TV) (T:Tbl) (md:Region.Mode) (st:Eff) (ops:Array Oper) (p:Nat) (Ev:List VEnt) (cl:List Nat):Prop where
 le:p≤ops.size
 clo:∀ i o,ops[i]?=some o → (∀ e ∈ o.after,Region.binds md e=true→e.on < ops.size∧rkOf md ops cl e.on < rkOf md ops cl i)∧∀ j,j < ops.size → (cl.getD i 0).testBit j=true→∃ e ∈ o.after,Region.binds md e=true ∧ (e.on=j ∨ (cl.getD e.on 0).testBit j=true)
 tail:∀ q,q < ops.size→p≤q→∀ j,j < q → (cl.getD q 0).testBit j=true
 uniq:∀ e1 ∈ Ev,∀ e2 ∈ Ev,e1=e2∨ordE cl e1 e2=true∨ordE cl e2 e1=true
 made:∀ e ∈ Ev,∀ i,e.2.1=some i→i < p∧effO st ops i=some e.1.1
 gone:∀ e ∈ Ev,∀ g,e.2.2=some g→g < p ∧ (∀ i,e.2.1=some i→inC cl g i=true)∧∃ d,effO st ops g=some d ∧ (d=e.1.1∨e.1.2.refs d=true∨e.1.2.tests d=true∨hitK (kl st g) e.1=true)
 subE:∀ e ∈ Ev,∀ g,e.2.2=some g→∀ j,j < p→j=g∨inC cl g j=true ∨ (alive (cl.getD j 0) e && onlyB st j e.1)=false
 flat:∀ e ∈ Ev,e.1.2.flat=true
 ent:∀ e ∈ Ev,∀ i d,i < p→effO st ops i=some d→kpE st i e.1=false→e.1.2.refs d=true∨e.1.2.tests d=true∨hitK (kl st i) e.1=true → (∃ j,e.2.1=some j∧inC cl j i=true)∨∃ g,e.2.2=some g ∧ (g=i∨inC cl i g=true)
 op:∀ i,i < p→opOk orc T st ops Ev cl i=true
theorem uniqB_ok:∀ {L:List VEnt},uniqB cl L=true→∀ e1 ∈ L,∀ e2 ∈ L,e1=e2∨ordE cl e1 e2=true∨ordE cl e2 e1=true
 | [],_,e1,h1,_,_ => absurd h1 List.not_mem_nil
 | x :: r,h,e1,h1,e2,h2 => by
   simp only [uniqB,Bool.and_eq_true] at h
   rcases List.mem_cons.1 h1 with rfl | m1 <;> rcases List.mem_cons.1 h2 with rfl | m2
   ·exact .inl rfl
   ·exact .inr (.inl (List.all_eq_true.1 h.1 _ m2))
   ·exact .inr (.inr (List.all_eq_true.1 h.1 _ m1))
   ·exact uniqB_ok h.2 e1 m1 e2 m2
theorem numOk_ok (h:numOk orc T md st ops p Ev cl=true):NumOk orc T md st ops p Ev cl:=by
 unfold numOk at h
 simp only [Bool.and_eq_true,decide_eq_true_eq] at h
 obtain ⟨⟨⟨⟨⟨h1,h2⟩,h3⟩,h4⟩,h5⟩,h6⟩:=h
 have hE:∀ e ∈ Ev,entB cl st ops p e=true:=List.all_eq_true.1 h5
 refine ⟨h1,?_,?_,uniqB_ok h4,?_,?_,?_,?_,?_,fun i hi => List.all_eq_true.1 h6 i (by simpa using hi)⟩
 ·intro i o ho
  have hi:i < ops.size:=(Array.getElem?_eq_some_iff.1 ho).1
  have:=List.all_eq_true.1 h2 i (by simpa using hi)
  rw [ho] at this
  simp only [Bool.and_eq_true] at this
  refine ⟨fun e he hb => ?_,fun j hj hb => ?_⟩
  ·obtain ⟨q,hq,rfl⟩:=Array.mem_iff_getElem.1 he
   have:=Array.all_eq_true.1 this.1 q hq
   rw [hb] at this
   simpa using this
  ·have h':=List.all_eq_true.1 this.2 j (by simpa using hj)
   rw [hb] at h'
   simp only [Bool.not_true,Bool.false_or] at h'
   obtain ⟨q,hq,he⟩:=Array.any_eq_true.1 h'
   simp only [Bool.and_eq_true,Bool.or_eq_true] at he
   exact ⟨_,Array.getElem_mem hq,he.1,he.2.imp (fun x => by simpa using x) id⟩
 ·intro q hq hp j hj
  have:=List.all_eq_true.1 h3 q (by simpa using hq)
  simp only [Bool.or_eq_true,decide_eq_true_eq] at this
  rcases this with h' | h'
  ·omega
  ·exact List.all_eq_true.1 h' j (by simpa using hj)
 ·intro e he i hi
  have:=hE e he
  unfold entB at this
  simp only [Bool.and_eq_true] at this
  have:=this.1.1.1.1
  rw [hi] at this
  simp only [Bool.and_eq_true,decide_eq_true_eq] at this
  refine ⟨this.1,?_⟩
  have h':=this.2
  split at h'
  ·rename_i d hd; rw [hd]; congr 1; simpa using h'
  ·cases h'
 ·intro e he g hg
  have:=hE e he
  unfold entB at this
  simp only [Bool.and_eq_true] at this
  have:=this.1.1.1.2
  rw [hg] at this
  simp only [Bool.and_eq_true,decide_eq_true_eq] at this
  refine ⟨this.1.1,fun i hi => ?_,?_⟩
  ·have h':=this.1.2
   rw [hi] at h'; exact h'
  ·have h':=this.2
   split at h'
   ·rename_i d hd
    refine ⟨d,hd,?_⟩
    simp only [Bool.or_eq_true] at h'
    rcases h' with ((h' | h') | h') | h'
    ·exact .inl (by simpa using h')
    ·exact .inr (.inl h')
    ·exact .inr (.inr (.inl h'))
    ·exact .inr (.inr (.inr h'))
   ·cases h'
 ·intro e he g hg j hj
  have:=hE e he
  unfold entB at this
  simp only [Bool.and_eq_true] at this
  have:=this.1.1.2
  rw [hg] at this
  have:=List.all_eq_true.1 this j (by simpa using hj)
  simp only [Bool.or_eq_true,Bool.not_eq_true'] at this
  rcases this with (h' | h') | h'
  ·exact .inl (by simpa using (show Nat.beq g j=true from h') |> fun x => (Nat.eq_of_beq_eq_true x).symm)
  ·exact .inr (.inl h')
  ·exact .inr (.inr h')
 ·intro e he
  have:=hE e he
  unfold entB at this
  simp only [Bool.and_eq_true] at this
  exact this.1.2
 ·intro e he i d hi hd hkp hr
  have:=hE e he
  unfold entB at this
  simp only [Bool.and_eq_true] at this
  have:=List.all_eq_true.1 this.2 i (by simpa using hi)
  rw [hd] at this
  simp only at this
  have hr':(e.1.2.refs d || e.1.2.tests d || hitK (kl st i) e.1)=true:=by
   simp only [Bool.or_eq_true]
   rcases hr with h' | h' | h'
   ·exact .inl (.inl h')
   ·exact .inl (.inr h')
   ·exact .inr h'
  rw [hr',hkp] at this
  simp only [Bool.not_true,Bool.false_or,Bool.or_eq_true] at this
  rcases this with h' | h'
  ·split at h'
   ·rename_i j hj; exact .inl ⟨j,hj,h'⟩
   ·cases h'
  ·split at h'
   ·rename_i g hg
    simp only [Bool.or_eq_true] at h'
    exact .inr ⟨g,hg,h'.imp (fun x => Nat.eq_of_beq_eq_true x) id⟩
   ·cases h'
def Closed (ops:Array Oper) (cl:List Nat) (m:Nat):Prop:=∀ i,i < ops.size→m.testBit i=true→∀ j,j < ops.size → (cl.getD i 0).testBit j=true→m.testBit j=true
theorem ready_clo (hN:NumOk orc T md st ops p Ev cl) {m i:Nat} (hm:Closed ops cl m) (hi:i ∈ readyM md ops m):i < ops.size∧m.testBit i=false ∧ (∃ o,ops[i]?=some o)∧∀ j,j < ops.size → (cl.getD i 0).testBit j=true→m.testBit j=true:=by
 have hlt:=ready_lt hi
 unfold readyM at hi
 have h2:=(List.mem_filter.1 hi).2
 simp only [Bool.and_eq_true,Bool.not_eq_true'] at h2
 have ho:ops[i]?=some ops[i]:=Array.getElem?_eq_getElem hlt
 rw [ho] at h2
 simp only [Option.map_some,Option.getD_some] at h2
 refine ⟨hlt,h2.1,⟨_,ho⟩,fun j hj hb => ?_⟩
 obtain ⟨hlt',hc⟩:=hN.clo i _ ho
 obtain ⟨e,he,hbd,hor⟩:=hc j hj hb
 have hon:m.testBit e.on=true:=by
  obtain ⟨q,hq,rfl⟩:=Array.mem_iff_getElem.1 he
  have:=Array.all_eq_true.1 h2.2 q hq
  rw [hbd] at this
  simpa using this
 rcases hor with rfl | hor
 ·exact hon
 ·exact hm e.on (hlt' e he hbd).1 hon j hj hor
theorem closed_add (hN:NumOk orc T md st ops p Ev cl) {m i:Nat} (hm:Closed ops cl m) (hi:i ∈ readyM md ops m):Closed ops cl (m ||| (1 <<< i)):=by
 obtain ⟨hlt,h0,_,hc⟩:=ready_clo hN hm hi
 intro k hk hb j hj hcb
 rw [testBit_add] at hb ⊢
 simp only [Bool.or_eq_true,decide_eq_true_eq] at hb ⊢
 rcases hb with hb | rfl
 ·exact .inl (hm k hk hb j hj hcb)
 ·exact .inl (hc j hj hcb)
theorem ready_nil (hN:NumOk orc T md st ops p Ev cl) {m:Nat} (h:readyM md ops m=[]):∀ i,i < ops.size→m.testBit i=true:=by
 suffices key:∀ r i,rkOf md ops cl i=r→i < ops.size→m.testBit i=true from fun i hi => key _ i rfl hi
 intro r
 induction r using Nat.strongRecOn with
 | _ r ih =>
   intro i hr hi
   cases hb:m.testBit i with
   | true => rfl
   | false =>
     exfalso
     have ho:ops[i]?=some ops[i]:=Array.getElem?_eq_getElem hi
     have:i ∈ readyM md ops m:=by
      unfold readyM
      refine List.mem_filter.2 ⟨by simpa using hi,?_⟩
      rw [hb,ho]
      simp only [Bool.not_false,Bool.true_and,Option.map_some,Option.getD_some]
      refine Array.all_eq_true.2 fun q hq => ?_
      cases hbd:Region.binds md (ops[i].after[q]) with
      | false => rfl
      | true =>
        obtain ⟨hlt,hrk⟩:=(hN.clo i _ ho).1 _ (Array.getElem_mem hq) hbd
        simp [ih _ (hr ▸ hrk) _ rfl hlt]
     rw [h] at this
     exact absurd this List.not_mem_nil
theorem alive_iff {m:Nat} {e:VEnt}:alive m e=true ↔ (∀ i,e.2.1=some i→m.testBit i=true)∧∀ g,e.2.2=some g→m.testBit g=false:=by
 obtain ⟨⟨k,v⟩,q,g⟩:=e
 unfold alive
 cases q <;> cases g <;> simp
theorem view_uniq (hN:NumOk orc T md st ops p Ev cl) {m:Nat} (hm:Closed ops cl m):∀ k v1 v2,(k,v1) ∈ view Ev m → (k,v2) ∈ view Ev m→v1=v2:=by
 have key:∀ x ∈ Ev,∀ y ∈ Ev,alive m x=true→alive m y=true→x.1.1=y.1.1→ordE cl x y=true→False:=by
  intro x hx y hy ax ay hs ho
  unfold ordE at ho
  rw [hs] at ho
  simp only [Nat.beq_refl,Bool.not_true,Bool.false_or] at ho
  split at ho
  ·rename_i g g2 h1 h2
   have b2:=(alive_iff.1 ay).1 g2 h2
   have b1:=(alive_iff.1 ax).2 g h1
   simp only [Bool.or_eq_true] at ho
   rcases ho with ho | ho
   ·have:g=g2:=Nat.eq_of_beq_eq_true ho
    rw [this,b2] at b1; cases b1
   ·have:=hm g2 (Nat.lt_of_lt_of_le (hN.made y hy g2 h2).1 hN.le) b2 g (Nat.lt_of_lt_of_le (hN.gone x hx g h1).1 hN.le) ho
    rw [this] at b1; cases b1
  ·cases ho
 intro k v1 v2 h1 h2
 obtain ⟨x,hx,ax,ex⟩:=mem_view.1 h1
 obtain ⟨y,hy,ay,ey⟩:=mem_view.1 h2
 have hs:x.1.1=y.1.1:=by rw [ex,ey]
 rcases hN.uniq x hx y hy with rfl | ho | ho
 ·rw [ex] at ey; simpa using ey
 ·exact (key x hx y hy ax ay hs ho).elim
 ·exact (key y hy x hx ay ax hs.symm ho).elim
theorem view_sub (hN:NumOk orc T md st ops p Ev cl) {m i:Nat} (hp:i < p) (h0:m.testBit i=false) (hm:Closed ops cl m) (hc:∀ j,j < ops.size → (cl.getD i 0).testBit j=true→m.testBit j=true):Sub (vw st Ev cl i) (view Ev m) where
 le k v hv:=by
  obtain ⟨hv1,hv2⟩:=List.mem_filter.1 (SS.get_mem hv)
  obtain ⟨x,hx,ax,ex⟩:=mem_view.1 hv1
  refine mem_getU (view_uniq hN hm) (mem_view.2 ⟨x,hx,alive_iff.2 ⟨fun j hj => ?_,fun g hg => ?_⟩,ex⟩)
  ·exact hc j (Nat.lt_of_lt_of_le (hN.made x hx j hj).1 hN.le) ((alive_iff.1 ax).1 j hj)
  ·rcases hN.subE x hx g hg i hp with rfl | h' | h'
   ·exact h0
   ·cases hb:m.testBit g with
    | false => rfl
    | true =>
      have:=hm g (Nat.lt_of_lt_of_le (hN.gone x hx g hg).1 hN.le) hb i (Nat.lt_of_lt_of_le hp hN.le) h'
      rw [h0] at this; cases this
   ·rw [ax,ex,hv2] at h'; cases h'
 closed:=by
  have:=hN.op i hp
  unfold opOk at this
  split at this
  ·cases this
  ·simp only [Bool.and_eq_true] at this
   exact this.1
theorem side_view {orc:List TV} {V S R:SS} {o:Oper} (h:Sub V S) (hi:(opsOf o).all (inV V)=true) (hm:∀ e,e ∈ S→e ∈ R) (hq:((tgtG orc V o).map fun q => (R.filter fun e => e.2.refs q.1).map fun e => e.2.pathTo q.2) = (tgtG orc V o).map fun q => ((R.filter fun e => e.2.refs q.1).map fun e => e.2.pathTo q.2).map fun r => q.2.take r.length):AllP (sideG orc S o):=by
 have ht:tgtG orc S o=tgtG orc V o:=by
  unfold tgtG
  split
  ·split
   ·rename_i c ho
    split
    ·rename_i s r he
     have:inV V (.tmp s)=true:=by
      have:=List.all_eq_true.1 hi (.tmp s) (by simp only [opsOf,ho,he]; exact List.mem_append_right _ List.mem_cons_self)
      exact this
     rw [h.get (k:=s) (by simpa [inV] using this)]
    ·rfl
   ·rfl
  ·rfl
 unfold sideG
 unfold sideQ
 rw [ht]
 cases hv:tgtG orc V o with
 | none => trivial
 | some q =>
   rw [hv] at hq
   simp only [Option.map_some,Option.some.injEq] at hq
   exact ⟨PrefOk.mono (S:=R) hq hm,trivial⟩
theorem keepL_old {S1 S0:SS} {k:Nat} {q:Path}:∀ {l:List (Nat × SV)} {acc:SS} {e:Nat × SV},e ∈ acc → (∀ x ∈ l,keptE S1 S0 k q x=true→e.1≠x.1∧e.2.refs x.1=false∧e.2.tests x.1=false)→e ∈ keepL S1 S0 k q l acc
 | [],acc,e,h,_ => h
 | x :: r,acc,e,h,hn => by
   simp only [keepL]
   refine keepL_old ?_ (fun y hy => hn y (List.mem_cons_of_mem _ hy))
   split
   ·rename_i hx
    exact SS.mem_put.2 (.inr ⟨h,hn x List.mem_cons_self hx⟩)
   ·exact h
theorem keepL_new {S1 S0:SS} {k:Nat} {q:Path}:∀ {l:List (Nat × SV)} {acc:SS} {e:Nat × SV},e ∈ l→keptE S1 S0 k q e=true → (∀ x ∈ l,keptE S1 S0 k q x=true→x.1=e.1→x=e)→e ∈ keepL S1 S0 k q l acc
 | x :: r,acc,e,h,he,hu => by
   have keep:∀ y ∈ r,keptE S1 S0 k q y=true→∀ acc:SS,e ∈ acc→e ∈ acc.put y.1 y.2:=fun y hy hky acc hm => by
    by_cases hye:y.1=e.1
    ·rw [hu y (List.mem_cons_of_mem _ hy) hky hye]; exact SS.mem_put.2 (.inl rfl)
    ·obtain ⟨p0,e2,_⟩:=keptE_copy he
     obtain ⟨_,_,hne,_⟩:=keptE_copy hky
     exact SS.mem_put.2 (.inr ⟨hm,fun h' => hye h'.symm,by rw [e2]; simp only [SV.refs]; simpa using Ne.symm hne,by rw [e2]; rfl⟩)
   have go:∀ (r':List (Nat × SV)) (acc:SS),(∀ y ∈ r',y ∈ r)→e ∈ acc→e ∈ keepL S1 S0 k q r' acc:=by
    intro r'
    induction r' with
    | nil => intro acc _ hm; exact hm
    | cons y r' ih =>
      intro acc hs hm
      simp only [keepL]
      refine ih _ (fun z hz => hs z (List.mem_cons_of_mem _ hz)) ?_
      split
      ·rename_i hky; exact keep y (hs y List.mem_cons_self) hky acc hm
      ·exact hm
   simp only [keepL]
   rcases List.mem_cons.1 h with rfl | h
   ·rw [if_pos he]
    exact go r _ (fun _ => id) (SS.mem_put.2 (.inl rfl))
   ·exact keepL_new h he (fun y hy => hu y (List.mem_cons_of_mem _ hy))
theorem keepL_from {S1 S0:SS} {k:Nat} {q:Path}:∀ {l:List (Nat × SV)} {acc:SS} {e:Nat × SV},e ∈ keepL S1 S0 k q l acc→e ∈ acc∨∃ k' p',e.2=.copy k' p'
 | [],acc,e,h => .inl h
 | x :: r,acc,e,h => by
   simp only [keepL] at h
   rcases keepL_from h with h' | h'
   ·split at h'
    ·rename_i hx
     rcases SS.mem_put.1 h' with h' | h'
     ·obtain ⟨p0,e2,_⟩:=keptE_copy hx
      exact .inr ⟨k,p0,by rw [h',e2]⟩
     ·exact .inl h'.1
    ·exact .inl h'
   ·exact .inr h'
theorem get_kill {d q:Nat} {s:Sh} {x:s.den} (hq:d≠q):∀ {S:SS},S.get d=some (.val s x) → (S.kill q).get d=some (.val s x)
 | [],h => by cases h
 | (k,v) :: r,h => by
   simp only [SS.get] at h
   split at h
   ·rename_i hk
    subst hk
    cases h
    have:(SS.kill ((k,SV.val s x) :: r) q) = (k,SV.val s x) :: SS.kill r q:=by
     unfold SS.kill
     rw [List.filter_cons_of_pos]
     simp [SV.refs,SV.tests,hq]
    rw [this]; simp [SS.get]
   ·rename_i hk
    have ih:=get_kill (S:=r) hq h
    unfold SS.kill at ih ⊢
    rw [List.filter_cons]
    split
    ·simp only [SS.get,hk,if_false]; exact ih
    ·exact ih
theorem get_ins {d q:Nat} {v:SV} (hq:d≠q):∀ {S:SS},(S.ins q v).get d=S.get d
 | [] => by simp [SS.ins,SS.get,Ne.symm hq]
 | (k,u) :: r => by
   simp only [SS.ins]
   split
   ·simp [SS.get,Ne.symm hq]
   ·simp only [SS.get,get_ins hq (S:=r)]
theorem keepL_get {S1 S0:SS} {k:Nat} {q:Path} {s:Sh} {x:s.den}:∀ {l:List (Nat × SV)} {acc:SS},acc.get k=some (.val s x) → (keepL S1 S0 k q l acc).get k=some (.val s x)
 | [],acc,h => h
 | e :: r,acc,h => by
   simp only [keepL]
   refine keepL_get ?_
   split
   ·rename_i he
    obtain ⟨p0,e2,hne,_⟩:=keptE_copy he
    unfold SS.put
    rw [get_ins (Ne.symm hne)]
    exact get_kill (Ne.symm hne) h
   ·exact h
theorem keepX_get {b:Bool} {S S0:SS} {k:Nat} {q:Path} {s:Sh} {x:s.den} (h:S0.get k=some (.val s x)):(keepX b S S0 k q).get k=some (.val s x):=by
 unfold keepX keepC
 split
 ·split
  ·split
   ·exact keepL_get h
   ·exact h
  ·exact h
 ·exact h
theorem sameSh_keepC {S S0:SS} {d:Nat} {q:Path} (h:sameSh S S0 d=true):keepC S S0 d q=keepL S S0 d q S S0:=by
 unfold sameSh at h
 unfold keepC
 split at h
 ·rename_i s x s' x' h1 h2
  rw [h1,h2]
  simp only
  rw [if_pos (of_decide_eq_true h)]
 ·cases h
theorem view_step (hT:TOk P T) (hN:NumOk orc T md st ops p Ev cl) {m i:Nat} (hm:Closed ops cl m) (hi:i ∈ readyM md ops m) (hp:i < p) {K:Act→World→Prop}
 (hkO:keptOk T P N orc st ops Ev cl i=true) (hv:(valY T P N orc st ops Ev cl i).1=expY Ev i) (hcd:AllP (valY T P N orc st ops Ev cl i).2) (hpq:pathsA orc st Ev cl ops i=pathsB orc st Ev cl ops i) (h:Rel w0 Wr Zi N (view Ev m) a w)
 (hK:∀ a' w',Rel w0 Wr Zi N (view Ev (m ||| (1 <<< i))) a' w'→K a' w'):wpOp P ops Q i K a w:=by
 obtain ⟨hlt,h0,⟨o,ho⟩,hc⟩:=ready_clo hN hm hi
 have hop:=hN.op i hp
 unfold opOk at hop
 rw [ho] at hop
 simp only [Bool.and_eq_true] at hop
 have hsub:=view_sub hN hp h0 hm hc
 have hfl:((view Ev m).all fun e => e.2.flat)=true:=List.all_eq_true.2 fun e he => by
  obtain ⟨x,hx,_,rfl⟩:=mem_view.1 he
  exact hN.flat x hx
 have hrest:∀ e,e ∈ view Ev m→e ∈ restE Ev i:=fun e he => by
  obtain ⟨x,hx,ax,rfl⟩:=mem_view.1 he
  refine List.mem_map.2 ⟨x,List.mem_filter.2 ⟨hx,?_⟩,rfl⟩
  cases hq:x.2.1 with
  | none => rfl
  | some j =>
    simp only [Bool.not_eq_true']
    cases hb:Nat.beq j i with
    | false => rfl
    | true =>
      have:j=i:=Nat.eq_of_beq_eq_true hb
      subst this
      have:=(alive_iff.1 ax).1 j hq
      rw [h0] at this; cases this
 unfold valY at hv hcd
 rw [ho] at hv hcd
 simp only at hv hcd
 split at hv
 ·rename_i S2 c hst
  rw [hst] at hcd
  simp only at hcd hv
  have inEv:∀ e ∈ view Ev m,∃ x ∈ Ev,x.1=e:=fun e he => by
   obtain ⟨x,hx,_,h'⟩:=mem_view.1 he
   exact ⟨x,hx,h'⟩
  have nokp:o.dst≠none→∀ e ∈ view Ev m,kpE st i e=true→False:=fun hnd e he hk => by
   obtain ⟨x,hx,rfl⟩:=inEv e he
   have hall:(Ev.all fun e => !(kpE st i e.1))=true:=by
    unfold keptOk at hkO
    rw [ho] at hkO
    simp only at hkO
    split at hkO
    ·rename_i t X Y hopE
     cases hd:o.dst with
     | none => exact absurd hd hnd
     | some d =>
       exfalso
       unfold stepG at hst
       split at hst
       ·simp only [step,hopE] at hst
        unfold sStore at hst
        rw [hd] at hst
        split at hst
        ·rw [if_neg (by simp)] at hst; cases hst
        ·split at hst
         ·rename_i e1 _; cases e1
         ·cases hst
       ·unfold gstep at hst
        split at hst
        ·split at hst
         ·split at hst
          ·rename_i hp
           simp [pureOp,hopE] at hp
          ·cases hst
         ·cases hst
        ·cases hst
    ·exact hkO
   have:=List.all_eq_true.1 hall x hx
   rw [hk] at this; cases this
  have main:∃ d sv S9,effO st ops i=some d∧S2.get d=some sv∧stepG T P N orc (view Ev m) ops o=some (S9,c) ∧ (∀ e,((∃ x ∈ Ev,x.1=e)∨e = (d,sv))→e ∈ ((view Ev m).killL (kl st i)).put d sv→e ∈ S9) ∧ (∀ e ∈ view Ev m,kpE st i e=true→e ∈ S9) ∧ (∀ e ∈ S9,e ∈ ((view Ev m).killL (kl st i)).put d sv∨∃ k p,e.2=.copy k p)∧AllP (sideG (orc (keyO o)) (view Ev m) o):=by
   cases hd:o.dst with
   | some d =>
     rw [hd] at hop
     simp only at hop
     by_cases htk:tkB st i=true
     ·rw [if_pos htk] at hop
      simp only [Bool.and_eq_true,Bool.not_eq_true'] at hop
      obtain ⟨_,⟨⟨q1,q2⟩,q3⟩,q4⟩:=hop
      have hgd:o.guard=none:=by cases hg:o.guard <;> simp_all
      have hks:tkOp (orc (keyO o)) T (vw st Ev cl i) o=some (kl st i):=by
       split at q2
       ·rename_i ks e; rw [e,eq_of_beq q2]
       ·cases q2
      have hst':step T P N (orc (keyO o)) (vw st Ev cl i) o=some (S2,c):=by
       have:=hst
       unfold stepG at this
       rw [hgd] at this
       exact this
      obtain ⟨d',sv,k1,k2,k3⟩:=step_takes hsub (uqB_ok q3) (view_uniq hN hm) hks hst'
      rw [hd] at k1
      obtain rfl:d=d':=by simpa using k1
      refine ⟨d,sv,_,?_,by rw [k2]; exact SS.get_put_same,?_,fun e _ h => h,fun e he hk => (nokp (by rw [hd]; simp) e he hk).elim,fun e he => .inl he,?_⟩
      ·unfold effO; rw [ho]; simp only [hd]
      ·unfold stepG
       rw [hgd]
       exact k3
      ·rw [sideG_not q4]; trivial
     rw [if_neg htk] at hop
     have hkl:kl st i=[]:=kl_nil htk
     rw [hkl]
     simp only [Bool.and_eq_true] at hop
     obtain ⟨d',sv,k1,k2,k3⟩:=stepG_frame hsub hfl hop.2.1 hop.2.2 hst
     rw [hd] at k1
     obtain rfl:d=d':=by simpa using k1
     refine ⟨d,sv,_,?_,k2,k3,fun e _ h => h,fun e he hk => (nokp (by rw [hd]; simp) e he hk).elim,fun e he => .inl he,?_⟩
     ·unfold effO; rw [ho]; simp only [hd]
     ·refine side_view hsub hop.2.2 hrest ?_
      unfold pathsA pathsB at hpq
      simp only [ho,hd] at hpq
      exact hpq
   | none =>
     rw [hd] at hop
     simp only [Bool.and_eq_true,Bool.not_eq_true'] at hop
     obtain ⟨_,⟨hgd,hntk⟩,hop⟩:=hop
     have hkl:kl st i=[]:=kl_nil (by rw [hntk]; simp)
     rw [hkl]
     have hgd:o.guard=none:=by cases hg:o.guard <;> simp_all
     split at hop
     ·rename_i t X Y hopE
      simp only [Bool.and_eq_true,Bool.not_eq_true'] at hop
      obtain ⟨⟨⟨⟨q1,q2⟩,q3⟩,q4⟩,q5⟩:=hop
      have hst':sStore T (orc (keyO o)) (vw st Ev cl i) o t X Y=some (S2,c):=by
       have:=hst
       unfold stepG at this
       rw [hgd] at this
       simp only [step,hopE] at this
       exact this
      obtain ⟨d,sv0,pp,k1,k2,k4,⟨s0,x0,hsv0⟩,k3⟩:=store_frame hsub q1 q2 q3 hst'
      subst hsv0
      rw [k2] at q5
      split at q5
      ·rename_i k1' d' e1 e2
       cases e1
       have:d=d':=Nat.eq_of_beq_eq_true q5
       subst this
       have hget2:S2.get d=some (.val s0 x0):=by rw [k1]; exact keepX_get SS.get_put_same
       have hstep:stepG T P N orc (view Ev m) ops o=some (keepX (keepO (orc (keyO o))) (view Ev m) ((view Ev m).put d (.val s0 x0)) d pp,c):=by
        unfold stepG
        rw [hgd]
        simp only [step,hopE]
        exact k3
       have hsideN:AllP (sideG (orc (keyO o)) (view Ev m) o):=by rw [sideG_not q4]; trivial
       unfold keptOk at hkO
       rw [ho] at hkO
       simp only [hopE] at hkO
       cases hko:keepO (orc (keyO o)) with
       | false =>
         rw [hko] at hkO hstep
         simp only [Bool.false_eq_true,if_false] at hkO
         rw [keepX,if_neg (by simp)] at hstep
         refine ⟨d,_,_,e2,hget2,hstep,fun e _ h => h,fun e he hk => ?_,fun e he => .inl he,hsideN⟩
         obtain ⟨x,hx,rfl⟩:=inEv e he
         have:=List.all_eq_true.1 hkO x hx
         rw [hk] at this; cases this
       | true =>
         rw [hko] at hkO hstep
         simp only [if_true,k2,hst] at hkO
         rw [keepX,if_pos rfl] at hstep
         simp only [Bool.and_eq_true] at hkO
         obtain ⟨r1,r2⟩:=hkO
         have hgetS:((view Ev m).put d (.val s0 x0)).get d=some (.val s0 x0):=SS.get_put_same
         have hroot2:∀ p0,rootAt S2 d p0=rootAt ((view Ev m).put d (.val s0 x0)) d p0:=fun p0 => by
          unfold rootAt placeOf; rw [hget2,hgetS]
         have hroot1:∀ p0,rootAt (vw st Ev cl i) d p0=rootAt (view Ev m) d p0:=fun p0 => by
          unfold rootAt; rw [hsub.place k4]
         have hkept:∀ e,keptE (vw st Ev cl i) S2 d pp e=keptE (view Ev m) ((view Ev m).put d (.val s0 x0)) d pp e:=fun e => by
          unfold keptE
          split
          ·rw [hroot1,hroot2]
          ·rfl
         have hsame:sameSh (view Ev m) ((view Ev m).put d (.val s0 x0)) d=true:=by
          unfold sameSh at r1 ⊢
          rw [hsub.get k4,hgetS]
          rw [hget2] at r1
          exact r1
         rw [sameSh_keepC hsame] at hstep
         have r2':∀ x ∈ Ev,(kpE st i x.1=true→keptE (view Ev m) ((view Ev m).put d (.val s0 x0)) d pp x.1=true) ∧ (keptE (view Ev m) ((view Ev m).put d (.val s0 x0)) d pp x.1=true→∀ y ∈ Ev,y.1.2.refs x.1.1=false∧y.1.2.tests x.1.1=false):=fun x hx => by
          have:=List.all_eq_true.1 r2 x hx
          simp only [Bool.and_eq_true,hkept] at this
          refine ⟨fun hk => ?_,fun hk y hy => ?_⟩
          ·have h1:=this.1
           rw [hk] at h1
           simpa using h1
          ·have h1:=this.2
           rw [hk] at h1
           simp only [Bool.not_true,Bool.false_or] at h1
           have h2:=List.all_eq_true.1 h1 y hy
           simpa using h2
         refine ⟨d,_,_,e2,hget2,hstep,fun e hE he => ?_,fun e he hk => ?_,fun e he => ?_,hsideN⟩
         ·refine keepL_old he (fun x hx hkx => ?_)
          obtain ⟨y,hy,rfl⟩:=inEv x hx
          obtain ⟨p0,ec,hne,_⟩:=keptE_copy hkx
          rcases hE with ⟨z,hz,rfl⟩ | rfl
          ·refine ⟨fun hkey => ?_,(r2' y hy).2 hkx z hz⟩
           rcases SS.mem_put.1 he with h' | ⟨hm',_,hr',_⟩
           ·exact hne (by rw [← hkey,h'])
           ·have hu:=view_uniq hN hm y.1.1 z.1.2 y.1.2 (by rw [← hkey]; exact hm') hx
            rw [hu,ec] at hr'
            simp [SV.refs] at hr'
          ·exact ⟨fun h' => hne h'.symm,rfl,rfl⟩
         ·obtain ⟨x,hx,rfl⟩:=inEv e he
          have hke:=(r2' x hx).1 hk
          refine keepL_new he hke (fun y hy _ hye => ?_)
          have:=view_uniq hN hm y.1 y.2 x.1.2 hy (by rw [hye]; exact he)
          exact Prod.ext hye this
         ·exact keepL_from he
      ·cases q5
     ·cases hop
  obtain ⟨d,sv,S9,heff,hget,hstS,hA1,hA2,hB,hside⟩:=main
  rw [heff,Option.getD_some,hget] at hv
  obtain ⟨Z,F,hX⟩:=h
  have hdone:=stepG_ok hT hX hstS hcd hside K Q (fun a' w' h' => hK a' w' ?_)
  ·unfold wpOp
   rw [ho]
   simp only
   split
   ·rename_i hw
    rw [if_pos hw] at hdone
    exact .inl hdone
   ·rename_i hw
    rw [if_neg hw] at hdone
    exact hdone
  ·-- the entry that the operation makes
   have hmade:∀ x ∈ Ev,x.2.1=some i→x.1 = (d,sv):=fun x hx hq => by
    have h1:=(hN.made x hx i hq).2
    rw [heff] at h1
    have h2:some x.1.2 ∈ expY Ev i:=List.mem_map.2 ⟨x,List.mem_filter.2 ⟨hx,by rw [hq]; simp⟩,rfl⟩
    rw [← hv] at h2
    simp only [List.mem_singleton,Option.some.injEq] at h1 h2
    rw [h1,← h2]
   obtain ⟨y,hy,hym⟩:∃ y ∈ Ev,y.2.1=some i:=by
    have:some sv ∈ expY Ev i:=by rw [← hv]; exact List.mem_singleton.2 rfl
    obtain ⟨y,hy,_⟩:=List.mem_map.1 this
    obtain ⟨hy,hb⟩:=List.mem_filter.1 hy
    refine ⟨y,hy,?_⟩
    split at hb
    ·rename_i j hj; rw [hj]; congr 1; exact Nat.eq_of_beq_eq_true hb
    ·cases hb
   have hbit:∀ j,(m ||| (1 <<< i)).testBit j=true↔m.testBit j=true∨i=j:=fun j => by rw [testBit_add]; simp
   have hgy:∀ g,y.2.2=some g→m.testBit g=false∧g≠i:=fun g hg => by
    obtain ⟨a1,a2,_⟩:=hN.gone y hy g hg
    have a3:=a2 i hym
    refine ⟨?_,fun e => ?_⟩
    ·cases hb:m.testBit g with
     | false => rfl
     | true =>
       have:=hm g (Nat.lt_of_lt_of_le a1 hN.le) hb i hlt a3
       rw [h0] at this; cases this
    ·subst e
     have:=hc g hlt a3
     rw [h0] at this; cases this
   have hyE:y.1 = (d,sv):=hmade y hy hym
   have hself:(d,sv) ∈ view Ev (m ||| (1 <<< i)):=by
    refine mem_view.2 ⟨y,hy,alive_iff.2 ⟨fun j hj => ?_,fun g hg => ?_⟩,hyE⟩
    ·rw [hym] at hj
     obtain rfl:i=j:=by simpa using hj
     exact (hbit i).2 (.inr rfl)
    ·obtain ⟨b1,b2⟩:=hgy g hg
     rw [testBit_add,b1]
     simp [b2.symm]
   have hold:∀ x ∈ Ev,alive (m ||| (1 <<< i)) x=true→x.2.1≠some i→alive m x=true ∧ (∀ g,x.2.2=some g→g≠i):=fun x hx ax hn => by
    obtain ⟨b1,b2⟩:=alive_iff.1 ax
    have b3:∀ g,x.2.2=some g→m.testBit g=false∧g≠i:=fun g hg => by
     have:=b2 g hg
     rw [testBit_add] at this
     simp only [Bool.or_eq_false_iff,decide_eq_false_iff_not] at this
     exact ⟨this.1,fun e => this.2 e.symm⟩
    refine ⟨alive_iff.2 ⟨fun j hj => ?_,fun g hg => (b3 g hg).1⟩,fun g hg => (b3 g hg).2⟩
    rcases (hbit j).1 (b1 j hj) with h' | h'
    ·exact h'
    ·exact absurd (by rw [hj,h']) hn
   refine h'.fewer ?_ ?_
   ·intro e he
    obtain ⟨x,hx,ax,rfl⟩:=mem_view.1 he
    by_cases hq:x.2.1=some i
    ·rw [hmade x hx hq]; exact hA1 _ (.inr rfl) (SS.mem_put.2 (.inl rfl))
    ·obtain ⟨am,hgi⟩:=hold x hx ax hq
     obtain ⟨a1,a2⟩:=alive_iff.1 am
     have hslot:x.1.1≠d:=fun es => by
      have hys:y.1.1=d:=by rw [hyE]
      rcases hN.uniq x hx y hy with rfl | hord | hord
      ·exact hq hym
      ·unfold ordE at hord
       rw [es,hys] at hord
       simp only [Nat.beq_refl,Bool.not_true,Bool.false_or,hym] at hord
       split at hord
       ·rename_i g g2 e1 e2
        cases e2
        simp only [Bool.or_eq_true] at hord
        rcases hord with h' | h'
        ·exact hgi g e1 (Nat.eq_of_beq_eq_true h')
        ·have:=hc g (Nat.lt_of_lt_of_le (hN.gone x hx g e1).1 hN.le) h'
         rw [a2 g e1] at this; cases this
       ·cases hord
      ·unfold ordE at hord
       rw [es,hys] at hord
       simp only [Nat.beq_refl,Bool.not_true,Bool.false_or] at hord
       split at hord
       ·rename_i g g2 e1 e2
        have hb:=a1 g2 e2
        have b1:=(hgy g e1).1
        simp only [Bool.or_eq_true] at hord
        rcases hord with h' | h'
        ·have:g=g2:=Nat.eq_of_beq_eq_true h'
         rw [this,hb] at b1; cases b1
        ·have:=hm g2 (Nat.lt_of_lt_of_le (hN.made x hx g2 e2).1 hN.le) hb g (Nat.lt_of_lt_of_le (hN.gone y hy g e1).1 hN.le) h'
         rw [this] at b1; cases b1
       ·cases hord
     cases hkp:kpE st i x.1 with
     | true => exact hA2 _ (mem_view.2 ⟨x,hx,am,rfl⟩) hkp
     | false =>
     have hno:¬ (x.1.2.refs d=true∨x.1.2.tests d=true∨hitK (kl st i) x.1=true):=fun hr => by
      rcases hN.ent x hx i d hp heff hkp hr with ⟨j,hj,hb⟩ | ⟨g,hg,hb⟩
      ·have:=hm j (Nat.lt_of_lt_of_le (hN.made x hx j hj).1 hN.le) (a1 j hj) i hlt hb
       rw [h0] at this; cases this
      ·rcases hb with hb | hb
       ·exact hgi g hg hb
       ·have:=hc g (Nat.lt_of_lt_of_le (hN.gone x hx g hg).1 hN.le) hb
        rw [a2 g hg] at this; cases this
     simp only [not_or,Bool.not_eq_true] at hno
     exact hA1 _ (.inl ⟨x,hx,rfl⟩) (SS.mem_put.2 (.inr ⟨SS.mem_killL.2 ⟨mem_view.2 ⟨x,hx,am,rfl⟩,hitK_not hno.2.2⟩,hslot,hno.1,hno.2.1⟩))
   ·intro s sv' hm' k hk s1 x1 hmem
    rcases hB _ hmem with hmem | ⟨_,_,he⟩
    case inr => cases he
    rcases SS.mem_put.1 hmem with e | ⟨hmem,hk1,hk2,hk3⟩
    ·rw [e]; exact hself
    ·obtain ⟨hmem,hkk⟩:=SS.mem_killL.1 hmem
     obtain ⟨x,hx,ax,ex⟩:=mem_view.1 hmem
     obtain ⟨a1,a2⟩:=alive_iff.1 ax
     refine mem_view.2 ⟨x,hx,alive_iff.2 ⟨fun j hj => (hbit j).2 (.inl (a1 j hj)),fun g hg => ?_⟩,ex⟩
     rw [testBit_add,a2 g hg]
     simp only [Bool.false_or,decide_eq_false_iff_not]
     intro e
     subst e
     obtain ⟨_,_,d',q1,q2⟩:=hN.gone x hx i hg
     rw [heff] at q1
     obtain rfl:d=d':=by simpa using q1
     rw [ex] at q2
     simp only at q2 hk1 hk2 hk3
     rcases q2 with q2 | q2 | q2 | q2
     ·exact hk1 q2.symm
     ·rw [hk2] at q2; cases q2
     ·rw [hk3] at q2; cases q2
     ·exact hitK_yes q2 hkk
 ·exfalso
  rename_i hst
  rw [hst] at hcd
  exact hcd.1
theorem rel_ready {listed:Array Bool} {m:Nat} (h:Listed ops listed m):Region.ready md ops listed=readyM md ops m:=h.ready
theorem tail_ok (hT:TOk P T) (hN:NumOk orc T md st ops p Ev cl) (hQ:∀ a' w',Rel w0 Wr Zi N Sf a' w'→Q .normal a' w') :
 ∀ (fuel q m:Nat) (S:SS) (c:List Prop) (listed:Array Bool) (a:Act) (w:World),p≤q→q≤ops.size→ops.size - q≤fuel → (∀ j,j < ops.size → (m.testBit j=true↔j < q))→Closed ops cl m→Listed ops listed m →
   steps T P N orc ops (ops.toList.drop q) S=some (Sf,c)→AllP c→Rel w0 Wr Zi N S a w→wpAny P md ops Q fuel listed a w:=by
 intro fuel
 have fin:∀ (q m:Nat) (S:SS) (c:List Prop) (a:Act) (w:World),q≤ops.size → (∀ j,j < ops.size → (m.testBit j=true↔j < q))→steps T P N orc ops (ops.toList.drop q) S=some (Sf,c)→readyM md ops m=[]→Rel w0 Wr Zi N S a w→Q .normal a w:=by
  intro q m S c a w hqn hm hst hr hR
  have hall:=ready_nil hN hr
  have:q=ops.size:=by
   rcases Nat.lt_or_ge q ops.size with h' | h'
   ·have:=(hm q h').1 (hall q h'); omega
   ·omega
  subst this
  rw [List.drop_of_length_le (by simp)] at hst
  cases hst
  exact hQ _ _ hR
 induction fuel with
 | zero =>
   intro q m S c listed a w hpq hqn hf hm hcl hl hst hc hR
   have hr:readyM md ops m=[]:=by
    cases hr:readyM md ops m with
    | nil => rfl
    | cons i is =>
      have hi:i ∈ readyM md ops m:=by rw [hr]; exact List.mem_cons_self
      obtain ⟨hlt,h0,_,_⟩:=ready_clo hN hcl hi
      have:=(hm i hlt).2 (by omega)
      rw [h0] at this; cases this
   exact ⟨by rw [hl.ready]; exact hr,fin q m S c a w hqn hm hst hr hR⟩
 | succ fuel ih =>
   intro q m S c listed a w hpq hqn hf hm hcl hl hst hc hR
   refine ⟨fun hr => fin q m S c a w hqn hm hst (hl.ready ▸ hr) hR,fun i hi => ?_⟩
   rw [hl.ready] at hi
   obtain ⟨hlt,h0,⟨o,ho⟩,hcb⟩:=ready_clo hN hcl hi
   have hge:q≤i:=by
    rcases Nat.lt_or_ge i q with h' | h'
    ·have:=(hm i hlt).2 h'; rw [h0] at this; cases this
    ·exact h'
   have hiq:i=q:=by
    rcases Nat.lt_or_ge q i with h' | h'
    ·have:=(hm q (by omega)).1 (hcb q (by omega) (hN.tail i hlt (by omega) q h'))
     omega
    ·omega
   subst hiq
   have hdrop:ops.toList.drop i=o :: ops.toList.drop (i+1):=by
    rw [List.drop_eq_getElem_cons (by simpa using hlt)]
    congr 1
    have:=Array.getElem?_eq_some_iff.1 ho
    simpa using this.2
   rw [hdrop] at hst
   simp only [steps] at hst
   split at hst
   ·rename_i S1 c1 h1
    split at hst
    ·rename_i S2 c2 h2
     cases hst
     obtain ⟨Z,F,hX⟩:=hR
     have hd:=stepG_ok hT hX h1 hc.left.right hc.left.left (wpAny P md ops Q fuel (listed.setIfInBounds i true)) Q (fun a' w' h' =>
      ih (i+1) (m ||| (1 <<< i)) S1 c2 _ a' w' (by omega) (by omega) (by omega) (fun j hj => by
       rw [testBit_add]
       simp only [Bool.or_eq_true,decide_eq_true_eq]
       rw [hm j hj]; omega) (closed_add hN hcl hi) (hl.step hlt) h2 hc.right h')
     unfold wpOp
     rw [ho]
     simp only
     split
     ·rename_i hw
      rw [if_pos hw] at hd
      exact .inl hd
     ·rename_i hw
      rw [if_neg hw] at hd
      exact hd
    ·cases hst
   ·cases hst
theorem view_full (hN:NumOk orc T md st ops p Ev cl) {m:Nat} (hall:∀ j,j < p→m.testBit j=true):view Ev m=view Ev ((1 <<< p) - 1):=by
 unfold view
 congr 1
 refine List.filter_congr fun e he => ?_
 have hb:∀ j,j < p→m.testBit j = ((1 <<< p) - 1).testBit j:=fun j hj => by
  rw [hall j hj,Nat.one_shiftLeft,Nat.testBit_two_pow_sub_one]; simp [hj]
 unfold alive
 congr 1
 ·cases hq:e.2.1 with
  | none => rfl
  | some i => exact hb i (hN.made e he i hq).1
 ·cases hq:e.2.2 with
  | none => rfl
  | some g => simp only [hb g (hN.gone e he g hq).1]
theorem pure_ok (hT:TOk P T) (hN:NumOk orc T md st ops p Ev cl) (hv:∀ i,i < p → (valY T P N orc st ops Ev cl i).1=expY Ev i∧AllP (valY T P N orc st ops Ev cl i).2) (hpq:∀ i,i < p→pathsA orc st Ev cl ops i=pathsB orc st Ev cl ops i) (hkO:∀ i,i < p→keptOk T P N orc st ops Ev cl i=true)
 {c:List Prop} (hSn:view Ev ((1 <<< p) - 1)=Sn) (hst:steps T P N orc ops (ops.toList.drop p) Sn=some (Sf,c)) (hc:AllP c) (hQ:∀ a' w',Rel w0 Wr Zi N Sf a' w'→Q .normal a' w') :
 ∀ (fuel m:Nat) (listed:Array Bool) (a:Act) (w:World),remN m ops.size≤fuel → (∀ j,j < ops.size→p≤j→m.testBit j=false)→Closed ops cl m→Listed ops listed m →
   Rel w0 Wr Zi N (view Ev m) a w→wpAny P md ops Q fuel listed a w:=by
 intro fuel
 induction fuel with
 | zero =>
   intro m listed a w hf hm hcl hl hR
   have hall:=remN_zero (Nat.le_zero.1 hf)
   have hpn:ops.size≤p:=by
    rcases Nat.lt_or_ge p ops.size with h' | h'
    ·have:=hm p h' (Nat.le_refl _); rw [hall p h'] at this; cases this
    ·exact h'
   have:=hN.le
   rw [view_full hN (fun j hj => hall j (by omega)),hSn] at hR
   exact tail_ok hT hN hQ 0 p m Sn c listed a w (Nat.le_refl _) hN.le (by omega) (fun j hj => ⟨fun _ => by omega,fun _ => hall j hj⟩) hcl hl hst hc hR
 | succ fuel ih =>
   intro m listed a w hf hm hcl hl hR
   by_cases hall:∀ j,j < p→m.testBit j=true
   ·rw [view_full hN hall,hSn] at hR
    refine tail_ok hT hN hQ (fuel+1) p m Sn c listed a w (Nat.le_refl _) hN.le ?_ (fun j hj => ⟨fun hb => ?_,hall j⟩) hcl hl hst hc hR
    ·have key:∀ k,k≤ops.size→k - p≤remN m k:=by
      intro k
      induction k with
      | zero => intro _; omega
      | succ k ihk =>
        intro hk
        have:=ihk (by omega)
        simp only [remN]
        by_cases hkp:p≤k
        ·simp [hm k (by omega) hkp]; omega
        ·omega
     have:=key ops.size (Nat.le_refl _)
     omega
    ·rcases Nat.lt_or_ge j p with h' | h'
     ·exact h'
     ·rw [hm j hj h'] at hb; cases hb
   ·refine ⟨fun hr => ?_,fun i hi => ?_⟩
    ·exact absurd (fun j hj => ready_nil hN (hl.ready ▸ hr) j (Nat.lt_of_lt_of_le hj hN.le)) hall
    ·rw [hl.ready] at hi
     obtain ⟨hlt,h0,_,hcb⟩:=ready_clo hN hcl hi
     have hip:i < p:=by
      rcases Nat.lt_or_ge i p with h' | h'
      ·exact h'
      ·exact absurd (fun j hj => hcb j (by omega) (hN.tail i hlt h' j (by omega))) hall
     refine view_step hT hN hcl hi hip (hkO i hip) (hv i hip).1 (hv i hip).2 (hpq i hip) hR (fun a' w' h' => ih (m ||| (1 <<< i)) _ a' w' ?_ ?_ (closed_add hN hcl hi) (hl.step hlt) h')
     ·have:=remN_lt h0 hlt; omega
     ·intro j hj hpj
      rw [testBit_add,hm j hj hpj]
      simp only [Bool.false_or,decide_eq_false_iff_not]
      omega
theorem wp_regy (hT:TOk P T) {id:Nat} {ops:Array Oper} {orc:Nat→List TV} {fz l:List Nat} {c:List Prop} (st:Eff) (p:Nat) (hWr:fz=[]∨∀ i,¬ Wr i) (h:Rel w0 Wr Zi N S a w)
 (hall:(modesOf ops).map (yA T P N orc fz st ops p S) = (modesOf ops).map (yB T P N orc fz st ops p S)) (hcq:regC T P N orc fz ops l S=c) (hc:AllP c)
 (hrest:∀ a' w',Rel w0 Wr Zi N (regS T P N orc fz ops l S) a' w'→Q .normal a' w'):(Code.region id ops true).wp P Q a w:=by
 rw [← hcq] at hc
 unfold regC at hc
 cases hr:reg T P N orc fz ops l S with
 | none => rw [hr] at hc; exact hc.1.elim
 | some r =>
   obtain ⟨S2,c2⟩:=r
   rw [hr] at hc
   simp only at hc
   have hS2:regS T P N orc fz ops l S=S2:=by unfold regS; rw [hr]
   rw [hS2] at hrest
   unfold reg at hr
   split at hr
   ·rename_i S0 h0
    split at hr
    ·rename_i S1 c1 h1
     split at hr
     ·rename_i S3 h3
      cases hr
      have h0':=(Rel.freezeO hWr h h0).drew
      have h1':=h1
      rw [← List.take_append_drop p ops.toList] at h1'
      obtain ⟨Sn,ca,cb,k1,k2,rfl⟩:=steps_append h1'
      obtain ⟨ca',k1,hca⟩:=stepsN_of k1
      have key:∀ md ∈ modesOf ops,∀ t,wpOps P ops Q (Region.linearise md ops t) a { w with drawn:=w.drawn+1 }:=fun md hmd t => by
       have he:=List.map_inj_left.1 hall md hmd
       unfold yA yB at he
       simp only [h0,k1,Option.some.injEq,Prod.mk.injEq] at he
       obtain ⟨e1,e2,e3,e4,e5,e6⟩:=he
       simp only [Bool.and_eq_true] at e5
       have hN:=numOk_ok e5.1
       have hv:∀ i,i < p → (valY T P N orc st ops (evs T P N orc st ops 0 (ops.toList.take p) S0 (S0.map fun e => (e,none,none))) (cloOf md ops) i).1=expY (evs T P N orc st ops 0 (ops.toList.take p) S0 (S0.map fun e => (e,none,none))) i∧AllP (valY T P N orc st ops (evs T P N orc st ops 0 (ops.toList.take p) S0 (S0.map fun e => (e,none,none))) (cloOf md ops) i).2:=fun i hi =>
        ⟨List.map_inj_left.1 e1 i (by simpa using hi),AllP.flat (by rw [e2]; exact hca hc.left) i (by simpa using hi)⟩
       have hR0:Rel w0 Wr Zi N (view (evs T P N orc st ops 0 (ops.toList.take p) S0 (S0.map fun e => (e,none,none))) 0) a { w with drawn:=w.drawn+1 }:=by
        rw [e3]; exact h0'
       refine wpAny_sound ops.size t _ a _ (pure_ok hT hN hv (fun i hi => List.map_inj_left.1 e6 i (by simpa using hi)) (fun i hi => List.all_eq_true.1 e5.2 i (by simpa using hi)) e4 k2 hc.right (fun a' w' h' => hrest a' w' (h'.forget h3)) ops.size 0 _ a _ ?_ (fun j _ _ => Nat.zero_testBit j) (fun i _ hb => by rw [Nat.zero_testBit] at hb; cases hb) Listed.none hR0)
       have:∀ k,remN 0 k≤k:=by
        intro k
        induction k with
        | zero => exact Nat.le_refl _
        | succ k ihk => simp only [remN,Nat.zero_testBit]; simp; omega
       exact this _
      refine wp_region_draw fun t => ?_
      unfold Region.schedule
      unfold modesOf at key
      split
      ·exact key .any (by split <;> simp) t
      ·rename_i hdep
       simp only [Bool.or_eq_true,Bool.not_eq_true',not_or,Bool.not_eq_false] at hdep
       rw [if_pos hdep.2] at key
       split
       ·exact key .text (by simp) _
       ·exact key .gc (by simp) _
     ·cases hr
    ·cases hr
   ·cases hr
theorem wp_regy_seq (hT:TOk P T) {id:Nat} {ops:Array Oper} {rest:Code} {orc:Nat→List TV} {fz l:List Nat} {c:List Prop} (st:Eff) (p:Nat) (hWr:fz=[]∨∀ i,¬ Wr i) (h:Rel w0 Wr Zi N S a w)
 (hall:(modesOf ops).map (yA T P N orc fz st ops p S) = (modesOf ops).map (yB T P N orc fz st ops p S)) (hcq:regC T P N orc fz ops l S=c) (hc:AllP c)
 (hrest:∀ a' w',Rel w0 Wr Zi N (regS T P N orc fz ops l S) a' w'→rest.wp P Q a' w'):((Code.region id ops true).seq rest).wp P Q a w :=
 wp_seq (wp_regy hT st p hWr h hall hcq hc hrest)
end
end Go.Vm
