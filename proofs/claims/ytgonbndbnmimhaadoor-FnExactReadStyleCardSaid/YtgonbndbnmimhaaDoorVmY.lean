/- Regions whose order is drawn: each operation is looked at once, on the part of the state that it reads. -/
import Derived.Test.YtgonbndbnmimhaaDoorVmX
set_option linter.unusedVariables false
set_option linter.unusedSimpArgs false
namespace Go.Vm
open Go
def inV (V:SS):Operand→Bool
 | .tmp s => (V.get s).isSome
 | _ => true
def closedB (V:SS):Bool:=V.all fun e => e.2.homes.all fun h => (V.get h).isSome
structure Sub (V S:SS):Prop where
 le:∀ k v,V.get k=some v→S.get k=some v
 closed:closedB V=true
section
variable {T:Tbl} {P:Program} {N:Fr} {V S V':SS}
theorem Sub.get (h:Sub V S) {k:Nat} (hk:(V.get k).isSome=true):S.get k=V.get k:=by
 obtain ⟨v,hv⟩:=Option.isSome_iff_exists.1 hk
 rw [hv]; exact h.le k v hv
theorem Sub.homes (h:Sub V S) {k:Nat} {v:SV} (hk:V.get k=some v):∀ q ∈ v.homes,(V.get q).isSome=true:=by
 intro q hq
 have:=List.all_eq_true.1 h.closed _ (SS.get_mem hk)
 exact List.all_eq_true.1 this q hq
theorem Sub.opd (h:Sub V S) {ty:Nat} {X:Operand} (hi:inV V X=true):opd T S ty X=opd T V ty X:=by
 cases X with
 | tmp s => simp only [Vm.opd,h.get (k:=s) (by simpa [inV] using hi)]
 | _ => rfl
theorem Sub.opv (h:Sub V S) {ty:Nat} {X:Operand} (hi:inV V X=true):opv T S ty X=opv T V ty X:=by
 unfold Vm.opv; rw [h.opd hi]
theorem Sub.place (h:Sub V S) {k:Nat} {p:Path} (hk:(V.get k).isSome=true):placeOf S k p=placeOf V k p:=by
 unfold placeOf; rw [h.get hk]
theorem Sub.opdHomes (h:Sub V S) {ty:Nat} {X:Operand} {sv:SV} (ho:Vm.opd T V ty X=some sv):∀ q ∈ sv.homes,(V.get q).isSome=true:=by
 cases X with
 | const v =>
   simp only [Vm.opd,Option.map_eq_some_iff] at ho
   obtain ⟨t,ht,rfl⟩:=ho
   intro q hq; simp [SV.homes] at hq
 | tmp s =>
   simp only [Vm.opd] at ho
   split at ho
   ·rename_i sh x hg
    split at ho
    ·cases ho; intro q hq; simp [SV.homes] at hq
    ·split at ho
     ·cases ho; intro q hq
      simp only [SV.homes,List.mem_singleton] at hq
      subst hq; rw [hg]; rfl
     ·cases ho
   ·cases ho; exact h.homes ‹_›
   ·cases ho; exact h.homes ‹_›
   ·cases ho; exact h.homes ‹_›
   ·cases ho
 | func f =>
   simp only [Vm.opd,Option.some.injEq] at ho
   subst ho; intro q hq; simp [SV.homes] at hq
 | global g => simp [Vm.opd] at ho
theorem Sub.deref (h:Sub V S) {sv:SV} (hh:∀ q ∈ sv.homes,(V.get q).isSome=true):derefV S sv=derefV V sv:=by
 cases sv with
 | copy k p => simp only [derefV,h.place (hh k (by simp [SV.homes]))]
 | _ => rfl
theorem deref_homes {sv:SV} (hh:∀ q ∈ sv.homes,(V.get q).isSome=true):∀ q ∈ (derefV V sv).homes,(V.get q).isSome=true:=by
 cases sv with
 | copy k p =>
   simp only [derefV]
   split <;> exact hh
 | _ => exact hh
theorem Sub.nil (h:Sub V S) {sv:SV} (hh:∀ q ∈ sv.homes,(V.get q).isSome=true):nilV S sv=nilV V sv:=by
 cases sv with
 | copy k p => simp only [nilV,h.place (hh k (by simp [SV.homes]))]
 | val s x => cases s with
   | pt o t e => cases o <;> cases x <;> rfl
   | _ => rfl
 | _ => rfl
theorem Sub.len (h:Sub V S) {sv:SV} (hh:∀ q ∈ sv.homes,(V.get q).isSome=true):lenV S sv=lenV V sv:=by
 cases sv with
 | copy k p => simp only [lenV,h.place (hh k (by simp [SV.homes]))]
 | val s x => cases s with
   | sl o t e => cases o <;> rfl
   | _ => rfl
 | _ => rfl
theorem Sub.lenM (h:Sub V S) {sv:SV} (hh:∀ q ∈ sv.homes,(V.get q).isSome=true):lenM S sv=lenM V sv:=by
 cases sv with
 | copy k p => simp only [Vm.lenM,h.place (hh k (by simp [SV.homes]))]
 | _ => rfl
theorem Sub.lenOk (h:Sub V S) {t:Nat} {sv:SV} (hh:∀ q ∈ sv.homes,(V.get q).isSome=true):lenOk T S t sv=lenOk T V t sv:=by
 unfold Vm.lenOk
 rw [h.lenM hh]
theorem Sub.load (h:Sub V S) {t:Nat} {sv:SV} (hh:∀ q ∈ sv.homes,(V.get q).isSome=true):loadV T S t sv=loadV T V t sv:=by
 cases sv with
 | addr k p => simp only [loadV,h.place (hh k (by simp [SV.homes]))]
 | val s x => cases s with
   | pt o t e => cases o <;> cases x <;> rfl
   | _ => rfl
 | _ => rfl
theorem Sub.field (h:Sub V S) {st j:Nat} {sv:SV} (hh:∀ q ∈ sv.homes,(V.get q).isSome=true):fieldAddrV T S st j sv=fieldAddrV T V st j sv:=by
 cases sv with
 | copy k p => simp only [fieldAddrV,h.place (hh k (by simp [SV.homes]))]
 | addr k p => simp only [fieldAddrV,h.place (hh k (by simp [SV.homes]))]
 | val s x => cases s with
   | pt o t e => cases o <;> cases x <;> rfl
   | _ => rfl
 | _ => rfl
theorem Sub.index (h:Sub V S) {t:Nat} {i:Int} {sv:SV} (hh:∀ q ∈ sv.homes,(V.get q).isSome=true):indexAddrV T S t i sv=indexAddrV T V t i sv:=by
 cases sv with
 | copy k p => simp only [indexAddrV,h.place (hh k (by simp [SV.homes]))]
 | val s x => cases s with
   | sl o t e => cases o <;> rfl
   | _ => rfl
 | _ => rfl
theorem Sub.bytes (h:Sub V S) {sv:SV} (hh:∀ q ∈ sv.homes,(V.get q).isSome=true):bytesV S sv=bytesV V sv:=by
 cases sv with
 | copy k p => simp only [bytesV,h.place (hh k (by simp [SV.homes]))]
 | _ => rfl
theorem Sub.map (h:Sub V S) {sv:SV} (hh:∀ q ∈ sv.homes,(V.get q).isSome=true):mapV S sv=mapV V sv:=by
 cases sv with
 | copy k p => simp only [mapV,h.place (hh k (by simp [SV.homes]))]
 | val s x => cases s with
   | mp o k v => cases o <;> rfl
   | _ => rfl
 | _ => rfl
theorem Sub.capsV (h:Sub V S):∀ {caps:List (Nat × Path)},(∀ q ∈ caps,(V.get q.1).isSome=true)→Vm.capsV S caps=Vm.capsV V caps
 | [],_ => rfl
 | (k,p) :: r,hc => by
   simp only [Vm.capsV,h.place (hc (k,p) List.mem_cons_self),h.capsV (fun q hq => hc q (List.mem_cons_of_mem _ hq))]
theorem Sub.capsO (h:Sub V S):∀ {l:List Operand},l.all (inV V)=true→Vm.capsO T S l=Vm.capsO T V l
 | [],_ => rfl
 | X :: r,hi => by
   simp only [List.all_cons,Bool.and_eq_true] at hi
   simp only [Vm.capsO,h.opd hi.1,h.capsO hi.2]
theorem Sub.arg (h:Sub V S) {ty:Nat} {X:Operand} (hi:inV V X=true):argO T S ty X=argO T V ty X:=by
 unfold argO
 congr 1
 unfold argR
 rw [h.opd hi]
 cases ho:Vm.opd T V ty X with
 | none =>
   cases X with
   | tmp s => simp only [h.get (k:=s) (by simpa [inV] using hi)]
   | _ => rfl
 | some sv =>
   have hh:=h.opdHomes ho
   cases sv with
   | copy k p => simp only [h.place (hh k (by simp [SV.homes]))]
   | addr k p => simp only [h.place (hh k (by simp [SV.homes]))]
   | clo g caps => simp only [h.capsV (fun q hq => hh q.1 (by simp only [SV.homes]; exact List.mem_map.2 ⟨q,hq,rfl⟩))]
   | val s x => rfl
   | _ =>
     cases X with
     | tmp s => simp only [h.get (k:=s) (by simpa [inV] using hi)]
     | _ => rfl
theorem Sub.args (h:Sub V S) {ty:Nat}:∀ {l:List Operand},l.all (inV V)=true→argsO T S ty l=argsO T V ty l
 | [],_ => rfl
 | X :: r,hi => by
   simp only [List.all_cons,Bool.and_eq_true] at hi
   simp only [argsO,h.arg hi.1,h.args hi.2]
theorem Sub.pick (h:Sub V S) {ty g:Nat} {b:Bool} {X:Operand} (hi:inV V X=true):pickO T S ty g b X=pickO T V ty g b X:=by
 cases X with
 | tmp s => simp only [pickO,h.get (k:=s) (by simpa [inV] using hi),h.opv (X:=.tmp s) hi]
 | const c => simp only [pickO,h.opv hi]
 | func c => simp only [pickO,h.opv hi]
 | global c => simp only [pickO,h.opv hi]
theorem Sub.bnd (h:Sub V S) {t d:Nat} {L:Option Operand} (hi:L.all (inV V)=true):bnd T S t d L=bnd T V t d L:=by
 cases L with
 | none => rfl
 | some L => simp only [Vm.bnd,h.opv (X:=L) (by simpa using hi)]
theorem Sub.src (h:Sub V S) {e:Sh} {Y:Operand} {ys:List e.den} {V1:SS} (hi:inV V Y=true) (hn:e.noOwn=true) (hs:srcO V e Y=some (ys,V1)):srcO S e Y=some (ys,S):=by
 cases Y with
 | tmp s =>
   have hg:=h.get (k:=s) (by simpa [inV] using hi)
   simp only [srcO,hg] at hs ⊢
   cases hv:V.get s with
   | none => simp only [hv] at hs; cases hs
   | some v =>
     simp only [hv] at hs ⊢
     cases v with
     | val sh x =>
       cases sh with
       | sl ow t e' =>
         cases ow with
         | false =>
           simp only at hs ⊢
           split at hs
           ·rename_i he; cases hs; rw [dif_pos he]
           ·cases hs
         | true =>
           simp only at hs ⊢
           split at hs
           ·rename_i he; cases hs; rw [dif_pos he,if_pos hn]
           ·cases hs
       | _ => cases hs
     | copy k p =>
       have hk:(V.get k).isSome=true:=h.homes hv k (by simp [SV.homes])
       simp only [h.place hk] at hs ⊢
       split at hs
       ·split at hs
        ·rename_i he
         first | (cases hs; done) | skip
         cases hs
         simp only [he,dite_true,hn,if_true]
         try rfl
        ·cases hs
       ·cases hs
     | _ => cases hs
 | _ => simp [srcO] at hs
theorem Sub.appG (h:Sub V S) {t:Nat} {X Y:Operand} {r:Nat × Path × TV × List Prop} (hX:inV V X=true) (hY:inV V Y=true) (hr:appG T V t X Y=some r):appG T S t X Y=some r:=by
 unfold Vm.appG at hr ⊢
 rw [h.opd hX]
 split at hr
 ·rename_i k q p e0
  have hk:(V.get k).isSome=true:=h.opdHomes e0 k (by simp [SV.homes])
  rw [h.place hk]
  split at hr
  ·rename_i te e xs e1
   split at hr
   ·rename_i hn
    split at hr
    ·rename_i b e2
     split at hr
     ·rename_i ys V1 e3
      simp only [e1,hn,if_true,e2,h.src hY hn e3]
      exact hr
     ·cases hr
    ·cases hr
   ·cases hr
  ·cases hr
 ·cases hr
def calleeO (c:Call):List Operand:=match c.callee with
 | .value X => [X]
 | _ => []
def opsOf (o:Oper):List Operand:=match o.op with
 | .move X => [X]
 | .pick G X Y => [G,X,Y]
 | .load _ X => [X]
 | .nilCheck X => [X]
 | .binOp _ _ X Y _ => [X,Y]
 | .unOp _ _ X => [X]
 | .convert _ _ X => [X]
 | .makeSlice _ X Y => [X,Y]
 | .slice _ X L H _ => X :: (L.toList ++ H.toList)
 | .fieldAddr _ X _ => [X]
 | .indexAddr _ X I => [X,I]
 | .index _ X I => [X,I]
 | .call c => calleeO c ++ c.args.toList
 | .makeFunc _ _ captured => captured.toList
 | .assign X => [X]
 | .build _ parts => parts.toList.map (·.2)
 | .buildSlice _ _ parts => parts.toList.map (·.2)
 | .box _ X => [X]
 | .field _ X _ => [X]
 | .extract X _ => [X]
 | .lookup _ X I _ => [X,I]
 | _ => []
theorem out_frame {dst:Option Nat} {sv:SV} {c c':List Prop} (h:outS N V dst sv c=some (V',c')) :
 ∃ d,dst=some d∧V'=V.put d sv∧sv.refs d=false∧sv.tests d=false∧∀ S,outS N S dst sv c=some (S.put d sv,c'):=by
 obtain ⟨k,h1,h2,h3,h4,h5⟩:=putS_some (outS_some h).1
 refine ⟨k,h1,h5,h3,h4,fun S => ?_⟩
 have:=(outS_some h).2
 subst this
 unfold outS putS
 subst h1
 have h6:(N.keep.any fun q => Nat.beq q k)=false:=by
  refine Bool.eq_false_iff.2 (fun hh => ?_)
  obtain ⟨q,hq,e⟩:=List.any_eq_true.1 hh
  have:q=k:=by simpa using e
  exact h2.2 (this ▸ hq)
 simp only [h2.1,h6,h3,h4,decide_true,Bool.not_false,Bool.and_self,if_true]
def FrameOk (T:Tbl) (P:Program) (N:Fr) (orc:List TV) (V S V':SS) (o:Oper) (c:List Prop):Prop :=
 ∃ d sv,o.dst=some d∧V'=V.put d sv∧sv.refs d=false∧sv.tests d=false∧step T P N orc S o=some (S.put d sv,c)
theorem take_frame (h:Sub V S) {ty:Nat} {X:Operand} {tv:TV} {V1:SS} (hi:inV V X=true) (hp:plainO V X=true) (ht:takeO T V ty X=some (tv,V1)):V1=V∧takeO T S ty X=some (tv,S):=by
 have h1:=plain_take hp ht
 refine ⟨h1,?_⟩
 cases X with
 | const v =>
   subst h1
   simp only [takeO,Option.map_eq_some_iff,Prod.mk.injEq] at ht ⊢
   obtain ⟨t,e1,e2,_⟩:=ht
   exact ⟨t,e1,e2,trivial⟩
 | tmp s =>
   simp only [plainO] at hp
   split at hp
   ·rename_i sh x hg
    simp only [takeO,hg,hp,if_true,Option.some.injEq,Prod.mk.injEq] at ht
    simp only [takeO,h.le _ _ hg,hp,if_true,ht.1]
   ·cases hp
 | _ => simp [takeO] at ht
theorem takeL_frame (h:Sub V S) {ty:Nat}:∀ {l:List Operand} {tvs:List TV} {V1:SS},l.all (inV V)=true→l.all (plainO V)=true→takeL T V ty l=some (tvs,V1)→V1=V∧takeL T S ty l=some (tvs,S)
 | [],tvs,V1,_,_,ht => by cases ht; exact ⟨rfl,rfl⟩
 | X :: r,tvs,V1,hi,hp,ht => by
   simp only [List.all_cons,Bool.and_eq_true] at hi hp
   simp only [takeL] at ht
   split at ht
   ·rename_i tv V2 h2
    obtain ⟨q2,k2⟩:=take_frame h hi.1 hp.1 h2
    rw [q2] at ht
    split at ht
    ·rename_i tvs' V3 h3
     cases ht
     obtain ⟨q3,k3⟩:=takeL_frame h hi.2 hp.2 h3
     exact ⟨q3,by simp only [takeL,k2,k3]⟩
    ·cases ht
   ·cases ht
theorem ownAt_frame (h:Sub V S) {X:Operand} (hi:inV V X=true):ownAt S X=ownAt V X:=by
 cases X with
 | tmp s => simp only [ownAt,h.get (k:=s) (by simpa [inV] using hi)]
 | const v => cases v <;> first | rfl | (rename_i A n c; cases A <;> cases n <;> cases c <;> rfl) | (rename_i A; cases A <;> rfl)
 | _ => rfl
theorem plainO_mono (h:Sub V S) {X:Operand} (hp:plainO V X=true):plainO S X=true:=by
 cases X with
 | tmp s =>
   simp only [plainO] at hp ⊢
   split at hp
   ·rename_i hg; rw [h.le _ _ hg]; exact hp
   ·cases hp
 | _ => exact hp
theorem pureOp_mono {orc:List TV} (h:Sub V S) {o:Oper} (hp:pureOp orc T V o=true) (hi:(opsOf o).all (inV V)=true):pureOp orc T S o=true:=by
 unfold pureOp at hp ⊢
 split at hp
 case h_1 X ho =>
  rw [ownAt_frame h (by simpa [opsOf,ho] using hi)]; exact hp
 case h_2 ho => exact List.all_eq_true.2 fun X hX => plainO_mono h (List.all_eq_true.1 hp X hX)
 case h_3 ho => exact List.all_eq_true.2 fun X hX => plainO_mono h (List.all_eq_true.1 hp X hX)
 case h_4 ho => exact plainO_mono h hp
 case h_5 ho => exact plainO_mono h hp
 case h_6 s j ho =>
  split at hp
  ·rename_i hg; rw [h.le _ _ hg]; exact hp
  ·cases hp
 all_goals first
  | (simp_all; done)
  | skip
 rename_i t X L H ho
 have hX:inV V X=true:=by
  simp only [opsOf,ho,List.all_cons,Bool.and_eq_true] at hi
  exact hi.1
 simp only [ho,h.opd hX]
 exact hp
theorem step_frame (h:Sub V S) {orc:List TV} {o:Oper} {c:List Prop} (hp:pureOp orc T V o=true) (hi:(opsOf o).all (inV V)=true)
 (hs:step T P N orc V o=some (V',c)):FrameOk T P N orc V S V' o c:=by
 have fin:∀ {sv:SV} {c':List Prop},outS N V o.dst sv c'=some (V',c)→step T P N orc S o=outS N S o.dst sv c'→FrameOk T P N orc V S V' o c:=by
  intro sv c' h1 h2
  obtain ⟨d,k1,k2,k3,k4,k5⟩:=out_frame h1
  exact ⟨d,sv,k1,k2,k3,k4,by rw [h2,k5]⟩
 unfold step at hs
 split at hs
 ·rename_i X ho
  have hX:inV V X=true:=by simpa [opsOf,ho] using hi
  have hn:takeB orc=false:=by simpa [pureOp,ho] using hp
  rw [if_neg (by rw [hn]; simp)] at hs
  unfold sMove at hs
  split at hs
  ·rename_i sv he
   exact fin hs (by simp only [step,ho,hn,Bool.false_eq_true,if_false,sMove,h.opd hX,he])
  ·rename_i he
   split at hs
   ·rename_i s
    split at hs
    ·rename_i ts hg
     split at hs
     ·rename_i hall
      exact fin hs (by simp only [step,ho,hn,Bool.false_eq_true,if_false,sMove,h.opd hX,he,h.get (k:=s) (by simpa [inV] using hX),hg,hall,if_true])
     ·cases hs
    ·cases hs
   ·cases hs
 ·rename_i X ho
  have hX:inV V X=true:=by simpa [opsOf,ho] using hi
  have hn2:ownAt V X=false∧takeB orc=false:=by simpa [pureOp,ho] using hp
  have hn:(ownAt V X || takeB orc)=false:=by rw [hn2.1,hn2.2]; rfl
  have hnS:(ownAt S X || takeB orc)=false:=by rw [ownAt_frame h hX]; exact hn
  unfold sAssign at hs
  rw [if_neg (by simp [hn])] at hs
  unfold sMove at hs
  split at hs
  ·rename_i sv he
   exact fin hs (by simp only [step,ho,sAssign,hnS,Bool.false_eq_true,if_false,sMove,h.opd hX,he])
  ·rename_i he
   split at hs
   ·rename_i s
    split at hs
    ·rename_i ts hg
     split at hs
     ·rename_i hall
      exact fin hs (by simp only [step,ho,sAssign,hnS,Bool.false_eq_true,if_false,sMove,h.opd hX,he,h.get (k:=s) (by simpa [inV] using hX),hg,hall,if_true])
     ·cases hs
    ·cases hs
   ·cases hs
 ·rename_i G X Y ho
  simp only [opsOf,ho,List.all_cons,List.all_nil,Bool.and_true,Bool.and_eq_true] at hi
  obtain ⟨h1,h2,h3⟩:=hi
  unfold sPick at hs
  split at hs
  ·rename_i g
   split at hs
   ·rename_i cb hg
    split at hs
    ·rename_i s x s' y e1 e2
     split at hs
     ·rename_i hh
      exact fin hs (by simp only [step,ho,sPick,h.get (k:=g) (by simpa [inV] using h1),hg,h.pick h2,h.pick h3,e1,e2,hh,dite_true])
     ·cases hs
    ·cases hs
   ·cases hs
  ·cases hs
 ·rename_i t ho
  unfold sAlloc at hs
  split at hs
  ·rename_i i e1
   split at hs
   ·rename_i hh
    exact fin hs (by simp only [step,ho,sAlloc,e1,hh,if_true])
   ·cases hs
  ·cases hs
 ·rename_i t X ho
  have hX:inV V X=true:=by simpa [opsOf,ho] using hi
  have hn:plainO V X=true:=by simpa only [pureOp,ho] using hp
  rw [if_neg (by rw [plain_keep hn]; simp)] at hs
  have hkS:keepBox N S X=false:=plain_keep (plainO_mono h hn)
  unfold sBox at hs
  split at hs
  ·rename_i tv S1 e1
   obtain ⟨rfl,k1⟩:=take_frame h hX hn e1
   split at hs
   ·cases hs
   ·rename_i hne
    exact fin hs (by simp only [step,ho,hkS,Bool.false_eq_true,if_false,sBox,k1,if_neg hne])
  ·cases hs
 ·rename_i st X j ho
  have hX:inV V X=true:=by simpa [opsOf,ho] using hi
  have hn:plainO V X=true:=by simpa only [pureOp,ho] using hp
  unfold sFieldV at hs
  split at hs
  ·rename_i tv S1 e1
   obtain ⟨rfl,k1⟩:=take_frame h hX hn e1
   split at hs
   ·rename_i v e2
    exact fin hs (by simp only [step,ho,sFieldV,k1,e2])
   ·cases hs
  ·cases hs
 ·rename_i t parts ho
  have hn:(parts.toList.map (·.2)).all (plainO V)=true:=by simpa only [pureOp,ho] using hp
  have hI:(parts.toList.map (·.2)).all (inV V)=true:=by simpa only [opsOf,ho] using hi
  unfold sBuild at hs
  split at hs
  ·rename_i tvs S1 e1
   obtain ⟨rfl,k1⟩:=takeL_frame h hI hn e1
   split at hs
   ·rename_i hl
    split at hs
    ·rename_i r e2
     exact fin hs (by simp only [step,ho,sBuild,k1,hl,if_true,e2])
    ·cases hs
   ·cases hs
  ·cases hs
 ·rename_i t n parts ho
  have hn:(parts.toList.map (·.2)).all (plainO V)=true:=by simpa only [pureOp,ho] using hp
  have hI:(parts.toList.map (·.2)).all (inV V)=true:=by simpa only [opsOf,ho] using hi
  unfold sLit at hs
  split at hs
  ·rename_i hl
   split at hs
   ·rename_i tvs S1 e1
    obtain ⟨rfl,k1⟩:=takeL_frame h hI hn e1
    split at hs
    ·rename_i r e2
     exact fin hs (by simp only [step,ho,sLit,hl,if_true,k1,e2])
    ·cases hs
   ·cases hs
  ·cases hs
 ·rename_i t X ho
  have hX:inV V X=true:=by simpa [opsOf,ho] using hi
  unfold sLoad at hs
  split at hs
  ·rename_i sv he
   obtain ⟨sv0,e0,rfl⟩:=Option.map_eq_some_iff.1 he
   have hh:=h.opdHomes e0
   split at hs
   ·rename_i r e1
    exact fin hs (by simp only [step,ho,sLoad,h.opd hX,e0,Option.map_some,h.deref hh,h.load (deref_homes hh),e1])
   ·cases hs
  ·cases hs
 ·rename_i ho; simp [pureOp,ho] at hp
 ·rename_i X ho
  have hX:inV V X=true:=by simpa [opsOf,ho] using hi
  unfold sNil at hs
  split at hs
  ·rename_i sv e0
   have hh:=h.opdHomes e0
   split at hs
   ·rename_i r e1
    exact fin hs (by simp only [step,ho,sNil,h.opd hX,e0,h.nil hh,e1])
   ·cases hs
  ·cases hs
 ·rename_i op xt X Y yt ho
  simp only [opsOf,ho,List.all_cons,List.all_nil,Bool.and_true,Bool.and_eq_true] at hi
  have hst:stOp T S xt X=stOp T V xt X:=by unfold stOp; rw [h.opv hi.1]
  split at hs
  ·rename_i hso
   rw [← hst] at hso
   unfold sEq at hs
   split at hs
   ·rename_i b s x s' y e0 e1 e2
    split at hs
    ·rename_i hh
     exact fin hs (by simp only [step,ho,hso,if_true,sEq,h.opv hi.1,h.opv hi.2,e0,e1,e2,hh,dite_true])
    ·cases hs
   ·cases hs
  ·rename_i hso
   rw [← hst] at hso
   unfold sBin at hs
   split at hs
   ·rename_i x y e0 e1
    split at hs
    ·rename_i r c' e2
     exact fin hs (by simp only [step,ho,if_neg hso,sBin,h.opv hi.1,h.opv hi.2,e0,e1,e2])
    ·cases hs
   ·cases hs
 ·rename_i op xt X ho
  have hX:inV V X=true:=by simpa [opsOf,ho] using hi
  unfold sUn at hs
  split at hs
  ·rename_i x e0
   split at hs
   ·rename_i r e2
    exact fin hs (by simp only [step,ho,sUn,h.opv hX,e0,e2])
   ·cases hs
  ·cases hs
 ·rename_i src dst X ho
  have hX:inV V X=true:=by simpa [opsOf,ho] using hi
  split at hs
  ·rename_i hbt
   unfold sBytes at hs
   split at hs
   ·rename_i sv e0
    have hh:=h.opdHomes e0
    split at hs
    ·rename_i xs e1
     exact fin hs (by simp only [step,ho,hbt,if_true,sBytes,h.opd hX,e0,h.bytes hh,e1])
    ·cases hs
   ·cases hs
  ·rename_i hbt
   unfold sConv at hs
   split at hs
   ·rename_i k n e0
    split at hs
    ·rename_i i j e1 e2
     split at hs
     ·rename_i k' e3
      exact fin hs (by simp only [step,ho,if_neg hbt,sConv,h.opv hX,e0,e1,e2,e3])
     ·cases hs
    ·cases hs
   ·cases hs
 ·rename_i t X Y ho
  simp only [opsOf,ho,List.all_cons,List.all_nil,Bool.and_true,Bool.and_eq_true] at hi
  unfold sMake at hs
  split at hs
  ·rename_i hq
   split at hs
   ·rename_i k n e0
    split at hs
    ·rename_i r c' e1
     exact fin hs (by simp only [step,ho,sMake,hq,if_true,h.opv hi.1,e0,e1])
    ·cases hs
   ·cases hs
  ·cases hs
 ·rename_i t X L H ho
  have hi':inV V X=true∧L.all (inV V)=true∧H.all (inV V)=true:=by
   simp only [opsOf,ho,List.all_cons,List.all_append,Bool.and_eq_true] at hi
   refine ⟨hi.1,?_,?_⟩
   ·cases L <;> simp_all
   ·cases H <;> simp_all
  obtain ⟨h1,h2,h3⟩:=hi'
  have hp2:=hp
  simp only [pureOp,ho,Bool.and_eq_true,Bool.not_eq_true'] at hp2
  obtain ⟨hgf,hp⟩:=hp2
  rw [if_neg (by rw [hgf]; simp)] at hs
  unfold sSlice at hs
  split at hs
  ·rename_i hstr
   split at hs
   ·rename_i s e0
    split at hs
    ·rename_i lo c1 hi c2 e1 e2
     exact fin hs (by simp only [step,ho,hgf,Bool.false_eq_true,if_false,sSlice,hstr,if_true,h.opv h1,e0,h.bnd h2,h.bnd h3,e1,e2])
    ·cases hs
   ·cases hs
  ·rename_i hstr
   split at hs
   ·rename_i te e xs e0
    split at hs
    ·rename_i hel
     split at hs
     ·rename_i lo c1 hi c2 e1 e2
      exact fin hs (by simp only [step,ho,hgf,Bool.false_eq_true,if_false,sSlice,if_neg hstr,h.opd h1,e0,hel,if_true,h.bnd h2,h.bnd h3,e1,e2])
     ·cases hs
    ·cases hs
   ·rename_i hne
    exfalso
    simp only [hstr,Bool.false_or] at hp
    cases hp
 ·rename_i st X j ho
  have hX:inV V X=true:=by simpa [opsOf,ho] using hi
  unfold sField at hs
  split at hs
  ·rename_i sv e0
   have hh:=h.opdHomes e0
   split at hs
   ·rename_i r c' e1
    exact fin hs (by simp only [step,ho,sField,h.opd hX,e0,h.field hh,e1])
   ·cases hs
  ·cases hs
 ·rename_i t X I ho
  simp only [opsOf,ho,List.all_cons,List.all_nil,Bool.and_true,Bool.and_eq_true] at hi
  unfold sIndexAddr at hs
  split at hs
  ·rename_i sv k i e0 e2
   have hh:=h.opdHomes e0
   split at hs
   ·rename_i r c' e1
    exact fin hs (by simp only [step,ho,sIndexAddr,h.opd hi.1,h.opv hi.2,e0,e2,h.index hh,e1])
   ·cases hs
  ·cases hs
 ·rename_i t X I ho
  simp only [opsOf,ho,List.all_cons,List.all_nil,Bool.and_true,Bool.and_eq_true] at hi
  unfold sIndex at hs
  split at hs
  ·rename_i hstr
   split at hs
   ·rename_i s k i e0 e1
    exact fin hs (by simp only [step,ho,sIndex,hstr,if_true,h.opv hi.1,h.opv hi.2,e0,e1])
   ·cases hs
  ·cases hs
 ·rename_i X j ho
  have hX:inV V X=true:=by simpa [opsOf,ho] using hi
  unfold sExtract at hs
  split at hs
  ·rename_i s
   split at hs
   ·rename_i ts hg
    have hn:(ts.all fun t => t.sh.noOwn)=true:=by simpa [pureOp,ho,hg] using hp
    split at hs
    ·rename_i tv hj
     rw [if_pos hn] at hs
     exact fin hs (by simp only [step,ho,sExtract,h.le _ _ hg,hj,hn,if_true])
    ·cases hs
   ·cases hs
  ·cases hs
 ·rename_i cl ho
  have hA2:(calleeO cl).all (inV V)=true∧cl.args.toList.all (inV V)=true:=by simpa only [opsOf,ho,List.all_append,Bool.and_eq_true] using hi
  have hA:=hA2.2
  unfold sCall at hs
  split at hs
  ·rename_i hcl
   split at hs
   ·rename_i X t e0 e1
    have hX:inV V X=true:=by simpa [e0] using hA
    split at hs
    ·rename_i sv e2
     have hh:=h.opdHomes e2
     split at hs
     ·rename_i n e3
      split at hs
      ·rename_i e4
       exact fin hs (by simp only [step,ho,sCall,hcl,e0,e1,h.opd hX,e2,h.len hh,h.lenOk hh,e3,e4,if_true])
      ·cases hs
     ·cases hs
    ·cases hs
   ·cases hs
  ·rename_i hcl
   have hgo:grownO orc=true:=by simpa [pureOp,ho,hcl] using hp
   split at hs
   ·rename_i X Y t t' e0 e1
    have hX:inV V X=true∧inV V Y=true:=by simpa [e0] using hA
    split at hs
    ·rename_i e2
     split at hs
     ·rename_i k p tv q e3
      exact fin hs (by simp only [step,ho,sCall,hcl,e0,e1,e2,hgo,if_true,h.appG hX.1 hX.2 e3])
     ·cases hs
    ·cases hs
   ·cases hs
  ·rename_i hcl; simp [pureOp,ho,hcl] at hp
  ·rename_i b hb1 hb2 hb3 hcl
   split at hs
   ·rename_i X Y e0
    have hX:inV V X=true∧inV V Y=true:=by simpa [e0] using hA
    split at hs
    ·rename_i x y e1 e2
     split at hs
     ·rename_i r e3
      exact fin hs (by simp only [step,ho,sCall,hcl,e0,h.opv hX.1,h.opv hX.2,e1,e2,e3])
     ·cases hs
    ·cases hs
   ·cases hs
  ·rename_i f hcl
   have hm:mutO orc=none∧consO orc=none:=by simpa [pureOp,ho,hcl] using hp
   rw [hm.1,hm.2] at hs
   simp only at hs
   split at hs
   ·rename_i ins b e0
    split at hs
    ·rename_i e1
     exact fin hs (by simp only [step,ho,sCall,hcl,hm.1,hm.2,h.args hA,e0,e1,if_true])
    ·cases hs
   ·cases hs
  ·rename_i s hcl
   have hsV:inV V (.tmp s)=true:=by
    have:=hA2.1
    unfold calleeO at this
    rw [hcl] at this
    simpa using this
   split at hs
   ·rename_i hm1 hm2
    unfold sClo at hs
    split at hs
    ·rename_i f caps hg
     have hcap:∀ q ∈ caps,(V.get q.1).isSome=true:=fun q hq => h.homes hg q.1 (by simp only [SV.homes]; exact List.mem_map.2 ⟨q,hq,rfl⟩)
     split at hs
     ·rename_i cs ins b e1 e2
      split at hs
      ·rename_i e3
       refine fin hs ?_
       simp only [step,ho]
       unfold sCall
       simp only [hcl,hm1,hm2]
       unfold sClo
       simp only [h.le _ _ hg,h.capsV hcap,e1,h.args hA,e2,e3,if_true]
      ·cases hs
     ·cases hs
    ·rename_i f C x hg
     split at hs
     ·rename_i cs ins b e1 e2
      split at hs
      ·rename_i e3
       refine fin hs ?_
       simp only [step,ho]
       unfold sCall
       simp only [hcl,hm1,hm2]
       unfold sClo
       simp only [h.le _ _ hg,e1,h.args hA,e2,e3,if_true]
      ·cases hs
     ·cases hs
    ·cases hs
   ·cases hs
  ·cases hs
 ·rename_i t ho
  unfold sMapMake at hs
  split at hs
  ·rename_i kt et e0
   split at hs
   ·rename_i ik ie e1 e2
    exact fin hs (by simp only [step,ho,sMapMake,e0,e1,e2])
   ·cases hs
  ·cases hs
 ·rename_i t X I cok ho
  simp only [opsOf,ho,List.all_cons,List.all_nil,Bool.and_true,Bool.and_eq_true] at hi
  unfold sLookup at hs
  split at hs
  ·rename_i kt et sv e0 e1
   have hh:=h.opdHomes e1
   split at hs
   ·rename_i ow k v m k' x e2 e3
    split at hs
    ·rename_i hk
     split at hs
     ·rename_i e4
      exact fin hs (by simp only [step,ho,sLookup,h.opd hi.1,h.opv hi.2,e0,e1,h.map hh,e2,e3,hk,dite_true,e4,if_true])
     ·cases hs
    ·cases hs
   ·cases hs
  ·cases hs
 ·rename_i ho; simp [pureOp,ho] at hp
 ·rename_i ho; simp [pureOp,ho] at hp
 ·rename_i f first captured ho
  have hA:captured.toList.all (inV V)=true:=by simpa only [opsOf,ho] using hi
  unfold sFunc at hs
  split at hs
  ·rename_i caps e1 e2
   exact fin hs (by simp only [step,ho,sFunc,e1,h.capsO hA,e2])
  ·cases hs
 ·cases hs
end
section
variable {T:Tbl} {P:Program} {N:Fr} {V S V':SS}
theorem gprop_mono (h:Sub V S):∀ {n g:Nat} {b:Bool} {r:Prop × Chain},gprop V n g b=some r→gprop S n g b=some r
 | 0,g,b,r,hp => by simp [gprop] at hp
 | n+1,g,b,r,hp => by
   simp only [gprop] at hp ⊢
   split at hp
   ·rename_i cb hg
    rw [h.le _ _ hg]; exact hp
   ·rename_i g2 b2 cb hg
    rw [h.le _ _ hg]
    simp only
    split at hp
    ·rename_i p ch e
     rw [gprop_mono h e]; exact hp
    ·cases hp
   ·cases hp
theorem get_strip {ch:Chain}:∀ {S:SS} {k:Nat},(S.strip ch).get k = (S.get k).map (SV.strip1 ch)
 | [],k => rfl
 | (q,v) :: r,k => by
   simp only [SS.strip,List.map_cons,SS.get]
   split
   ·rfl
   ·exact get_strip (S:=r)
theorem strip1_homes {ch:Chain} {v:SV}:(v.strip1 ch).homes=v.homes:=by
 cases v <;> simp only [SV.strip1]
 split <;> simp [SV.homes]
theorem Sub.strip (h:Sub V S) (ch:Chain):Sub (V.strip ch) (S.strip ch) where
 le k v hv:=by
  rw [get_strip] at hv ⊢
  obtain ⟨u,hu,rfl⟩:=Option.map_eq_some_iff.1 hv
  rw [h.le _ _ hu]; rfl
 closed:=by
  refine List.all_eq_true.2 fun e he => ?_
  obtain ⟨v,hv,hev⟩:=mem_strip.1 he
  rw [hev,strip1_homes]
  refine List.all_eq_true.2 fun q hq => ?_
  rw [get_strip,Option.isSome_map]
  exact List.all_eq_true.1 (List.all_eq_true.1 h.closed _ hv) q hq
theorem refsIn_mono (h:Sub V S) {sv:SV} (hr:refsIn V sv=true):refsIn S sv=true:=by
 have one:∀ k,(match V.get k with | some (.val _ _) => true | _ => false)=true → (match S.get k with | some (.val _ _) => true | _ => false)=true:=by
  intro k hk
  split at hk
  ·rename_i e; rw [h.le _ _ e]
  ·cases hk
 cases sv <;> simp only [refsIn] at hr ⊢
 ·exact one _ hr
 ·exact one _ hr
 ·exact List.all_eq_true.2 fun c hc => one _ (List.all_eq_true.1 hr c hc)
 ·cases hr
 ·exact one _ hr
theorem inV_strip {ch:Chain} {X:Operand}:inV (V.strip ch) X=inV V X:=by
 cases X <;> simp [inV,get_strip]
theorem stepG_frame (h:Sub V S) {orc:Nat→List TV} {ops:Array Oper} {o:Oper} {c:List Prop} (hfl:(S.all fun e => e.2.flat)=true) (hp:(o.guard.isSome || pureOp (orc (keyO o)) T V o)=true) (hi:(opsOf o).all (inV V)=true)
 (hs:stepG T P N orc V ops o=some (V',c)):∃ d sv,o.dst=some d∧V'.get d=some sv∧stepG T P N orc S ops o=some (S.put d sv,c):=by
 unfold stepG at hs ⊢
 split at hs
 ·rename_i hg
  have hp':pureOp (orc (keyO o)) T V o=true:=by simpa [hg] using hp
  obtain ⟨d,sv,h1,h2,_,_,h5⟩:=step_frame h hp' hi hs
  subst h2
  exact ⟨d,sv,h1,SS.get_put_same,h5⟩
 ·rename_i j b hg
  unfold gstep at hs ⊢
  split at hs
  ·rename_i g d hgd hd
   split at hs
   ·rename_i p ch hpr
    split at hs
    ·rename_i hchk
     simp only [Bool.and_eq_true] at hchk
     obtain ⟨⟨⟨hpure,hngr⟩,hflat⟩,hchd⟩:=hchk
     split at hs
     ·rename_i S2 c2 hst
      split at hs
      ·rename_i sv hsv
       split at hs
       ·rename_i hck
        cases hs
        obtain ⟨d',sv',k1,k2,k3,k4,k5⟩:=step_frame (h.strip ch) hpure (by rw [← hi]; congr 1; funext X; exact inV_strip) hst
        rw [hd] at k1
        obtain rfl:d=d':=by simpa using k1
        subst k2
        rw [SS.get_put_same] at hsv
        obtain rfl:sv'=sv:=by simpa using hsv
        simp only [Bool.and_eq_true,Bool.not_eq_true'] at hck
        have hpureS:pureOp (orc (keyO o)) T (S.strip ch) o=true:=pureOp_mono (h.strip ch) hpure (by rw [← hi]; congr 1; funext X; exact inV_strip)
        refine ⟨d,.cond g b sv',hd,SS.get_put_same,?_⟩
        simp only [hgd,hd,gprop_mono h hpr,hpureS,hngr,hfl,hchd,Bool.and_self,if_true,k5,SS.get_put_same,refsIn_mono h hck.1.1,hck.1.2,hck.2,Bool.not_false,Bool.and_true]
       ·cases hs
      ·cases hs
     ·cases hs
    ·cases hs
   ·cases hs
  ·cases hs
end
end Go.Vm
