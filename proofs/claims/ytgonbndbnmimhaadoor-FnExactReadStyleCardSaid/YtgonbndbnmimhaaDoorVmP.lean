/- One operation, as a function of the state: and what it is worth. -/
import Derived.Test.YtgonbndbnmimhaaDoorVmMc
set_option linter.unusedVariables false
set_option linter.unusedSimpArgs false
namespace Go.Vm
open Go
abbrev SP:=Option (SS × List Prop)
def outS (N:Fr) (S:SS) (dst:Option Nat) (sv:SV) (c:List Prop):SP :=
 match putS N S dst sv with
 | some S' => some (S',c)
 | none => none
theorem outS_some {N:Fr} {S S':SS} {dst:Option Nat} {sv:SV} {c d:List Prop} (h:outS N S dst sv c=some (S',d)):putS N S dst sv=some S'∧d=c:=by
 unfold outS at h
 split at h
 ·cases h; exact ⟨‹_›,rfl⟩
 ·cases h
def ownAt (S:SS):Operand→Bool
 | .tmp s => match S.get s with
   | some (.val sh _) => !sh.noOwn
   | _ => false
 | .const (.slice none 0 0) => true
 | .const (.pointer none) => true
 | .const (.map none) => true
 | _ => false
def sMove (T:Tbl) (N:Fr) (S:SS) (o:Oper) (X:Operand):SP :=
 match opd T S o.type X with
 | some sv => outS N S o.dst sv []
 | none => match X with
   | .tmp s => match S.get s with
     | some (.tup ts) => if ts.all (fun t => t.sh.noOwn) then outS N S o.dst (.tup ts) [] else none
     | _ => none
   | _ => none
def takeB:List TV→Bool
 | [⟨.pt false t s,some x⟩] => Nat.beq t 4294967292
 | _ => false
def sAssign (T:Tbl) (N:Fr) (orc:List TV) (S:SS) (o:Oper) (X:Operand):SP :=
 if ownAt S X || takeB orc then match takeO T S o.type X with
  | some (tv,S1) => outS N S1 o.dst (.val tv.sh tv.x) []
  | none => none
 else sMove T N S o X
def sBin (T:Tbl) (N:Fr) (S:SS) (o:Oper) (op:BinOp) (xt:Nat) (X Y:Operand) (yt:Nat):SP :=
 match opv T S xt X,opv T S yt Y with
 | some x,some y => match bin T xt op x y with
   | some (r,c) => outS N S o.dst (.val r.sh r.x) c
   | none => none
 | _,_ => none
def sUn (T:Tbl) (N:Fr) (S:SS) (o:Oper) (op:UnOp) (xt:Nat) (X:Operand):SP :=
 match opv T S xt X with
 | some x => match una op x with
   | some r => outS N S o.dst (.val r.sh r.x) []
   | none => none
 | none => none
def sConv (T:Tbl) (N:Fr) (S:SS) (o:Oper) (src dst:Nat) (X:Operand):SP :=
 match opv T S src X with
 | some ⟨.int k,n⟩ => match T.find src,T.find dst with
   | some _,some j => match j.kd with
     | .int k' => outS N S o.dst (.val (.int k') (k'.wrap n)) []
     | _ => none
   | _,_ => none
 | _ => none
def sField (T:Tbl) (N:Fr) (S:SS) (o:Oper) (st:Nat) (X:Operand) (j:Nat):SP :=
 match opd T S st X with
 | some sv => match fieldAddrV T S st j sv with
   | some (r,c) => outS N S o.dst r c
   | none => none
 | none => none
def sFieldV (T:Tbl) (N:Fr) (S:SS) (o:Oper) (st:Nat) (X:Operand) (j:Nat):SP :=
 match takeO T S st X with
 | some (tv,S1) => match fieldV T st j tv with
   | some v => outS N S1 o.dst (.val v.sh v.x) []
   | none => none
 | none => none
def sLoad (T:Tbl) (N:Fr) (S:SS) (o:Oper) (t:Nat) (X:Operand):SP :=
 match (opd T S t X).map (derefV S) with
 | some sv => match loadV T S t sv with
   | some r => outS N S o.dst r []
   | none => none
 | none => none
def sIndexAddr (T:Tbl) (N:Fr) (S:SS) (o:Oper) (t:Nat) (X I:Operand):SP :=
 match opd T S t X,opv T S t I with
 | some sv,some ⟨.int _,i⟩ => match indexAddrV T S t i sv with
   | some (r,c) => outS N S o.dst r c
   | none => none
 | _,_ => none
def isStr (T:Tbl) (t:Nat):Bool:=match T.find t with
 | some i => match i.kd with
   | .string => true
   | _ => false
 | none => false
theorem isStr_some {T:Tbl} {t:Nat} (h:isStr T t=true):∃ i,T.find t=some i∧i.kd=.string:=by
 unfold isStr at h
 split at h
 ·rename_i i hi
  split at h
  ·exact ⟨i,hi,‹_›⟩
  ·cases h
 ·cases h
def sIndex (T:Tbl) (N:Fr) (S:SS) (o:Oper) (t:Nat) (X I:Operand):SP :=
 if isStr T t then match opv T S t X,opv T S t I with
  | some ⟨.str,s⟩,some ⟨.int _,i⟩ => outS N S o.dst (.val (.int .u8) (byteAt s i)) [(0:Int)≤i ∧ (i:Int) < (ByteArray.size s:Int)]
  | _,_ => none
 else none
def sNil (T:Tbl) (N:Fr) (S:SS) (o:Oper) (X:Operand):SP :=
 match opd T S o.type X with
 | some sv => match nilV S sv with
   | some c => outS N S o.dst sv c
   | none => none
 | none => none
def sAlloc (T:Tbl) (N:Fr) (S:SS) (o:Oper) (t:Nat):SP :=
 match T.find t with
 | some i => if fits i i.zero then outS N S o.dst (.val (.pt true t i.zero) (some i.zero.dflt)) [] else none
 | none => none
def sBox (T:Tbl) (N:Fr) (S:SS) (o:Oper) (t:Nat) (X:Operand):SP :=
 match takeO T S t X with
 | some (tv,S1) => if tv.sh=.any then none else outS N S1 o.dst (.val (.pt true t tv.sh) (some tv.x)) []
 | none => none
def opEq:Operand→Operand→Bool
 | .tmp s,.tmp s' => s == s'
 | .const (.int k n),.const (.int k' n') => decide (k=k') && decide (n=n')
 | _,_ => false
theorem opEq_ok {X Y:Operand} (h:opEq X Y=true):X=Y:=by
 unfold opEq at h
 split at h
 ·simp only [beq_iff_eq] at h; rw [h]
 ·simp only [Bool.and_eq_true,decide_eq_true_eq] at h; rw [h.1,h.2]
 ·cases h
def sMake (T:Tbl) (N:Fr) (S:SS) (o:Oper) (t:Nat) (X Y:Operand):SP :=
 if opEq X Y then match opv T S t X with
  | some ⟨.int _,n⟩ => match makeV T t n with
    | some (r,c) => outS N S o.dst (.val r.sh r.x) c
    | none => none
  | _ => none
 else none
def sLit (T:Tbl) (N:Fr) (S:SS) (o:Oper) (t n:Nat) (parts:Array (Nat × Operand)):SP :=
 if n == parts.toList.length && inOrder 0 parts.toList then match takeL T S o.type (parts.toList.map (·.2)) with
  | some (tvs,S1) => match litV T t tvs with
    | some r => outS N S1 o.dst (.val r.sh r.x) []
    | none => none
  | none => none
 else none
def sBuild (T:Tbl) (N:Fr) (S:SS) (o:Oper) (t:Nat) (parts:Array (Nat × Operand)):SP :=
 match takeL T S o.type (parts.toList.map (·.2)) with
 | some (tvs,S1) => if (parts.toList.map (·.1)).length == tvs.length then match buildV T t (parts.toList.map (·.1)) tvs with
   | some r => outS N S1 o.dst (.val r.sh r.x) []
   | none => none
   else none
 | none => none
def sExtract (N:Fr) (S:SS) (o:Oper) (X:Operand) (j:Nat):SP :=
 match X with
 | .tmp s => match S.get s with
   | some (.tup ts) => match ts[j]? with
     | some tv => if ts.all (fun t => t.sh.noOwn) then outS N S o.dst (.val tv.sh tv.x) [] else outS N (S.put s (.tup (ts.set j ⟨.any,()⟩))) o.dst (.val tv.sh tv.x) []
     | none => none
   | _ => none
 | _ => none
def bnd (T:Tbl) (S:SS) (t:Nat) (d:Nat):Option Operand→Option (Nat × Prop)
 | none => some (d,True)
 | some L => match opv T S t L with
   | some ⟨.int _,n⟩ => some (Int.toNat n,(0:Int)≤n)
   | _ => none
theorem bnd_ok {T:Tbl} {S:SS} {t d n:Nat} {L:Option Operand} {c:Prop} (h:bnd T S t d L=some (n,c)) (hc:c):BndIs T S t L d n:=by
 cases L with
 | none => cases h; rfl
 | some L =>
   simp only [bnd] at h
   split at h
   ·rename_i k m hL
    cases h
    have:((Int.toNat m:Nat):Int)=m:=Int.toNat_of_nonneg hc
    exact ⟨k,by rw [this]; exact hL⟩
   ·cases h
def sSlice (T:Tbl) (N:Fr) (S:SS) (o:Oper) (t:Nat) (X:Operand) (L H:Option Operand):SP :=
 if isStr T t then match opv T S t X with
  | some ⟨.str,s⟩ => match bnd T S t 0 L,bnd T S t (ByteArray.size s) H with
    | some (lo,c1),some (hi,c2) => outS N S o.dst (.val .str (ByteArray.extract s lo hi)) [c1∧c2∧lo≤hi∧hi≤ByteArray.size s]
    | _,_ => none
  | _ => none
 else match opd T S t X with
  | some (.val (.sl false te e) xs) => if elemT T t e then match bnd T S t 0 L,bnd T S t (List.length xs) H with
    | some (lo,c1),some (hi,c2) => outS N S o.dst (.val (.sl false te e) (List.drop lo (List.take hi xs))) [c1∧c2∧lo≤hi∧hi≤List.length xs]
    | _,_ => none
    else none
  | _ => match L,H with
    | none,some H => if sliceT T t then match takeO T S t X,opv T S t H with
      | some (⟨.sl true te e,xs⟩,S1),some ⟨.int _,hi⟩ => outS N S1 o.dst (.val (.sl true te e) (List.take (Int.toNat hi) xs)) [(0:Int)≤hi ∧ (hi:Int) ≤ (List.length xs:Int)]
      | _,_ => none
      else none
    | _,_ => none
def sCutG (T:Tbl) (N:Fr) (S:SS) (o:Oper) (t:Nat) (X:Operand) (L H:Option Operand):SP :=
 match L,H with
 | none,some H => match cutG T S t X H with
   | some (k,p,tv,c) => outS N S o.dst (.grown k p tv) [c]
   | none => none
 | _,_ => none
def grownAt (S:SS):Operand→Option Nat
 | .tmp y => match S.get y with
   | some (.grown _ _ _) => some y
   | _ => none
 | _ => none
theorem grownAt_some {S:SS} {Y:Operand} {y:Nat} (h:grownAt S Y=some y):Y=.tmp y:=by
 unfold grownAt at h
 split at h
 ·split at h
  ·cases h; rfl
  ·cases h
 ·cases h
def keepO:List TV→Bool
 | [⟨.pt false t s,some x⟩] => Nat.beq t 4294967289
 | _ => false
def sStore (T:Tbl) (orc:List TV) (S:SS) (o:Oper) (t:Nat) (X Y:Operand):SP :=
 match grownAt S Y with
 | some y => if o.dst=none then storeG T S t y X else none
 | none => match o.dst,takeO T S t Y with
 | none,some (tv,S1) => match (opd T S1 t X).map (derefV S1) with
   | some sv => match storeV T S1 t tv sv with
     | some S' => if keepO orc then match sv with
       | .addr k p => some (keepC S1 S' k p,[])
       | _ => none
       else some (S',[])
     | none => none
   | none => none
 | _,_ => none
def pickO (T:Tbl) (S:SS) (ty g:Nat) (b:Bool):Operand→Option TV
 | .tmp s => match S.get s with
   | some (.cond g' b' (.val sh x)) => if g'=g∧b'=b∧sh.noOwn=true then some ⟨sh,x⟩ else none
   | _ => opv T S ty (.tmp s)
 | X => opv T S ty X
def sPick (T:Tbl) (N:Fr) (S:SS) (o:Oper) (G X Y:Operand):SP :=
 match G with
 | .tmp g => match S.get g with
   | some (.val .bool c) => match pickO T S o.type g true X,pickO T S o.type g false Y with
     | some ⟨s,x⟩,some ⟨s',y⟩ => if h:s'=s then outS N S o.dst (.val s (bif c then x else h ▸ y)) [] else none
     | _,_ => none
   | _ => none
 | _ => none
def mutO:List TV→Option (TV × List TV)
 | ⟨.pt false t s,some x⟩ :: outs => if t=4294967295 then some (⟨s,x⟩,outs) else none
 | _ => none
def consO:List TV→Option (List TV)
 | ⟨.pt false t _,some _⟩ :: outs => if t=4294967294 then some outs else none
 | _ => none
def grownO:List TV→Bool
 | [⟨.pt false t s,some x⟩] => Nat.beq t 4294967293
 | _ => false
def tgtG (orc:List TV) (S:SS) (o:Oper):Option (Nat × Path):=if grownO orc then match o.op with
 | .call c => match c.args.toList with
   | .tmp s :: _ => match S.get s with
     | some (.copy k (q :: p)) => some (k,q :: p)
     | _ => none
   | _ => none
 | _ => none
 else none
def sideQ (orc:List TV) (S:SS) (o:Oper):Option (List Path × Path):=(tgtG orc S o).map fun q => ((S.filter fun e => e.2.refs q.1).map fun e => e.2.pathTo q.2,q.2)
def sideG (orc:List TV) (S:SS) (o:Oper):List Prop:=match sideQ orc S o with
 | some q => [PrefL q.1 q.2]
 | none => []
theorem sideG_not {orc:List TV} {S:SS} {o:Oper} (h:grownO orc=false):sideG orc S o=[]:=by
 unfold sideG sideQ tgtG; rw [h]; rfl
def sCons (T:Tbl) (P:Program) (N:Fr) (S:SS) (o:Oper) (f:Nat) (xs:List Operand) (outs:List TV):SP :=
 match argsC T S o.type xs with
 | some (ins,some S1) => outS N S1 o.dst (retS outs) [PCons P f ins outs]
 | _ => none
def sMut (T:Tbl) (P:Program) (N:Fr) (S:SS) (o:Oper) (f:Nat) (xs:List Operand) (fin:TV) (outs:List TV):SP :=
 match argsM T S o.type xs with
 | some (ins,some (k,p,j)) => match placeOf S k p,lentS S k p fin with
   | some tv,some S1 => if lendOk tv.sh fin.sh then match o.dst,outs with
     | none,[] => some (keepS N S k p S1,[PMut P f ins [] (ins.set j fin)])
     | none,_ :: _ => none
     | some d,outs => outS N (keepS N S k p S1) (some d) (retS outs) [PMut P f ins outs (ins.set j fin)]
     else none
   | _,_ => none
 | _ => none
def sMapDel (T:Tbl) (P:Program) (S:SS) (o:Oper) (t:Nat) (X I:Operand):SP :=
 match o.dst,mapT T t,opd T S t X with
 | none,some (kt,et),some sv => match opv T S kt I with
   | some xt => match delMapV S xt sv with
     | some S' => some (S',[eqTy P 9 kt xt.sh=true])
     | none => none
   | none => none
 | _,_,_ => none
def sClo (T:Tbl) (P:Program) (N:Fr) (orc:List TV) (S:SS) (o:Oper) (s:Nat) (xs:List Operand):SP :=
 match S.get s with
 | some (.clo f caps) => match capsV S caps,argsO T S o.type xs with
   | some cs,some (ins,b) => if (orc.all fun t => t.sh.noRo) then outS N S o.dst (retS orc) [PCall P f (ins ++ cs) orc] else none
   | _,_ => none
 | some (.val (.fn f C) x) => match unpackT C x,argsO T S o.type xs with
   | some cs,some (ins,b) => if C.noOwn && (!b || (orc.all fun t => t.sh.noRo)) then outS N S o.dst (retS orc) [PCall P f (ins ++ cs) orc] else none
   | _,_ => none
 | _ => none
def sFunc (T:Tbl) (N:Fr) (S:SS) (o:Oper) (f:Nat) (first captured:Array Operand):SP :=
 match first.toList,capsO T S captured.toList with
 | [],some caps => outS N S o.dst (.clo f caps) []
 | _,_ => none
def sCall (T:Tbl) (P:Program) (N:Fr) (orc:List TV) (S:SS) (o:Oper) (c:Call):SP :=
 match c.callee with
 | .builtin .len => match c.args.toList,c.argTypes.toList with
   | [X],[t] => match opd T S t X with
     | some sv => match lenV S sv with
       | some n => if lenOk T S t sv then outS N S o.dst (.val (.int .i64) n) [] else none
       | none => none
     | none => none
   | _,_ => none
 | .builtin .append => match c.args.toList,c.argTypes.toList with
   | [X,Y],[t,t'] => if t'=t then if grownO orc then match appG T S t X Y with
     | some (k,p,tv,q) => outS N S o.dst (.grown k p tv) q
     | none => none
     else match appendV T S t X Y with
     | some (r,S1,q) => outS N S1 o.dst (.val r.sh r.x) q
     | none => none
     else none
   | _,_ => none
 | .builtin .delete => match c.args.toList,c.argTypes.toList with
   | [X,I],[t,t2] => sMapDel T P S o t X I
   | _,_ => none
 | .builtin b => match c.args.toList with
   | [X,Y] => match opv T S o.type X,opv T S o.type Y with
     | some x,some y => match mm2 b x y with
       | some r => outS N S o.dst (.val r.sh r.x) []
       | none => none
     | _,_ => none
   | _ => none
 | .value (.func f) => match mutO orc with
   | some (fin,outs) => sMut T P N S o f c.args.toList fin outs
   | none => match consO orc with
   | some outs => sCons T P N S o f c.args.toList outs
   | none => match argsO T S o.type c.args.toList with
   | some (ins,b) => if (!b || (orc.all fun t => t.sh.noRo))=true then outS N S o.dst (retS orc) [PCall P f ins orc] else none
   | none => none
 | .value (.tmp s) => match mutO orc,consO orc with
   | none,none => sClo T P N orc S o s c.args.toList
   | _,_ => none
 | _ => none
def sMapMake (T:Tbl) (N:Fr) (S:SS) (o:Oper) (t:Nat):SP :=
 match mapT T t with
 | some (kt,et) => match T.find kt,T.find et with
   | some ik,some ie => outS N S o.dst (.val (.mp true ik.zero.ro ie.zero.ro) (some [])) []
   | _,_ => none
 | none => none
def sLookup (T:Tbl) (P:Program) (N:Fr) (S:SS) (o:Oper) (t:Nat) (X I:Operand) (cok:Bool):SP :=
 match mapT T t,opd T S t X with
 | some (kt,et),some sv => match mapV S sv,opv T S kt I with
   | some ⟨.mp ow k v,m⟩,some ⟨k',x⟩ => if hk:k'=k then if valT T et v then
    outS N S o.dst (if cok then .tup [⟨v,mget k.beq m (hk ▸ x) v.dflt⟩,⟨.bool,mhas k.beq m (hk ▸ x)⟩] else .val v (mget k.beq m (hk ▸ x) v.dflt)) [eqTy P 9 kt k=true]
     else none
     else none
   | _,_ => none
 | _,_ => none
def sMapUpd (T:Tbl) (P:Program) (S:SS) (o:Oper) (t:Nat) (X I Y:Operand):SP :=
 match o.dst,mapT T t,opd T S t X with
 | none,some (kt,et),some sv => match opv T S kt I,opv T S et Y with
   | some xt,some yt => match updMapV T S t xt yt sv with
     | some S' => some (S',[eqTy P 9 kt xt.sh=true])
     | none => none
   | _,_ => none
 | _,_,_ => none
def stOp (T:Tbl) (S:SS) (xt:Nat) (X:Operand):Bool:=match opv T S xt X with
 | some ⟨.st _,_⟩ => true
 | _ => false
def sEq (T:Tbl) (P:Program) (N:Fr) (S:SS) (o:Oper) (op:BinOp) (xt:Nat) (X Y:Operand) (yt:Nat):SP :=
 match eqOp op,opv T S xt X,opv T S yt Y with
 | some b,some ⟨.st s,x⟩,some ⟨.st s',y⟩ => if h:s'=s then outS N S o.dst (.val .bool (bif b then Sh.beq (.st s) x (h ▸ y) else !(Sh.beq (.st s) x (h ▸ y)))) [eqTy P 9 xt (.st s)=true∧P.eqGuardType P.depth xt=false] else none
 | _,_,_ => none
def sBytes (T:Tbl) (N:Fr) (S:SS) (o:Oper) (src:Nat) (X:Operand):SP :=
 match opd T S src X with
 | some sv => match bytesV S sv with
   | some xs => outS N S o.dst (.val .str (strOfNums xs)) []
   | none => none
 | none => none
def step (T:Tbl) (P:Program) (N:Fr) (orc:List TV) (S:SS) (o:Oper):SP :=
 match o.op with
 | .move X => if takeB orc then (moveT N S X o.dst).map fun S' => (S',[]) else sMove T N S o X
 | .assign X => sAssign T N orc S o X
 | .pick G X Y => sPick T N S o G X Y
 | .alloc t => sAlloc T N S o t
 | .box t X => if keepBox N S X then (boxK N S t X o.dst).map fun S' => (S',[]) else sBox T N S o t X
 | .field st X j => sFieldV T N S o st X j
 | .build t parts => sBuild T N S o t parts
 | .buildSlice t n parts => sLit T N S o t n parts
 | .load t X => sLoad T N S o t X
 | .store t X Y => sStore T orc S o t X Y
 | .nilCheck X => sNil T N S o X
 | .binOp op xt X Y yt => if stOp T S xt X then sEq T P N S o op xt X Y yt else sBin T N S o op xt X Y yt
 | .unOp op xt X => sUn T N S o op xt X
 | .convert src dst X => if bytesT T src dst then sBytes T N S o src X else sConv T N S o src dst X
 | .makeSlice t X Y => sMake T N S o t X Y
 | .slice t X L H none => if grownO orc then sCutG T N S o t X L H else sSlice T N S o t X L H
 | .fieldAddr st X j => sField T N S o st X j
 | .indexAddr t X I => sIndexAddr T N S o t X I
 | .index t X I => sIndex T N S o t X I
 | .extract X j => sExtract N S o X j
 | .call c => sCall T P N orc S o c
 | .makeMap t none => sMapMake T N S o t
 | .lookup t X I cok => sLookup T P N S o t X I cok
 | .mapUpdate t X I Y => sMapUpd T P S o t X I Y
 | .insert t X I Y => sMapUpd T P S o t X I Y
 | .makeFunc (.func f) first captured => sFunc T N S o f first captured
 | _ => none
section
variable {P:Program} {T:Tbl} {Z:Fp} {F:Nat→Fp} {w0:World} {Wr Zi:Fp} {N:Fr} {S S' S1:SS} {a:Act} {w:World} {o:Oper} {c:List Prop}
theorem VReps.noOwn:∀ {ts:List TV} {vs:List Value} {f:Fp},(ts.all fun t => t.sh.noOwn)=true→VReps Z w ts vs f→VReps Z w ts vs (fun _ => False)
 | [],vs,f,_,h => ⟨h.1,fun _ => id⟩
 | t :: ts,vs,f,ha,h => by
   obtain ⟨v,vs',f1,f2,rfl,_,_,h1,h2⟩:=h
   simp only [List.all_cons,Bool.and_eq_true] at ha
   exact ⟨v,vs',fun _ => False,fun _ => False,rfl,fun i => ⟨.inl,fun h => h.elim id id⟩,fun i h => h.elim,VRep.noOwn ha.1 h1,VReps.noOwn ha.2 h2⟩
theorem sMut_ok (h:RelX Z F w0 Wr Zi N S a w) {f:Nat} {xs:Array Operand} {tys:Array TypeId} {fin:TV} {outs:List TV} (ho:o.op=.call { callee:=.value (.func f),args:=xs,argTypes:=tys })
 (hr:sMut T P N S o f xs.toList fin outs=some (S',c)) (hc:AllP c):Does P o a w (Rel w0 Wr Zi N S'):=by
 unfold sMut at hr
 split at hr
 ·rename_i ins k p j hx
  split at hr
  ·rename_i tv S1 hpl hl
   split at hr
   ·rename_i hroot
    obtain ⟨X,tv',_,_,q3,q4,_⟩:=argsM_some h hx
    have hj:j < ins.length:=(List.getElem?_eq_some_iff.1 q4).1
    have hfin:(ins.set j fin)[j]?=some fin:=by simp [hj]
    split at hr
    ·rename_i hd
     cases hr
     exact callM_ok h ho hx hfin hc.1 hl (.inl ⟨hd,rfl,rfl⟩) ⟨tv,hpl,hroot⟩
    ·cases hr
    ·rename_i d hd
     obtain ⟨q1,rfl⟩:=outS_some hr
     exact callM_ok h ho hx hfin hc.1 hl (.inr (by rw [hd]; exact q1)) ⟨tv,hpl,hroot⟩
   ·cases hr
  ·cases hr
 ·cases hr
theorem extractN_ok (h:RelX Z F w0 Wr Zi N S a w) {s j:Nat} {ts:List TV} {tv:TV} (ho:o.op=.extract (.tmp s) j) (hg:S.get s=some (.tup ts)) (hj:ts[j]?=some tv) (hn:(ts.all fun t => t.sh.noOwn)=true) (hp:putS N S o.dst (.val tv.sh tv.x)=some S'):Runs P o a w (Rel w0 Wr Zi N S'):=by
 obtain ⟨v,hv,vs,rfl,hvs⟩:=h.rep s _ (SS.get_mem hg)
 obtain ⟨u,f1,f2,q1,q2,q3,q4,q5⟩:=vreps_set hvs hj
 refine Runs.read h hp (v:=u) ?_ (VRep.noOwn (List.all_eq_true.1 hn tv (List.mem_of_getElem? hj)) q2)
 have hjl':vs[j]?=some u:=q1
 simp [execOp,ho,eval_of hv,Instr.extract,hjl']
theorem sMove_ok (h:RelX Z F w0 Wr Zi N S a w) {X:Operand} (ho:o.op=.move X∨o.op=.assign X) (hr:sMove T N S o X=some (S',c)):Runs P o a w (Rel w0 Wr Zi N S'):=by
 unfold sMove at hr
 split at hr
 ·exact move_ok h ho ‹_› (outS_some hr).1
 ·split at hr
  ·rename_i s _
   split at hr
   ·rename_i ts hg
    split at hr
    ·rename_i hall
     obtain ⟨v,hv,vs,rfl,hvs⟩:=h.rep s _ (SS.get_mem hg)
     refine Runs.read h (outS_some hr).1 (v:=.tuple vs.toArray) (by rcases ho with ho | ho <;> simp [execOp,ho,eval_of hv]) ⟨vs,rfl,VReps.noOwn hall hvs⟩
    ·cases hr
   ·cases hr
  ·cases hr
theorem sAssign_ok (h:RelX Z F w0 Wr Zi N S a w) {orc:List TV} {X:Operand} (ho:o.op=.assign X) (hr:sAssign T N orc S o X=some (S',c)):Runs P o a w (Rel w0 Wr Zi N S'):=by
 unfold sAssign at hr
 split at hr
 ·split at hr
  ·exact assign_ok h (.inl ho) ‹_› (outS_some hr).1
  ·cases hr
 ·exact sMove_ok h (.inr ho) hr
theorem pickO_rep (h:RelX Z F w0 Wr Zi N S a w) {ty g:Nat} {b cb:Bool} (hg:(g,SV.val .bool cb) ∈ S) {X:Operand} {tv:TV} (ho:pickO T S ty g b X=some tv):cb=b→VRep Z w tv.sh tv.x (a.eval X) (fun _ => False):=by
 intro hcb
 unfold pickO at ho
 split at ho
 ·rename_i s
  split at ho
  ·rename_i g' b' sh x hs
   split at ho
   ·rename_i hh
    obtain ⟨rfl,rfl,hn⟩:=hh
    cases ho
    obtain ⟨v,hv,hr⟩:=h.rep s _ (SS.get_mem hs)
    obtain ⟨vg,hvg,hrg⟩:=h.rep g' _ hg
    have:vg=.bool cb:=scal_eval (Z:=Z) (w:=w) (tv:=⟨.bool,cb⟩) rfl hrg
    rw [eval_of hv]
    exact VRep.noOwn hn (hr.1 (by rw [hvg,this,hcb]))
   ·cases ho
  ·exact opv_rep h ho
 ·exact opv_rep h ho
theorem appG_path {t k:Nat} {X Y:Operand} {p:Path} {tv:TV} {c:List Prop} (hr:appG T S t X Y=some (k,p,tv,c)):∃ q0 p0,p=q0 :: p0:=by
 unfold appG at hr
 repeat' split at hr
 all_goals first | cases hr; done | skip
 all_goals (cases hr; exact ⟨_,_,rfl⟩)
theorem appG_slot (h:RelX Z F w0 Wr Zi N S a w) {t k:Nat} {X Y:Operand} {p:Path} {tv:TV} {c:List Prop} (hr:appG T S t X Y=some (k,p,tv,c)):∃ s,X=.tmp s∧S.get s=some (.copy k p):=by
 have hX:opd T S t X=some (.copy k p)∧p≠[]:=by
  unfold appG at hr
  split at hr
  ·rename_i k' q p' hX
   repeat' split at hr
   all_goals first | cases hr; done | skip
   all_goals (cases hr; exact ⟨hX,by simp⟩)
  ·cases hr
 obtain ⟨hX,hp⟩:=hX
 cases X with
 | const v => simp [opd] at hX
 | func f => simp [opd] at hX
 | tmp s =>
   refine ⟨s,rfl,?_⟩
   simp only [opd] at hX
   split at hX
   ·split at hX
    ·cases hX
    ·split at hX
     ·cases hX; exact absurd rfl hp
     ·cases hX
   all_goals first | (rename_i hg; cases hX; exact hg) | cases hX
 | _ => simp [opd] at hX
theorem step_ok (hT:TOk P T) {orc:List TV} (h:RelX Z F w0 Wr Zi N S a w) (hr:step T P N orc S o=some (S',c)) (hc:AllP c) (hside:AllP (sideG orc S o)):Does P o a w (Rel w0 Wr Zi N S'):=by
 unfold step at hr
 split at hr
 ·split at hr
  ·obtain ⟨S2,e1,e2⟩:=Option.map_eq_some_iff.1 hr
   cases e2
   exact (moveT_ok h ‹_› e1).does
  ·exact (sMove_ok h (.inl ‹_›) hr).does
 ·exact (sAssign_ok h ‹_› hr).does
 ·rename_i G X Y ho
  unfold sPick at hr
  split at hr
  ·split at hr
   ·rename_i g cb hg
    split at hr
    ·rename_i s x s' y hx hy
     split at hr
     ·rename_i he
      subst he
      exact (pick_ok (s:=s') (x:=x) (y:=y) h ho hg (fun hcb => pickO_rep h (SS.get_mem hg) hx hcb) (fun hcb => pickO_rep h (SS.get_mem hg) hy hcb) (outS_some hr).1).does
     ·cases hr
    ·cases hr
   ·cases hr
  ·cases hr
 ·rename_i t ho
  unfold sAlloc at hr
  split at hr
  ·split at hr
   ·exact (alloc_ok hT h ho ‹_› ‹_› (outS_some hr).1).does
   ·cases hr
  ·cases hr
 ·rename_i t X ho
  split at hr
  ·obtain ⟨S2,e1,e2⟩:=Option.map_eq_some_iff.1 hr
   cases e2
   exact (boxK_ok h ho e1).does
  ·unfold sBox at hr
   split at hr
   ·split at hr
    ·cases hr
    ·exact (box_ok h ho ‹_› ‹_› (outS_some hr).1).does
   ·cases hr
 ·rename_i st X j ho
  unfold sFieldV at hr
  split at hr
  ·split at hr
   ·exact (field_ok hT h ho ‹_› ‹_› (outS_some hr).1).does
   ·cases hr
  ·cases hr
 ·rename_i t parts ho
  unfold sBuild at hr
  split at hr
  ·split at hr
   ·rename_i hl
    split at hr
    ·exact (build_ok hT h ho ‹_› (by simpa using hl) ‹_› (outS_some hr).1).does
    ·cases hr
   ·cases hr
  ·cases hr
 ·rename_i t n parts ho
  unfold sLit at hr
  split at hr
  ·rename_i hl
   simp only [Bool.and_eq_true,beq_iff_eq] at hl
   split at hr
   ·split at hr
    ·exact (buildSlice_ok hT h ho hl.1 hl.2 ‹_› ‹_› (outS_some hr).1).does
    ·cases hr
   ·cases hr
  ·cases hr
 ·rename_i t X ho
  unfold sLoad at hr
  split at hr
  ·split at hr
   ·exact (load_ok hT h ho ‹_› ‹_› (outS_some hr).1).does
   ·cases hr
  ·cases hr
 ·rename_i t X Y ho
  unfold sStore at hr
  split at hr
  ·rename_i y hy
   obtain rfl:=grownAt_some hy
   split at hr
   ·exact (storeG_ok hT h ho ‹_› hr hc).does
   ·cases hr
  split at hr
  ·rename_i tv S1 hd hy
   split at hr
   ·split at hr
    ·split at hr
     ·split at hr
      ·cases hr
       exact (storeK_ok hT h ho hd hy ‹_› ‹_›).does
      ·cases hr
     ·cases hr
      exact (store_ok hT h ho hd hy ‹_› ‹_›).does
    ·cases hr
   ·cases hr
  ·cases hr
 ·rename_i X ho
  unfold sNil at hr
  split at hr
  ·split at hr
   ·obtain ⟨q1,rfl⟩:=outS_some hr
    exact (nilCheck_ok h ho ‹_› ‹_› hc q1).does
   ·cases hr
  ·cases hr
 ·rename_i op xt X Y yt ho
  split at hr
  ·unfold sEq at hr
   split at hr
   ·rename_i b s x s' y e1 e2 e3
    split at hr
    ·rename_i hh
     subst hh
     obtain ⟨q1,rfl⟩:=outS_some hr
     exact (eqSt_ok h ho e1 hc.1.1 hc.1.2 e2 e3 q1).does
    ·cases hr
   ·cases hr
  ·unfold sBin at hr
   split at hr
   ·split at hr
    ·obtain ⟨q1,rfl⟩:=outS_some hr
     exact (binOp_ok hT h ho ‹_› ‹_› ‹_› hc q1).does
    ·cases hr
   ·cases hr
 ·rename_i op xt X ho
  unfold sUn at hr
  split at hr
  ·split at hr
   ·exact (unOp_ok h ho ‹_› ‹_› (outS_some hr).1).does
   ·cases hr
  ·cases hr
 ·rename_i src dst X ho
  split at hr
  ·rename_i hbt
   unfold sBytes at hr
   split at hr
   ·split at hr
    ·exact (bytes_ok hT h ho hbt ‹_› ‹_› (outS_some hr).1).does
    ·cases hr
   ·cases hr
  ·unfold sConv at hr
   split at hr
   ·split at hr
    ·split at hr
     ·exact (convert_int_ok hT h ho ‹_› ‹_› ‹_› ‹_› (outS_some hr).1).does
     ·cases hr
    ·cases hr
   ·cases hr
 ·rename_i t X Y ho
  unfold sMake at hr
  split at hr
  ·rename_i hXY
   have:=opEq_ok hXY
   subst this
   split at hr
   ·split at hr
    ·obtain ⟨q1,rfl⟩:=outS_some hr
     exact (makeSlice_ok hT h ho ‹_› ‹_› rfl ‹_› hc q1).does
    ·cases hr
   ·cases hr
  ·cases hr
 ·rename_i t X L H ho
  split at hr
  ·unfold sCutG at hr
   split at hr
   ·split at hr
    ·obtain ⟨q1,rfl⟩:=outS_some hr
     exact (cutG_ok hT h ho ‹_› hc.1 q1).does
    ·cases hr
   ·cases hr
  unfold sSlice at hr
  split at hr
  ·rename_i hstr
   obtain ⟨i,hi,hk⟩:=isStr_some hstr
   split at hr
   ·split at hr
    ·rename_i h1 h2
     obtain ⟨q1,rfl⟩:=outS_some hr
     exact (strSlice_ok hT h ho hi hk ‹_› (bnd_ok h1 hc.1.1) (bnd_ok h2 hc.1.2.1) hc.1.2.2.1 hc.1.2.2.2 q1).does
    ·cases hr
   ·cases hr
  ·split at hr
   ·split at hr
    ·split at hr
     ·rename_i h1 h2
      obtain ⟨q1,rfl⟩:=outS_some hr
      exact (roSlice_ok hT h ho ‹_› ‹_› (bnd_ok h1 hc.1.1) (bnd_ok h2 hc.1.2.1) hc.1.2.2.1 hc.1.2.2.2 q1).does
     ·cases hr
    ·cases hr
   ·split at hr
    ·split at hr
     ·split at hr
      ·obtain ⟨q1,rfl⟩:=outS_some hr
       exact (cut_ok hT h ho ‹_› ‹_› ‹_› hc.1.1 hc.1.2 q1).does
      ·cases hr
     ·cases hr
    ·cases hr
 ·rename_i st X j ho
  unfold sField at hr
  split at hr
  ·split at hr
   ·obtain ⟨q1,rfl⟩:=outS_some hr
    exact (fieldAddr_ok hT h ho ‹_› ‹_› hc q1).does
   ·cases hr
  ·cases hr
 ·rename_i t X I ho
  unfold sIndexAddr at hr
  split at hr
  ·split at hr
   ·obtain ⟨q1,rfl⟩:=outS_some hr
    exact (indexAddr_ok hT h ho ‹_› ‹_› ‹_› hc q1).does
   ·cases hr
  ·cases hr
 ·rename_i t X I ho
  unfold sIndex at hr
  split at hr
  ·rename_i hstr
   obtain ⟨i,hi,hk⟩:=isStr_some hstr
   split at hr
   ·obtain ⟨q1,rfl⟩:=outS_some hr
    exact (indexStr_ok hT h ho hi hk ‹_› ‹_› hc.1.1 hc.1.2 q1).does
   ·cases hr
  ·cases hr
 ·rename_i X j ho
  unfold sExtract at hr
  split at hr
  ·split at hr
   ·split at hr
    ·split at hr
     ·exact (extractN_ok h ho ‹_› ‹_› ‹_› (outS_some hr).1).does
     ·exact (extract_ok h ho ‹_› ‹_› (outS_some hr).1).does
    ·cases hr
   ·cases hr
  ·cases hr
 ·rename_i cl ho
  have hmk:∀ {l:List Operand},cl.args.toList=l→cl.args=l.toArray:=fun h => by apply Array.toList_inj.1; simpa using h
  have hmt:∀ {l:List TypeId},cl.argTypes.toList=l→cl.argTypes=l.toArray:=fun h => by apply Array.toList_inj.1; simpa using h
  unfold sCall at hr
  split at hr
  ·rename_i hcal
   split at hr
   ·rename_i X t hX ht
    split at hr
    ·split at hr
     ·split at hr
      ·refine (len_ok hT h (X:=X) (t:=t) ?_ ‹_› ‹_› ‹_› (outS_some hr).1).does
       rw [ho]; cases cl; simp only at hcal hmk hmt hX ht ⊢; rw [hcal,hmk hX,hmt ht]
      ·cases hr
     ·cases hr
    ·cases hr
   ·cases hr
  ·rename_i hcal
   split at hr
   ·rename_i X Y t t' hX ht
    split at hr
    ·rename_i he
     subst he
     split at hr
     ·rename_i hgo
      split at hr
      ·rename_i k p tv q hag
       obtain ⟨q1,rfl⟩:=outS_some hr
       refine (appendG_ok hT h (X:=X) (Y:=Y) (t:=t') ?_ hag hc ?_ q1).does
       ·rw [ho]; cases cl; simp only at hcal hmk hmt hX ht ⊢; rw [hcal,hmk hX,hmt ht]
       ·obtain ⟨s,hs,hgs⟩:=appG_slot h hag
        subst hs
        obtain ⟨q0,p0,hp⟩:=appG_path hag
        subst hp
        unfold sideG sideQ tgtG at hside
        rw [hgo,ho] at hside
        simp only [if_true,hX,hgs,Option.map_some] at hside
        exact hside.1
      ·cases hr
     split at hr
     ·obtain ⟨q1,rfl⟩:=outS_some hr
      refine (append_ok hT h (X:=X) (Y:=Y) ?_ ‹_› hc q1).does
      rw [ho]; cases cl; simp only at hcal hmk hmt hX ht ⊢; rw [hcal,hmk hX,hmt ht]
     ·cases hr
    ·cases hr
   ·cases hr
  ·rename_i hcal
   split at hr
   ·rename_i X I t t2 hX ht
    unfold sMapDel at hr
    split at hr
    ·rename_i kt et sv e0 e1 e2
     split at hr
     ·rename_i xt e3
      split at hr
      ·rename_i S2 e5
       cases hr
       refine (mapDelete_ok (t2:=t2) hT h ?_ e0 e1 hc.1 e2 e3 e5).does
       rw [ho]; cases cl; simp only at hcal hmk hmt hX ht ⊢; rw [hcal,hmk hX,hmt ht]
      ·cases hr
     ·cases hr
    ·cases hr
   ·cases hr
  ·rename_i b _ _ _ hcal
   split at hr
   ·rename_i X Y hX
    split at hr
    ·split at hr
     ·refine (mm2_ok h (X:=X) (Y:=Y) (b:=b) (ts:=cl.argTypes) ?_ ‹_› ‹_› ‹_› (outS_some hr).1).does
      rw [ho]; cases cl; simp only at hcal hmk hX ⊢; rw [hcal,hmk hX]
     ·cases hr
    ·cases hr
   ·cases hr
  ·rename_i f hcal
   split at hr
   ·rename_i fin outs hmut
    exact sMut_ok h (f:=f) (xs:=cl.args) (tys:=cl.argTypes) (by rw [ho]; cases cl; simp only at hcal ⊢; rw [hcal]) hr hc
   ·split at hr
    ·unfold sCons at hr
     split at hr
     ·obtain ⟨q1,rfl⟩:=outS_some hr
      exact callC_ok h (f:=f) (xs:=cl.args) (tys:=cl.argTypes) (by rw [ho]; cases cl; simp only at hcal ⊢; rw [hcal]) ‹_› hc.1 q1
     ·cases hr
    ·split at hr
     ·split at hr
      ·obtain ⟨q1,rfl⟩:=outS_some hr
       refine call_ok h (f:=f) (xs:=cl.args) (tys:=cl.argTypes) ?_ ‹_› ‹_› hc.1 q1
       rw [ho]; cases cl; simp only at hcal ⊢; rw [hcal]
      ·cases hr
     ·cases hr
  ·rename_i s hcal
   have ho':o.op=.call { callee:=.value (.tmp s),args:=cl.args,argTypes:=cl.argTypes }:=by rw [ho]; cases cl; simp only at hcal ⊢; rw [hcal]
   split at hr
   ·unfold sClo at hr
    split at hr
    ·rename_i f caps hs
     split at hr
     ·rename_i cs ins b e1 e2
      split at hr
      ·rename_i e3
       obtain ⟨q1,rfl⟩:=outS_some hr
       exact callClo_ok h ho' hs e1 e2 e3 hc.1 q1
      ·cases hr
     ·cases hr
    ·rename_i f C x hs
     split at hr
     ·rename_i cs ins b e1 e2
      split at hr
      ·rename_i e3
       simp only [Bool.and_eq_true] at e3
       obtain ⟨q1,rfl⟩:=outS_some hr
       exact callFn_ok h ho' hs e3.1 e1 e2 e3.2 hc.1 q1
      ·cases hr
     ·cases hr
    ·cases hr
   ·cases hr
  ·cases hr
 ·rename_i t ho
  unfold sMapMake at hr
  split at hr
  ·split at hr
   ·exact (makeMap_ok h ho (outS_some hr).1).does
   ·cases hr
  ·cases hr
 ·rename_i t X I cok ho
  unfold sLookup at hr
  split at hr
  ·rename_i kt et sv e1 e2
   split at hr
   ·rename_i ow k v m k' x e3 e4
    split at hr
    ·rename_i hk
     subst hk
     split at hr
     ·rename_i e5
      obtain ⟨q1,rfl⟩:=outS_some hr
      exact (lookup_ok hT h ho e1 hc.1 e5 e2 e3 e4 q1).does
     ·cases hr
    ·cases hr
   ·cases hr
  ·cases hr
 ·rename_i t X I Y ho
  unfold sMapUpd at hr
  split at hr
  ·rename_i kt et sv e0 e1 e2
   split at hr
   ·rename_i xt yt e3 e4
    split at hr
    ·rename_i S2 e5
     cases hr
     exact (mapUpdate_ok hT h (.inl ho) e0 e1 hc.1 e2 e3 e4 e5).does
    ·cases hr
   ·cases hr
  ·cases hr
 ·rename_i t X I Y ho
  unfold sMapUpd at hr
  split at hr
  ·rename_i kt et sv e0 e1 e2
   split at hr
   ·rename_i xt yt e3 e4
    split at hr
    ·rename_i S2 e5
     cases hr
     exact (mapUpdate_ok hT h (.inr ho) e0 e1 hc.1 e2 e3 e4 e5).does
    ·cases hr
   ·cases hr
  ·cases hr
 ·rename_i f first captured ho
  unfold sFunc at hr
  split at hr
  ·rename_i caps e1 e2
   exact (makeFunc_ok h ho e1 e2 (outS_some hr).1).does
  ·cases hr
 ·cases hr
end
end Go.Vm
