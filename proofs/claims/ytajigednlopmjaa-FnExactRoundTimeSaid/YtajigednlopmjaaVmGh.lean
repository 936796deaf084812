/- Functions that sort: they compare what they stand over by a function value, and swap by another. -/
import Derived.Test.YtajigednlopmjaaVmAn
import Derived.Sort.Defs
set_option linter.unusedVariables false
set_option linter.unusedSimpArgs false
namespace Go.Vm
open Go
def inX (X:Array Nat) (i j:Int):Prop:=(0≤i∧i < (X.size:Int))∧0≤j∧j < (X.size:Int)
instance {X:Array Nat} {i j:Int}:Decidable (inX X i j):=inferInstanceAs (Decidable (_∧_))
def lessF (fam:Fam) (X:Array Nat) (i j:Int):Bool:=fam.lt X[i.toNat]! X[j.toNat]!
def swpF (X:Array Nat) (i j:Int):Array Nat:=Go.Sort.swp X i.toNat j.toNat
def GLess (P:Program) (v:Value) (fam:Fam) (X:Array Nat) (i j:Int) (r:Bool):Prop :=
 ∃ g lb, v = .func (.func g) #[] lb ∧ (∃ fn, P.funcs[g]? = some fn ∧ (fn.name == "runtime.NumGoroutine") = false ∧ fn.body.isSome = true) ∧
   ∀ w f,fam.J X w f→Calls P g (#[.int .i64 i,.int .i64 j] ++ lb) w fun e w' => e=.returned (.bool r)∧Grow (fun _ => False) w w'
def GSwap (P:Program) (v:Value) (fam:Fam) (X:Array Nat) (i j:Int) (X':Array Nat):Prop :=
 ∃ g lb,v=.func (.func g) #[] lb∧∀ w f,fam.J X w f→∃ w' f',(callFunc g (#[.int .i64 i,.int .i64 j] ++ lb)).run P w=.ok (.value (.tuple #[])) w' ∧
   fam.J X' w' f' ∧ (∀ i,f' i→f i∨w.heap.size≤i)∧Grow f w w'
structure FamOk (P:Program) (lv sv:Value) (fam:Fam):Prop where
 less:∀ X i j,inX X i j→GLess P lv fam X i j (lessF fam X i j)
 swap:∀ X i j,inX X i j→GSwap P sv fam X i j (swpF X i j)
inductive GSp where
 | less (r:Bool)
 | swap (X:Array Nat)
 | fnv
def ghOf (S:SS) (s:Nat):Option (Value × Fam × Array Nat):=match S.get s with
 | some (.val (.gh _) x) => some x
 | some (.copy k p) => match placeOf S k p with
   | some ⟨.gh _,x⟩ => some x
   | _ => none
 | _ => none
def lessS (T:Tbl) (P:Program) (N:Fr) (S:SS) (o:Oper) (r:Bool):SP:=match o.op with
 | .call c => match c.callee,argsO T S o.type c.args.toList with
   | .value (.tmp s),some ([⟨.int .i64,i⟩,⟨.int .i64,j⟩],false) => match ghOf S s with
     | some x => outS N S o.dst (.val .bool r) [GLess P x.1 x.2.1 x.2.2 i j r]
     | none => none
   | _,_ => none
 | _ => none
def lessG (T:Tbl) (P:Program) (N:Fr) (S:SS) (ops:Array Oper) (o:Oper) (r:Bool):SP:=match o.guard with
 | none => lessS T P N S o r
 | some (j,b) => match (ops[j]?).bind (·.dst),o.dst with
   | some g,some d => match gprop S 8 g b with
     | some (p,ch) => if (S.all fun e => e.2.flat) && (ch.all fun e => !(e.1 == d)) then match lessS T P N (S.strip ch) o r with
       | some (S',c) => match S'.get d with
         | some sv => if refsIn S sv && !(sv.refs d) && !(sv.tests d) then some (S.put d (.cond g b sv),c.map fun q => (p→q)) else none
         | none => none
       | none => none
       else none
     | none => none
   | _,_ => none
def swapS (T:Tbl) (P:Program) (N:Fr) (S:SS) (o:Oper) (X':Array Nat):SP:=match o.op,o.guard with
 | .call c,none => match c.callee,argsO T S o.type c.args.toList,S.get 0 with
   | .value (.tmp s),some ([⟨.int .i64,i⟩,⟨.int .i64,j⟩],false),some (.copy k [.der]) => match S.get s,placeOf S k [.der] with
     | some (.val .raw sv),some ⟨.st (.pair (.gh true) .raw),x⟩ => match lentS S k [.der] ⟨.st (.pair (.gh true) .raw),((x.1.1,x.1.2.1,X'),x.2)⟩,o.dst with
       | some S1,none => some (keepS N S k [.der] S1,[GSwap P sv x.1.2.1 x.1.2.2 i j X'])
       | some S1,some d => outS N (keepS N S k [.der] S1) (some d) (retS []) [GSwap P sv x.1.2.1 x.1.2.2 i j X']
       | none,_ => none
     | _,_ => none
   | _,_,_ => none
 | _,_ => none
def fnvS (T:Tbl) (N:Fr) (S:SS) (o:Oper):SP:=match o.op,o.guard with
 | .makeFunc (.func f) first cap,none => match argsO T S o.type cap.toList with
   | some (ts,false) => if first.toList.isEmpty && (ts.all fun t => oneSh t.sh) then outS N S o.dst (.val (.fn f (packT ts).sh) (packT ts).x) [] else none
   | _ => none
 | _,_ => none
section
variable {P:Program} {T:Tbl} {Z:Fp} {F:Nat→Fp} {w0:World} {Wr Zi:Fp} {N:Fr} {S S' S1:SS} {a:Act} {w:World} {o:Oper}
theorem gh_rep {b:Bool} {x:(Sh.gh b).den} {v:Value} {f:Fp} (h:VRep Z w (.gh b) x v f):v=x.1∧∃ fg,x.2.1.J x.2.2 w fg:=by
 obtain ⟨cs,hc,hv⟩:=h
 simp only [ValOf] at hv
 subst hv
 cases b with
 | true => obtain ⟨⟨h1,_⟩,h2⟩:=hc; exact ⟨by simpa using h1,_,h2⟩
 | false => obtain ⟨⟨h1,_⟩,_,fg,_,h2⟩:=hc; exact ⟨by simpa using h1,fg,h2⟩
theorem ghOf_rep (h:RelX Z F w0 Wr Zi N S a w) {s:Nat} {x:Value × Fam × Array Nat} (hg:ghOf S s=some x):a.eval (.tmp s)=x.1∧∃ fg,x.2.1.J x.2.2 w fg:=by
 unfold ghOf at hg
 split at hg
 ·rename_i b y hs
  cases hg
  obtain ⟨v,hv,hr⟩:=h.rep s _ (SS.get_mem hs)
  obtain ⟨e,hJ⟩:=gh_rep hr
  exact ⟨by rw [eval_of hv]; exact e,hJ⟩
 ·rename_i k p hs
  split at hg
  ·rename_i b y hpl
   cases hg
   obtain ⟨v,hv,hr⟩:=h.rep s _ (SS.get_mem hs)
   obtain ⟨f',hr',_⟩:=copy_rep h hr.2 hpl
   obtain ⟨e,hJ⟩:=gh_rep hr'
   exact ⟨by rw [eval_of hv]; exact e,hJ⟩
  ·cases hg
 ·cases hg
theorem int_arg {k:IntKind} {i:Int} {v:Value} {f:Fp} (h:VRep Z w (.int k) i v f):v=.int k i:=by
 obtain ⟨cs,hc,hv⟩:=h
 simp only [ValOf] at hv
 subst hv
 simpa using hc.1
theorem two_ints {i j:Int} {vs:List Value} {f:Fp} (h:VReps Z w [⟨.int .i64,i⟩,⟨.int .i64,j⟩] vs f):vs=[.int .i64 i,.int .i64 j]:=by
 obtain ⟨v1,r1,_,_,rfl,_,_,h1,v2,r2,_,_,rfl,_,_,h2,rfl,_⟩:=h
 rw [int_arg h1,int_arg h2]
theorem lessS_ok (h:RelX Z F w0 Wr Zi N S a w) {r:Bool} {c:List Prop} (hl:lessS T P N S o r=some (S',c)) (hc:AllP c):Does P o a w (Rel w0 Wr Zi N S'):=by
 unfold lessS at hl
 split at hl
 ·rename_i c0 hop
  split at hl
  ·rename_i s i j hcal hx
   split at hl
   ·rename_i x hg
    obtain ⟨hp,rfl⟩:=outS_some hl
    obtain ⟨c1,xs,tys⟩:=c0
    simp only at hcal hx
    subst hcal
    obtain ⟨r1,r2⟩:=argsO_rep h hx
    have hargs:=two_ints (r2 rfl)
    obtain ⟨hev,fg,hJ⟩:=ghOf_rep h hg
    obtain ⟨g,lb,hv,⟨fn,hfn,hname,hbody⟩,hcall⟩:=hc.1
    rw [hv] at hev
    intro K Q hK
    obtain ⟨d,hd,hlt,h1,h2,rfl⟩:=putS_some hp
    have hrun:(execOp a.eval o).run P w=.ok (.enter g (#[.int .i64 i,.int .i64 j] ++ lb)) w:=by
     have:(xs.map a.eval)=#[.int .i64 i,.int .i64 j]:=by apply Array.toList_inj.1; simpa using hargs
     have hname' : ¬ fn.name = "runtime.NumGoroutine" := by simpa using hname
     have hbody':¬ fn.body=none:=by intro e; rw [e] at hbody; cases hbody
     simp [execOp,hop,resolve,hev,Deferred.ofValue,invoke,callFunc,hfn,hname',hbody',this]
    unfold Oper.wp
    rw [hrun,Oper.upon_enter]
    refine (hcall w fg hJ).mono ?_
    rintro e w' ⟨rfl,hgr⟩
    refine hK _ _ ?_
    rw [hd]
    have h3:=h.grown (w':=w') hgr (fun _ => False) (fun i hi => hi.elim)
    exact ⟨_,_,h3.putR (d:=d) (sv:=.val .bool r) (v:=.bool r) (by rw [h.tsize]; exact hlt.1) (fun hm => absurd hm hlt.2) ⟨_,⟨rfl,fun _ => id⟩,rfl⟩ h1 h2⟩
   ·cases hl
  ·cases hl
 ·cases hl
theorem lessS_pure {r:Bool} {c:List Prop} (hl:lessS T P N S o r=some (S',c)):∃ k sv,o.dst=some k ∧ (k < N.n∧k ∉ N.keep)∧S'=S.put k sv∧sv.refs k=false∧sv.tests k=false:=by
 unfold lessS at hl
 split at hl
 ·split at hl
  ·split at hl
   ·exact outS_put hl
   ·cases hl
  ·cases hl
 ·cases hl
theorem lessG_ok {ops:Array Oper} (h:RelX Z F w0 Wr Zi N S a w) {r:Bool} {c:List Prop} (hr:lessG T P N S ops o r=some (S',c)) (hc:AllP c):DoesG P ops o a w (Rel w0 Wr Zi N S'):=by
 intro K Q hK
 unfold lessG at hr
 split at hr
 ·rename_i hgd
  rw [if_pos (by simp [Region.wanted,hgd])]
  exact lessS_ok h hr hc K Q hK
 ·rename_i j b hgd
  split at hr
  ·rename_i g d hg hd
   split at hr
   ·rename_i p ch hp
    split at hr
    ·rename_i hchk
     simp only [Bool.and_eq_true] at hchk
     obtain ⟨hflat,hchd⟩:=hchk
     split at hr
     ·rename_i S2 c2 hst
      split at hr
      ·rename_i sv hsv
       split at hr
       ·rename_i hck
        simp only [Bool.and_eq_true,Bool.not_eq_true'] at hck
        obtain ⟨⟨hrefs,hrd⟩,htd⟩:=hck
        cases hr
        obtain ⟨i1,i2,i3⟩:=gprop_ok h hp
        have hchd':∀ e ∈ ch,e.1≠d:=fun e he => by
         have:=List.all_eq_true.1 hchd e he
         simpa using this
        have hgd':g≠d:=hchd' _ i3
        have hy:yielded ops a.tmps j=match a.tmps[g]? with | some (.bool b) => some b | _ => none:=by
         unfold yielded
         rw [hg]
         rfl
        obtain ⟨k,sv2,hk,hkN,rfl,hr2,ht2⟩:=lessS_pure hst
        rw [hd] at hk
        obtain rfl:d=k:=by simpa using hk
        rw [SS.get_put_same] at hsv
        obtain rfl:sv2=sv:=by simpa using hsv
        by_cases hpp:p
        ·have hgv:=i1.1 hpp
         rw [if_pos (by simp [Region.wanted,hgd,hy,hgv])]
         have hch:=i2 hpp
         have h2:=h.strip hch hflat
         refine wp_put hd (lessS_ok h2 hst (hc.guard hpp)) K Q ?_
         rintro a' w' ⟨⟨Z1,F1,hrel⟩,htm⟩
         exact hK _ _ ⟨Z1,F1,h.merge hch hflat hrel htm hchd' i3 hrefs hrd htd⟩
        ·have hgv:a.tmps[g]?≠some (.bool b):=fun e => hpp (i1.2 e)
         have hnw:Region.wanted o (yielded ops a.tmps)=false:=by
          simp only [Region.wanted,hgd,hy]
          cases hq:a.tmps[g]? with
          | none => simp
          | some v =>
            cases v <;> simp
            rename_i b'
            intro e
            exact hgv (by rw [hq,e])
         rw [hnw]
         simp only [Bool.false_eq_true,if_false]
         refine hK _ _ ?_
         rw [hd]
         refine ⟨Z,_,h.putG (d:=d) (sv:=.cond g b sv2) (v:=undef) (f:=fun _ => False) (U:=fun _ => False) (by rw [h.tsize]; exact hkN.1) (fun hm => absurd hm hkN.2) (Grow.refl _ _) (fun i hi => hi.elim) (fun i hi => hi.elim) ⟨fun e => ?_,fun _ => rfl⟩⟩
         rw [put_other a d g undef hgd'] at e
         exact absurd e hgv
       ·cases hr
      ·cases hr
     ·cases hr
    ·cases hr
   ·cases hr
  ·cases hr
theorem data_rep {x:(Sh.st (.pair (.gh true) .raw)).den} {v:Value} {f:Fp} (h:VRep Z w (.st (.pair (.gh true) .raw)) x v f):v=.agg #[x.1.1,x.2]∧x.1.1.oneCell'=true∧x.2.oneCell'=true∧x.1.2.1.J x.1.2.2 w f:=by
 obtain ⟨cs,⟨c1,c2,f1,f2,rfl,he,hd,⟨⟨rfl,h1⟩,h2⟩,⟨rfl,h3⟩,h4⟩,hv⟩:=h
 have:f1=f:=funext fun i => propext ⟨fun hi => (he i).2 (.inl hi),fun hi => ((he i).1 hi).elim id (fun h => absurd h (h4 i))⟩
 subst this
 exact ⟨hv,h1,h3,h2⟩
theorem data_mk {x:(Sh.st (.pair (.gh true) .raw)).den} {f:Fp} (h1:x.1.1.oneCell'=true) (h2:x.2.oneCell'=true) (h3:x.1.2.1.J x.1.2.2 w f):VRep Z w (.st (.pair (.gh true) .raw)) x (.agg #[x.1.1,x.2]) f :=
 ⟨_,⟨[x.1.1],[x.2],f,fun _ => False,rfl,fun i => ⟨.inl,fun h => h.elim id False.elim⟩,fun i _ h => h,⟨⟨rfl,h1⟩,h3⟩,⟨rfl,h2⟩,fun _ => id⟩,rfl⟩
theorem swapS_ok {ops:Array Oper} (h:RelX Z F w0 Wr Zi N S a w) {X':Array Nat} {c:List Prop} (hr:swapS T P N S o X'=some (S',c)) (hc:AllP c):DoesG P ops o a w (Rel w0 Wr Zi N S'):=by
 intro K Q hK
 unfold swapS at hr
 split at hr
 ·rename_i c0 hop hgd
  rw [if_pos (by simp [Region.wanted,hgd])]
  split at hr
  ·rename_i s i j k hcal hx hg0
   split at hr
   ·rename_i sv x hs hpl
    have key:∀ S1,lentS S k [.der] ⟨.st (.pair (.gh true) .raw),((x.1.1,x.1.2.1,X'),x.2)⟩=some S1→GSwap P sv x.1.2.1 x.1.2.2 i j X' → ((o.dst=none∧S'=keepS N S k [.der] S1)∨putS N (keepS N S k [.der] S1) o.dst (retS [])=some S')→o.wp P a w K Q:=by
     intro S1 hl hsw hp
     obtain ⟨c1,xs,tys⟩:=c0
     simp only at hcal hx
     subst hcal
     obtain ⟨r1,r2⟩:=argsO_rep h hx
     have hargs:=two_ints (r2 rfl)
     obtain ⟨u,hu,hru⟩:=h.rep 0 _ (SS.get_mem hg0)
     obtain ⟨v,hv,cs,⟨⟨rfl,_⟩,_⟩,hval⟩:=h.rep s _ (SS.get_mem hs)
     obtain rfl:sv=v:=by simpa [ValOf] using hval
     obtain ⟨g,lb,hsv,hcall⟩:=hsw
     unfold lentS at hl
     split at hl
     ·rename_i sh y hg
      split at hl
      ·rename_i rr hup
       cases hl
       obtain ⟨vh,f',hvh,hplace,hsub,hblk,hput⟩:=copy_put h hru.2 hpl (fin:=⟨.st (.pair (.gh true) .raw),((x.1.1,x.1.2.1,X'),x.2)⟩) rfl hg hup
       obtain ⟨e1,e2,e3,hJ⟩:=data_rep hplace
       obtain ⟨w',f2,hcf,hJ2,hf2,hgr⟩:=hcall w f' hJ
       have hrun:(execOp a.eval o).run P w=.ok (.value (.tuple #[])) w':=by
        have:(xs.map a.eval)=#[.int .i64 i,.int .i64 j]:=by apply Array.toList_inj.1; simpa using hargs
        have hev:a.eval (.tmp s)=.func (.func g) #[] lb:=by rw [eval_of hv,hsv]
        simp [execOp,hop,resolve,hev,Deferred.ofValue,invoke,this]
        simpa using hcf
       unfold Oper.wp
       rw [hrun,Oper.upon_value]
       refine hK _ _ ?_
       have hrep2:VRep (fun i => Z i∨False) w' (.st (.pair (.gh true) .raw)) ((x.1.1,x.1.2.1,X'),x.2) u f2:=by
        rw [e1]
        exact data_mk (x:=((x.1.1,x.1.2.1,X'),x.2)) e2 e3 hJ2
       obtain ⟨f3,hr3,hf3⟩:=hput (fun i => Z i∨False) w' f2 (fun i => .inl) hgr hrep2 hf2
       have h2':=h.turn (Zn:=fun _ => False) (f:=f3) (U:=f') hvh hgr hsub (fun i hi => hi.elim) (fun i hi => ?_) hr3
       ·obtain ⟨F3,h2,hF3⟩:=keepS_ok (p:=[.der]) h h2' hvh (fun b hb => by
         by_cases hlt:b < w.heap.size
         ·exact hgr.block b hlt (hblk (by simp) b hb)
         ·have hFk:=home_block h hg hup (by simp) hvh hb (by obtain ⟨s9,x9,hg9,hr9,_⟩:=placeOf_some hpl; rw [hg] at hg9; cases hg9; exact hr9)
          exact absurd (h.lt k b hFk) hlt)
        rcases hp with ⟨hd,rfl⟩ | hp
        ·rw [hd]
         exact ⟨_,_,h2⟩
        ·obtain ⟨d,hd,hlt,hrd,htd,rfl⟩:=putS_some hp
         rw [hd]
         exact ⟨_,_,h2.putR (d:=d) (sv:=retS []) (v:=RetV []) (by rw [h.tsize]; exact hlt.1) (fun hm => absurd hm hlt.2) (retS_rep (outs:=[]) (vs:=[]) (Fr:=fun _ => False) ⟨rfl,fun _ => id⟩) hrd htd⟩
       ·rcases hf3 i hi with h' | h'
        ·exact ⟨Nat.lt_of_lt_of_le (h.lt k i h') hgr.size,.inl h',id⟩
        ·refine ⟨x.1.2.1.low _ _ _ hJ2 i h',?_,id⟩
         exact (hf2 i h').imp (hsub i) id
      ·cases hl
     ·cases hl
    split at hr
    ·rename_i S1 hl hd
     cases hr
     exact key _ hl hc.1 (.inl ⟨hd,rfl⟩)
    ·rename_i S1 d hl hd
     obtain ⟨hp,rfl⟩:=outS_some hr
     exact key _ hl hc.1 (.inr (by rw [hd]; exact hp))
    ·cases hr
   ·cases hr
  ·cases hr
 ·cases hr
theorem fnvS_ok {ops:Array Oper} (h:RelX Z F w0 Wr Zi N S a w) {c:List Prop} (hr:fnvS T N S o=some (S',c)):DoesG P ops o a w (Rel w0 Wr Zi N S'):=by
 intro K Q hK
 unfold fnvS at hr
 split at hr
 ·rename_i f first cap hop hgd
  rw [if_pos (by simp [Region.wanted,hgd])]
  split at hr
  ·rename_i ts hx
   split at hr
   ·rename_i hcond
    simp only [Bool.and_eq_true] at hcond
    obtain ⟨hp,rfl⟩:=outS_some hr
    obtain ⟨r1,r2⟩:=argsO_rep h hx
    have hfirst:first=#[]:=by apply Array.toList_inj.1; simpa using hcond.1
    refine (Runs.read h hp (v:=.func (.func f) #[] (cap.toList.map a.eval).toArray) ?_ ?_).does K Q hK
    ·have:cap.map a.eval = (cap.toList.map a.eval).toArray:=by apply Array.toList_inj.1; simp
     simp [execOp,hop,Instr.makeFunc,hfirst,this]
    ·exact ⟨_,⟨_,rfl,packT_rep hcond.2 (r2 rfl)⟩,rfl⟩
   ·cases hr
  ·cases hr
 ·cases hr
end
def sxG (T:Tbl) (P:Program) (N:Fr) (orc:Nat→List TV) (sp:List (Nat × GSp)) (ops:Array Oper):Sx:=fun i S => match sp.find? fun x => Nat.beq x.1 i with
 | some x => match ops[i]? with
   | some o => match x.2 with
     | .less r => lessG T P N S ops o r
     | .swap X' => swapS T P N S o X'
     | .fnv => fnvS T N S o
   | none => none
 | none => sx0 T P N orc ops i S
theorem sxG_ok {T:Tbl} {P:Program} (hT:TOk P T) {w0:World} {Wr Zi:Fp} {N:Fr} {orc:Nat→List TV} {sp:List (Nat × GSp)} {ops:Array Oper}:SxOk T P w0 Wr Zi N ops (sxG T P N orc sp ops):=by
 intro i o Z F S S' c a w ho hs hc h
 unfold sxG at hs
 split at hs
 ·rename_i x hx
  rw [ho] at hs
  simp only at hs
  split at hs
  ·exact lessG_ok h hs hc
  ·exact swapS_ok h hs hc
  ·exact fnvS_ok h hs
 ·exact sx0_ok hT i o Z F S S' c a w ho hs hc h
theorem wp_ifc {P:Program} {Q:Exit→Act→World→Prop} {a:Act} {w:World} {b:Bool} {x y:Code} (h:(if b=true then x else y).wp P Q a w):(Code.cond (.const (.bool b)) x y).wp P Q a w :=
 wp_cond_split (c:=.const (.bool b)) (t:=b) rfl (fun e => by rw [e] at h; simpa using h) (fun e => by rw [e] at h; simpa using h)
end Go.Vm
