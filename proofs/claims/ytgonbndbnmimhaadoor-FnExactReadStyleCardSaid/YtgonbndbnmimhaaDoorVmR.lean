/- Regions, branches, loops; entering a function and returning. -/
import Derived.Test.YtgonbndbnmimhaaDoorVmQ
import Derived.LoopN
set_option linter.unusedVariables false
set_option linter.unusedSimpArgs false
namespace Go.Vm
open Go
def plainO (S:SS):Operand→Bool
 | .const _ => true
 | .tmp s => match S.get s with
   | some (.val sh _) => sh.noOwn
   | _ => false
 | _ => false
theorem plain_take {T:Tbl} {S S1:SS} {ty:Nat} {X:Operand} {tv:TV} (hp:plainO S X=true) (h:takeO T S ty X=some (tv,S1)):S1=S:=by
 cases X with
 | const v =>
   simp only [takeO,Option.map_eq_some_iff,Prod.mk.injEq] at h
   obtain ⟨t,_,_,e⟩:=h
   exact e.symm
 | tmp s =>
   simp only [plainO] at hp
   split at hp
   ·rename_i sh x hg
    simp only [takeO,hg,hp,if_true,Option.some.injEq,Prod.mk.injEq] at h
    exact h.2.symm
   ·cases hp
 | _ => simp [takeO] at h
theorem plain_keep {N:Fr} {S:SS} {X:Operand} (hp:plainO S X=true):keepBox N S X=false:=by
 cases X with
 | tmp s =>
   simp only [plainO] at hp
   simp only [keepBox]
   split at hp
   ·rename_i sh x hg
    rw [hg]; simp [hp]
   ·cases hp
 | _ => rfl
theorem plain_takeL {T:Tbl} {S:SS} {ty:Nat}:∀ {l:List Operand} {S1:SS} {tvs:List TV},l.all (plainO S)=true→takeL T S ty l=some (tvs,S1)→S1=S
 | [],S1,tvs,_,h => by cases h; rfl
 | X :: r,S1,tvs,hp,h => by
   simp only [List.all_cons,Bool.and_eq_true] at hp
   simp only [takeL] at h
   split at h
   ·rename_i tv S2 h2
    obtain rfl:=plain_take hp.1 h2
    split at h
    ·rename_i tvs' S3 h3
     cases h
     exact plain_takeL hp.2 h3
    ·cases h
   ·cases h
def pureOp (orc:List TV) (T:Tbl) (S:SS) (o:Oper):Bool :=
 match o.op with
 | .assign X => !ownAt S X && !takeB orc
 | .build _ parts => (parts.toList.map (·.2)).all (plainO S)
 | .buildSlice _ _ parts => (parts.toList.map (·.2)).all (plainO S)
 | .box _ X => plainO S X
 | .field _ X _ => plainO S X
 | .extract (.tmp s) _ => match S.get s with
   | some (.tup ts) => ts.all fun t => t.sh.noOwn
   | _ => false
 | .move _ => !takeB orc
 | .pick _ _ _ => true
 | .alloc _ => true
 | .load _ _ => true
 | .nilCheck _ => true
 | .binOp _ _ _ _ _ => true
 | .unOp _ _ _ => true
 | .convert _ _ _ => true
 | .makeSlice _ _ _ => true
 | .slice t X _ _ none => !(grownO orc) && (isStr T t || (match opd T S t X with
   | some (.val (.sl false _ _) _) => true
   | _ => false))
 | .fieldAddr _ _ _ => true
 | .indexAddr _ _ _ => true
 | .index _ _ _ => true
 | .makeMap _ none => true
 | .lookup _ _ _ _ => true
 | .makeFunc _ _ _ => true
 | .call c => match c.callee with
   | .builtin .len => true
   | .builtin .min => true
   | .builtin .max => true
   | .builtin .append => grownO orc
   | .value _ => (mutO orc).isNone && (consO orc).isNone
   | _ => false
 | _ => false
theorem outS_put {N:Fr} {S S':SS} {dst:Option Nat} {sv:SV} {c d:List Prop} (h:outS N S dst sv c=some (S',d)):∃ k sv,dst=some k ∧ (k < N.n∧k ∉ N.keep)∧S'=S.put k sv∧sv.refs k=false∧sv.tests k=false:=by
 obtain ⟨k,h1,h2,h3,h4,h5⟩:=putS_some (outS_some h).1
 exact ⟨k,sv,h1,h2,h5,h3,h4⟩
theorem step_pure {T:Tbl} {P:Program} {N:Fr} {orc:List TV} {S S':SS} {o:Oper} {c:List Prop} (hp:pureOp orc T S o=true) (h:step T P N orc S o=some (S',c)):∃ k sv,o.dst=some k ∧ (k < N.n∧k ∉ N.keep)∧S'=S.put k sv∧sv.refs k=false∧sv.tests k=false:=by
 unfold step at h
 split at h
 ·rename_i X ho
  have hn:takeB orc=false:=by simpa [pureOp,ho] using hp
  rw [if_neg (by rw [hn]; simp)] at h
  unfold sMove at h; split at h
  ·exact outS_put h
  ·split at h
   ·split at h
    ·split at h
     ·exact outS_put h
     ·cases h
    ·cases h
   ·cases h
 ·rename_i X ho
  have hn:ownAt S X=false∧takeB orc=false:=by simpa [pureOp,ho] using hp
  unfold sAssign at h
  rw [if_neg (by simp [hn.1,hn.2])] at h
  unfold sMove at h; split at h
  ·exact outS_put h
  ·split at h
   ·split at h
    ·split at h
     ·exact outS_put h
     ·cases h
    ·cases h
   ·cases h
 ·unfold sPick at h
  split at h
  ·split at h
   ·split at h
    ·split at h
     ·exact outS_put h
     ·cases h
    ·cases h
   ·cases h
  ·cases h
 ·unfold sAlloc at h
  split at h
  ·split at h
   ·exact outS_put h
   ·cases h
  ·cases h
 ·rename_i t X ho
  have hn:plainO S X=true:=by simpa only [pureOp,ho] using hp
  rw [if_neg (by rw [plain_keep hn]; simp)] at h
  unfold sBox at h
  split at h
  ·rename_i tv S1 e1
   obtain rfl:=plain_take hn e1
   split at h
   ·cases h
   ·exact outS_put h
  ·cases h
 ·rename_i st X j ho
  have hn:plainO S X=true:=by simpa only [pureOp,ho] using hp
  unfold sFieldV at h
  split at h
  ·rename_i tv S1 e1
   obtain rfl:=plain_take hn e1
   split at h
   ·exact outS_put h
   ·cases h
  ·cases h
 ·rename_i t parts ho
  have hn:(parts.toList.map (·.2)).all (plainO S)=true:=by simpa only [pureOp,ho] using hp
  unfold sBuild at h
  split at h
  ·rename_i tvs S1 e1
   obtain rfl:=plain_takeL hn e1
   split at h
   ·split at h
    ·exact outS_put h
    ·cases h
   ·cases h
  ·cases h
 ·rename_i t n parts ho
  have hn:(parts.toList.map (·.2)).all (plainO S)=true:=by simpa only [pureOp,ho] using hp
  unfold sLit at h
  split at h
  ·split at h
   ·rename_i tvs S1 e1
    obtain rfl:=plain_takeL hn e1
    split at h
    ·exact outS_put h
    ·cases h
   ·cases h
  ·cases h
 ·unfold sLoad at h
  split at h
  ·split at h
   ·exact outS_put h
   ·cases h
  ·cases h
 ·rename_i ho; simp [pureOp,ho] at hp
 ·unfold sNil at h
  split at h
  ·split at h
   ·exact outS_put h
   ·cases h
  ·cases h
 ·split at h
  ·unfold sEq at h
   split at h
   ·split at h
    ·exact outS_put h
    ·cases h
   ·cases h
  ·unfold sBin at h
   split at h
   ·split at h
    ·exact outS_put h
    ·cases h
   ·cases h
 ·unfold sUn at h
  split at h
  ·split at h
   ·exact outS_put h
   ·cases h
  ·cases h
 ·split at h
  ·unfold sBytes at h
   split at h
   ·split at h
    ·exact outS_put h
    ·cases h
   ·cases h
  ·unfold sConv at h
   split at h
   ·split at h
    ·split at h
     ·exact outS_put h
     ·cases h
    ·cases h
   ·cases h
 ·unfold sMake at h
  split at h
  ·split at h
   ·split at h
    ·exact outS_put h
    ·cases h
   ·cases h
  ·cases h
 ·rename_i t X L H ho
  simp only [pureOp,ho,Bool.and_eq_true,Bool.not_eq_true'] at hp
  rw [if_neg (by rw [hp.1]; simp)] at h
  replace hp:=hp.2
  unfold sSlice at h
  split at h
  ·split at h
   ·split at h
    ·exact outS_put h
    ·cases h
   ·cases h
  ·split at h
   ·split at h
    ·split at h
     ·exact outS_put h
     ·cases h
    ·cases h
   ·rename_i hns _ hno
    exfalso
    simp only [Bool.or_eq_true] at hp
    rcases hp with hp | hp
    ·exact hns hp
    ·cases hp
 ·unfold sField at h
  split at h
  ·split at h
   ·exact outS_put h
   ·cases h
  ·cases h
 ·unfold sIndexAddr at h
  split at h
  ·split at h
   ·exact outS_put h
   ·cases h
  ·cases h
 ·unfold sIndex at h
  split at h
  ·split at h
   ·exact outS_put h
   ·cases h
  ·cases h
 ·rename_i X j ho
  unfold sExtract at h
  split at h
  ·rename_i s
   split at h
   ·rename_i ts hg
    have hn:(ts.all fun t => t.sh.noOwn)=true:=by simpa [pureOp,ho,hg] using hp
    split at h
    ·rw [if_pos hn] at h; exact outS_put h
    ·cases h
   ·cases h
  ·cases h
 ·rename_i cl ho
  simp only [pureOp,ho] at hp
  unfold sCall at h
  split at h
  ·split at h
   ·split at h
    ·split at h
     ·split at h
      ·exact outS_put h
      ·cases h
     ·cases h
    ·cases h
   ·cases h
  ·rename_i hcal
   rw [hcal] at hp
   simp only at hp
   simp only [hp,if_true] at h
   repeat' split at h
   all_goals first | exact outS_put h | cases h
  ·rename_i hcal; rw [hcal] at hp; cases hp
  ·split at h
   ·split at h
    ·split at h
     ·exact outS_put h
     ·cases h
    ·cases h
   ·cases h
  ·rename_i f hcal
   split at h
   ·rename_i fin outs hm
    rw [hcal] at hp
    simp only [hm] at hp
    cases hp
   ·split at h
    ·rename_i outs hm
     rw [hcal] at hp
     simp only [hm,Option.isNone_some,Bool.and_false] at hp
     cases hp
    ·split at h
     ·split at h
      ·exact outS_put h
      ·cases h
     ·cases h
  ·split at h
   ·unfold sClo at h
    split at h
    ·split at h
     ·split at h
      ·exact outS_put h
      ·cases h
     ·cases h
    ·split at h
     ·split at h
      ·exact outS_put h
      ·cases h
     ·cases h
    ·cases h
   ·cases h
  ·cases h
 ·unfold sMapMake at h
  split at h
  ·split at h
   ·exact outS_put h
   ·cases h
  ·cases h
 ·unfold sLookup at h
  split at h
  ·split at h
   ·split at h
    ·split at h
     ·exact outS_put h
     ·cases h
    ·cases h
   ·cases h
  ·cases h
 ·rename_i ho; simp [pureOp,ho] at hp
 ·rename_i ho; simp [pureOp,ho] at hp
 ·unfold sFunc at h
  split at h
  ·exact outS_put h
  ·cases h
 ·cases h
def gstep (T:Tbl) (P:Program) (N:Fr) (orc:List TV) (S:SS) (ops:Array Oper) (o:Oper) (j:Nat) (b:Bool):SP :=
 match (ops[j]?).bind (·.dst),o.dst with
 | some g,some d => match gprop S 8 g b with
   | some (p,ch) => if pureOp orc T (S.strip ch) o && !(grownO orc) && (S.all fun e => e.2.flat) && (ch.all fun e => !(e.1 == d)) then match step T P N orc (S.strip ch) o with
     | some (S',c) => match S'.get d with
       | some sv => if refsIn S sv && !(sv.refs d) && !(sv.tests d) then some (S.put d (.cond g b sv),c.map fun q => (p→q)) else none
       | none => none
     | none => none
     else none
   | none => none
 | _,_ => none
def keyO (o:Oper):Nat:=match o.dst with
 | some d => d
 | none => match o.op with
   | .store _ (.tmp s) _ => s
   | _ => 0
def stepG (T:Tbl) (P:Program) (N:Fr) (orc:Nat→List TV) (S:SS) (ops:Array Oper) (o:Oper):SP :=
 match o.guard with
 | none => step T P N (orc (keyO o)) S o
 | some (j,b) => gstep T P N (orc (keyO o)) S ops o j b
def steps (T:Tbl) (P:Program) (N:Fr) (orc:Nat→List TV) (ops:Array Oper):List Oper→SS→SP
 | [],S => some (S,[])
 | o :: r,S => match stepG T P N orc S ops o with
   | some (S1,c1) => match steps T P N orc ops r S1 with
     | some (S2,c2) => some (S2,(sideG (orc (keyO o)) S o ++ c1) ++ c2)
     | none => none
   | none => none
section
variable {P:Program} {T:Tbl} {Z:Fp} {F:Nat→Fp} {w0:World} {Wr Zi:Fp} {N:Fr} {S S' S1:SS} {a:Act} {w:World} {o:Oper} {c:List Prop}
theorem SS.get_put_same {S:SS} {d:Nat} {sv:SV}:(S.put d sv).get d=some sv:=by
 unfold SS.put
 have hk:∀ L:SS,(∀ e ∈ L,e.1≠d) → (L.ins d sv).get d=some sv:=by
  intro L
  induction L with
  | nil => intro _; simp [SS.ins,SS.get]
  | cons e r ih =>
    intro hL
    have h0:=hL e (by simp)
    obtain ⟨k,u⟩:=e
    simp only [SS.ins]
    split
    ·simp [SS.get]
    ·simp only at h0
     simp only [SS.get,h0,if_false]
     exact ih (fun e he => hL e (by simp [he]))
 exact hk _ (fun e he => (SS.mem_kill.1 he).2.1)
theorem Does.mono {R R':Act→World→Prop} (h:Does P o a w R) (hR:∀ a w,R a w→R' a w):Does P o a w R':=fun K Q hK => h K Q (fun a w hr => hK a w (hR a w hr))
def DoesG (P:Program) (ops:Array Oper) (o:Oper) (a:Act) (w:World) (R:Act→World→Prop):Prop :=
 ∀ (K:Act→World→Prop) (Q:Exit→Act→World→Prop),(∀ a w,R a w→K a w)→if Region.wanted o (yielded ops a.tmps) then o.wp P a w K Q else K (a.put o.dst undef) w
theorem wp_put {o:Oper} {d:Nat} {R:Act→World→Prop} (ho:o.dst=some d) (h:Does P o a w R):Does P o a w (fun a' w' => R a' w'∧∀ k,k≠d→a'.tmps[k]?=a.tmps[k]?):=by
 intro K Q hK
 have h':=h (fun a' w' => R a' w') Q (fun _ _ h => h)
 unfold Oper.wp at h' ⊢
 have key:∀ (v:Value) (w':World),R (a.put o.dst v) w'→K (a.put o.dst v) w':=fun v w' hR => hK _ _ ⟨hR,fun k hk => by rw [ho]; exact put_other a d k v hk⟩
 cases hr:(execOp a.eval o).run P w with
 | ok n w' =>
   rw [hr] at h'
   cases n with
   | value v => exact key v w' h'
   | skip => exact key undef w' h'
   | defer df =>
     simp only [Oper.upon] at h' ⊢
     exact hK _ _ ⟨h',fun k hk => by rw [ho]; exact put_other _ d k undef hk⟩
   | enter f args =>
     simp only [Oper.upon] at h' ⊢
     refine h'.mono ?_
     intro e w'' he
     cases e with
     | returned v => exact key v w'' he
     | panicked chain => exact he
     | outgrown => exact he
   | row row args =>
     simp only [Oper.upon] at h' ⊢
     exact h'.mono (fun v w'' he => key v w'' he)
   | _ => exact h'.elim
 | halt x w' =>
   rw [hr] at h'
   cases x <;> first | exact h' | exact h'.elim
theorem stepG_ok (hT:TOk P T) {orc:Nat→List TV} {ops:Array Oper} (h:RelX Z F w0 Wr Zi N S a w) (hr:stepG T P N orc S ops o=some (S',c)) (hc:AllP c) (hside:AllP (sideG (orc (keyO o)) S o)):DoesG P ops o a w (Rel w0 Wr Zi N S'):=by
 intro K Q hK
 unfold stepG at hr
 split at hr
 ·rename_i hgd
  rw [if_pos (by simp [Region.wanted,hgd])]
  exact step_ok hT h hr hc hside K Q hK
 ·rename_i j b hgd
  unfold gstep at hr
  split at hr
  ·rename_i g d hg hd
   split at hr
   ·rename_i p ch hp
    split at hr
    ·rename_i hchk
     simp only [Bool.and_eq_true] at hchk
     obtain ⟨⟨⟨hpure,hngr⟩,hflat⟩,hchd⟩:=hchk
     split at hr
     ·rename_i S2 c2 hst
      split at hr
      ·rename_i sv hsv
       split at hr
       ·rename_i hck
        simp only [Bool.and_eq_true,Bool.not_eq_true'] at hck
        obtain ⟨⟨hrefs,hrd⟩,htd⟩:=hck
        cases hr
        obtain ⟨i1,i2,i3⟩:=gprop_ok h hp
        have hchd':∀ e ∈ ch,e.1≠d:=fun e he => by
         have:=List.all_eq_true.1 hchd e he
         simpa using this
        have hgd':g≠d:=hchd' _ i3
        have hy:yielded ops a.tmps j=match a.tmps[g]? with | some (.bool b) => some b | _ => none:=by
         unfold yielded
         rw [hg]
         rfl
        obtain ⟨k,sv2,hk,hkN,rfl,hr2,ht2⟩:=step_pure hpure hst
        rw [hd] at hk
        obtain rfl:d=k:=by simpa using hk
        rw [SS.get_put_same] at hsv
        obtain rfl:sv2=sv:=by simpa using hsv
        by_cases hpp:p
        ·have hgv:=i1.1 hpp
         rw [if_pos (by simp [Region.wanted,hgd,hy,hgv])]
         have hch:=i2 hpp
         have h2:=h.strip hch hflat
         refine wp_put hd (step_ok hT h2 hst (hc.guard hpp) (by rw [sideG_not (by simpa using hngr)]; trivial)) K Q ?_
         rintro a' w' ⟨⟨Z1,F1,hrel⟩,htm⟩
         exact hK _ _ ⟨Z1,F1,h.merge hch hflat hrel htm hchd' i3 hrefs hrd htd⟩
        ·have hgv:a.tmps[g]?≠some (.bool b):=fun e => hpp (i1.2 e)
         have hnw:Region.wanted o (yielded ops a.tmps)=false:=by
          simp only [Region.wanted,hgd,hy]
          cases hq:a.tmps[g]? with
          | none => simp
          | some v =>
            cases v <;> simp
            rename_i b'
            intro e
            exact hgv (by rw [hq,e])
         rw [hnw]
         simp only [Bool.false_eq_true,if_false]
         refine hK _ _ ?_
         rw [hd]
         refine ⟨Z,_,h.putG (d:=d) (sv:=.cond g b sv2) (v:=undef) (f:=fun _ => False) (U:=fun _ => False) (by rw [h.tsize]; exact hkN.1) (fun hm => absurd hm hkN.2) (Grow.refl _ _) (fun i hi => hi.elim) (fun i hi => hi.elim) ⟨fun e => ?_,fun _ => rfl⟩⟩
         rw [put_other a d g undef hgd'] at e
         exact absurd e hgv
       ·cases hr
      ·cases hr
     ·cases hr
    ·cases hr
   ·cases hr
  ·cases hr
theorem steps_ok (hT:TOk P T) {orc:Nat→List TV} {ops:Array Oper} {Q:Exit→Act→World→Prop}:∀ {l:List Oper} {S S':SS} {c:List Prop} {a:Act} {w:World},Rel w0 Wr Zi N S a w→steps T P N orc ops l S=some (S',c)→AllP c → (∀ a' w',Rel w0 Wr Zi N S' a' w'→Q .normal a' w')→wpList P ops Q l a w
 | [],S,S',c,a,w,h,hs,hc,hQ => by cases hs; exact hQ a w h
 | o :: r,S,S',c,a,w,h,hs,hc,hQ => by
   simp only [steps] at hs
   split at hs
   ·rename_i S1 c1 h1
    split at hs
    ·rename_i S2 c2 h2
     cases hs
     obtain ⟨Z,F,hX⟩:=h
     refine wpList_step fun K hK => ?_
     exact stepG_ok hT hX h1 hc.left.right hc.left.left K Q (fun a' w' hr => hK a' w' (steps_ok hT hr h2 hc.right hQ))
    ·cases hs
   ·cases hs
end
end Go.Vm
