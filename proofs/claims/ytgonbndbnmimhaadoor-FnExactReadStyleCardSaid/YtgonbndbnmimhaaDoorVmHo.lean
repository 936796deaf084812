/- A load that takes what lies in a place: the home keeps a hole, the slot owns the value. -/
import Derived.Test.YtgonbndbnmimhaaDoorVmAn
set_option linter.unusedVariables false
set_option linter.unusedSimpArgs false
namespace Go.Vm
open Go
section
variable {P:Program} {T:Tbl} {Z:Fp} {F:Nat→Fp} {w0:World} {Wr Zi:Fp} {N:Fr} {S S' S1 S2:SS} {a:Act} {w:World} {o:Oper}
theorem Rel.hold (h:Rel w0 Wr Zi N S a w) {d k:Nat} {q:Vm.Step} {p:Path} {tv:TV} (hg:S.get d=some (.copy k (q :: p))) (hpl:placeOf S k (q :: p)=some tv) (hs:holeS S k (q :: p)=some S1) (hp:putS N S1 (some d) (.val tv.sh tv.x)=some S2):Rel w0 Wr Zi N S2 a w:=by
 obtain ⟨Z,F,hX⟩:=h
 obtain ⟨v,hv,hF,hc⟩:=hX.rep d _ (SS.get_mem hg)
 obtain ⟨F1,f,hrep,h1,hh⟩:=hole_ok hX hc (by simp) hpl hs
 obtain ⟨d',hd',hlt,hrd,htd,rfl⟩:=putS_some hp
 cases hd'
 have h2:=h1.putG (d:=d) (sv:=.val tv.sh tv.x) (v:=v) (f:=f) (U:=fun _ => False) (w':=w) (by rw [h1.tsize]; exact hlt.1) (fun _ => hv) (Grow.refl _ _) (fun i hi => hi.elim) (fun i hi => ⟨(hh i hi).1,.inr ⟨(hh i hi).2.1,fun s _ => (hh i hi).2.2.1 s,(hh i hi).2.2.2⟩⟩) hrep
 rw [put_idem hv] at h2
 exact ⟨_,_,h2⟩
end
def holdT (N:Fr) (S:SS) (d:Option Nat):Option SS:=match d with
 | some d => match S.get d with
   | some (.copy k (q :: p)) => match placeOf S k (q :: p),holeS S k (q :: p) with
     | some tv,some S1 => putS N S1 (some d) (.val tv.sh tv.x)
     | _,_ => none
   | _ => none
 | none => none
def emptyT (N:Fr) (S:SS) (d:Option Nat):Option SS:=match d with
 | some d => match S.get d with
   | some (.val (.sl true t e) xs) => if List.isEmpty (α:=e.den) xs then putS N S (some d) (.val (.sl true t e.ro) ([]:List e.ro.den)) else none
   | _ => none
 | none => none
theorem Rel.empty {w0:World} {Wr Zi:Fp} {N:Fr} {S S2:SS} {a:Act} {w:World} (h:Rel w0 Wr Zi N S a w) {d t:Nat} {e:Sh} {xs:List e.den} (hg:S.get d=some (.val (.sl true t e) xs)) (hx:xs=[]) (hp:putS N S (some d) (.val (.sl true t e.ro) ([]:List e.ro.den))=some S2):Rel w0 Wr Zi N S2 a w:=by
 subst hx
 obtain ⟨Z,F,hX⟩:=h
 obtain ⟨v,hv,cs,hc,hval⟩:=hX.rep d _ (SS.get_mem hg)
 obtain ⟨d',hd',hlt,hrd,htd,rfl⟩:=putS_some hp
 cases hd'
 have hrep:VRep Z w (.sl true t e.ro) ([]:List e.ro.den) v (F d):=by
  obtain ⟨v1,inner,fr,h1,h2,h3⟩:=hc
  refine ⟨cs,⟨v1,inner,fr,h1,h2,?_⟩,hval⟩
  rw [Sh.ro_size]
  exact h3
 have h2:=hX.putG (d:=d) (sv:=.val (.sl true t e.ro) ([]:List e.ro.den)) (v:=v) (f:=F d) (U:=fun _ => False) (w':=w) (by rw [hX.tsize]; exact hlt.1) (fun _ => hv) (Grow.refl _ _) (fun i hi => hi.elim)
  (fun i hi => ⟨hX.lt d i hi,.inr ⟨hX.nz d i hi,fun s hs h' => hs (hX.apart s d i h' hi),hX.wr d i hi⟩⟩) hrep
 rw [put_idem hv] at h2
 exact ⟨_,_,h2⟩
def sxT (il:List Nat) (tr:SS→Option Nat→Option SS) (sx:Sx) (ops:Array Oper):Sx:=fun i S => match sx i S with
 | some (S',c) => if il.any (Nat.beq i) then match ops[i]? with
   | some o => match o.guard,tr S' o.dst with
     | none,some S2 => some (S2,c)
     | _,_ => none
   | none => none
   else some (S',c)
 | none => none
theorem sxT_ok {T:Tbl} {P:Program} {w0:World} {Wr Zi:Fp} {N:Fr} {ops:Array Oper} {sx:Sx} {tr:SS→Option Nat→Option SS} (ht:∀ S S2 d a w,Rel w0 Wr Zi N S a w→tr S d=some S2→Rel w0 Wr Zi N S2 a w) (il:List Nat) (hX:SxOk T P w0 Wr Zi N ops sx):SxOk T P w0 Wr Zi N ops (sxT il tr sx ops):=by
 intro i o Z F S S' c a w ho hs hc h
 unfold sxT at hs
 split at hs
 ·rename_i S1 c1 h1
  split at hs
  ·rw [ho] at hs
   simp only at hs
   split at hs
   ·rename_i hg S2 h2
    cases hs
    have hd:=hX i o Z F S S1 c a w ho h1 hc h
    intro K Q hK
    exact hd K Q fun a' w' hr => hK a' w' (ht _ _ _ _ _ hr h2)
   ·cases hs
  ·cases hs
   exact hX i o Z F S S' c a w ho h1 hc h
 ·cases hs
def sxH (hl:List Nat) (N:Fr) (sx:Sx) (ops:Array Oper):Sx:=sxT hl (holdT N) sx ops
theorem sxH_ok {T:Tbl} {P:Program} {w0:World} {Wr Zi:Fp} {N:Fr} {ops:Array Oper} {sx:Sx} (hl:List Nat) (hX:SxOk T P w0 Wr Zi N ops sx):SxOk T P w0 Wr Zi N ops (sxH hl N sx ops):=sxT_ok (fun S S2 d a w hr h2 => by
 unfold holdT at h2
 split at h2
 ·split at h2
  ·rename_i d k q p hgd
   split at h2
   ·rename_i tv S3 q1 q2
    exact hr.hold hgd q1 q2 h2
   ·cases h2
  ·cases h2
 ·cases h2) hl hX
def sxE (el:List Nat) (N:Fr) (sx:Sx) (ops:Array Oper):Sx:=sxT el (emptyT N) sx ops
theorem sxE_ok {T:Tbl} {P:Program} {w0:World} {Wr Zi:Fp} {N:Fr} {ops:Array Oper} {sx:Sx} (el:List Nat) (hX:SxOk T P w0 Wr Zi N ops sx):SxOk T P w0 Wr Zi N ops (sxE el N sx ops):=sxT_ok (fun S S2 d a w hr h2 => by
 unfold emptyT at h2
 split at h2
 ·split at h2
  ·rename_i d t e xs hgd
   split at h2
   ·rename_i hx
    exact hr.empty hgd (List.isEmpty_iff.1 hx) h2
   ·cases h2
  ·cases h2
 ·cases h2) el hX
end Go.Vm
