/-
  THE PLUMBING OF A LAW'S FUNCTIONS, PRINTED BY A PROGRAM OF THIS PROJECT (wip/gen/plumb.py).
-/
import Derived.Test.YtnpaokckkbhdjaaR7f
import Derived.Test.YtnpaokckkbhdjaaLawB
import Derived.Test.YtnpaokckkbhdjaaLawC
import Derived.Test.YtnpaokckkbhdjaaVmU
set_option linter.unusedVariables false
set_option linter.unusedSimpArgs false
open Go Go.Vm Go.Proofs
namespace Go.Proofs.Ytnpaokckkbhdjaa.V
/- laws.szSpotS -/
theorem sz83 (k:Nat) (hk:1048576 < k) (x:(List (Int × (Int × Int)))) (hw:Sh.wf (.sl false 214 (.st (.pair (.int .i64) (.st (.pair (.int .i64) (.int .i64)))))) x):Sz (fun v => f83 k x v) (Sh.bd (.sl false 214 (.st (.pair (.int .i64) (.st (.pair (.int .i64) (.int .i64)))))) x) :=
 Sz.imp (Sz.len hw.1 (fun _ => Sz.done)) (fun h => ⟨h.1,fun y _ => ⟨trivial,⟨trivial,trivial⟩⟩⟩)
/- laws.szRoad -/
theorem sz148 (k:Nat) (hk:1048576 < k) (x:(Int × (Int × (Int × (Int × (Int × ByteArray)))))) (hw:Sh.wf (.st (.pair (.int .i64) (.pair (.int .i64) (.pair (.int .i64) (.pair (.int .i64) (.pair (.int .i64) .str)))))) x):Sz (fun v => f148 k x v) (Sh.bd (.st (.pair (.int .i64) (.pair (.int .i64) (.pair (.int .i64) (.pair (.int .i64) (.pair (.int .i64) .str)))))) x) :=
 Sz.imp (Sz.len hw.2.2.2.2.2 (fun _ => Sz.done)) (fun ⟨b5,_⟩ => ⟨trivial,trivial,trivial,trivial,trivial,b5⟩)
/- laws.szRoadS -/
theorem sz84 (k:Nat) (hk:1048576 < k) (x:(List (Int × (Int × (Int × (Int × (Int × ByteArray))))))) (hw:Sh.wf (.sl false 207 (.st (.pair (.int .i64) (.pair (.int .i64) (.pair (.int .i64) (.pair (.int .i64) (.pair (.int .i64) .str))))))) x):Sz (fun v => f84 k x v) (Sh.bd (.sl false 207 (.st (.pair (.int .i64) (.pair (.int .i64) (.pair (.int .i64) (.pair (.int .i64) (.pair (.int .i64) .str))))))) x) :=
 Sz.len hw.1 (fun h => Sz.loop hk (s:=fun y v => f148 k y v) (f84.l28 k x) (fun _ _ _ => rfl) h (fun y hy => sz148 k hk y (hw.2 y hy)))
/- laws.szBanS -/
theorem sz85 (k:Nat) (hk:1048576 < k) (x:(List (Int × Int))) (hw:Sh.wf (.sl false 217 (.st (.pair (.int .i64) (.int .i64)))) x):Sz (fun v => f85 k x v) (Sh.bd (.sl false 217 (.st (.pair (.int .i64) (.int .i64)))) x) :=
 Sz.imp (Sz.len hw.1 (fun _ => Sz.done)) (fun h => ⟨h.1,fun y _ => ⟨trivial,trivial⟩⟩)
/- laws.szGraph -/
theorem sz40 (k:Nat) (hk:1048576 < k) (x:((List (Int × (Int × Int))) × ((List (Int × (Int × (Int × (Int × (Int × ByteArray)))))) × (List (Int × Int))))) (hw:Sh.wf (.st (.pair (.sl false 214 (.st (.pair (.int .i64) (.st (.pair (.int .i64) (.int .i64)))))) (.pair (.sl false 207 (.st (.pair (.int .i64) (.pair (.int .i64) (.pair (.int .i64) (.pair (.int .i64) (.pair (.int .i64) .str))))))) (.sl false 217 (.st (.pair (.int .i64) (.int .i64))))))) x):Sz (fun v => f40 k x v) (Sh.bd (.st (.pair (.sl false 214 (.st (.pair (.int .i64) (.st (.pair (.int .i64) (.int .i64)))))) (.pair (.sl false 207 (.st (.pair (.int .i64) (.pair (.int .i64) (.pair (.int .i64) (.pair (.int .i64) (.pair (.int .i64) .str))))))) (.sl false 217 (.st (.pair (.int .i64) (.int .i64))))))) x) :=
 Sz.imp (Sz.seq (sz83 k hk x.1 hw.1) (Sz.seq (sz84 k hk x.2.1 hw.2.1) (Sz.seq (sz85 k hk x.2.2 hw.2.2) (Sz.done)))) (fun ⟨b0,b1,b2,_⟩ => ⟨b0,b1,b2⟩)
/- laws.szInt64S -/
theorem sz129 (k:Nat) (hk:1048576 < k) (x:(List Int)) (hw:Sh.wf (.sl false 2 (.int .i64)) x):Sz (fun v => f129 k x v) (Sh.bd (.sl false 2 (.int .i64)) x) :=
 Sz.imp (Sz.len hw.1 (fun _ => Sz.done)) (fun h => ⟨h.1,fun y _ => trivial⟩)
/- laws.szInt64SS -/
theorem sz65 (k:Nat) (hk:1048576 < k) (x:(List (List Int))) (hw:Sh.wf (.sl false 23 (.sl false 2 (.int .i64))) x):Sz (fun v => f65 k x v) (Sh.bd (.sl false 23 (.sl false 2 (.int .i64))) x) :=
 Sz.len hw.1 (fun h => Sz.loop hk (s:=fun y v => f129 k y v) (f65.l28 k x) (fun _ _ _ => rfl) h (fun y hy => sz129 k hk y (hw.2 y hy)))
/- laws.toPoint -/
theorem to137 (k:Nat) (hk:1048576 < k) (x:(Int × Int)) (h:Sh.bd (.st (.pair (.int .i64) (.int .i64))) x):f137 k x=some x:=by
 unfold f137
 all_goals rfl
/- laws.toSpot -/
theorem to154 (k:Nat) (hk:1048576 < k) (x:(Int × (Int × Int))) (h:Sh.bd (.st (.pair (.int .i64) (.st (.pair (.int .i64) (.int .i64))))) x):f154 k x=some x:=by
 unfold f154
 simp only [to137 k hk x.2 h.2,Option.bind_some]
 all_goals rfl
/- laws.toSpotS -/
theorem to89 (k:Nat) (hk:1048576 < k) (x:(List (Int × (Int × Int)))) (h:Sh.bd (.sl false 214 (.st (.pair (.int .i64) (.st (.pair (.int .i64) (.int .i64)))))) x):f89 k x=some x:=by
 unfold f89
 exact copyRow (g:=fun y => f154 k y) (z:=24) hk (f89.l34 k x) (fun _ _ _ => rfl) (by decide) h.1 (fun y hy => to154 k hk y (h.2 y hy))
/- laws.toRoad -/
theorem to155 (k:Nat) (hk:1048576 < k) (x:(Int × (Int × (Int × (Int × (Int × ByteArray)))))) (h:Sh.bd (.st (.pair (.int .i64) (.pair (.int .i64) (.pair (.int .i64) (.pair (.int .i64) (.pair (.int .i64) .str)))))) x):f155 k x=some x:=by
 unfold f155
 all_goals rfl
/- laws.toRoadS -/
theorem to90 (k:Nat) (hk:1048576 < k) (x:(List (Int × (Int × (Int × (Int × (Int × ByteArray))))))) (h:Sh.bd (.sl false 207 (.st (.pair (.int .i64) (.pair (.int .i64) (.pair (.int .i64) (.pair (.int .i64) (.pair (.int .i64) .str))))))) x):f90 k x=some x:=by
 unfold f90
 exact copyRow (g:=fun y => f155 k y) (z:=56) hk (f90.l34 k x) (fun _ _ _ => rfl) (by decide) h.1 (fun y hy => to155 k hk y (h.2 y hy))
/- laws.toBan -/
theorem to156 (k:Nat) (hk:1048576 < k) (x:(Int × Int)) (h:Sh.bd (.st (.pair (.int .i64) (.int .i64))) x):f156 k x=some x:=by
 unfold f156
 all_goals rfl
/- laws.toBanS -/
theorem to91 (k:Nat) (hk:1048576 < k) (x:(List (Int × Int))) (h:Sh.bd (.sl false 217 (.st (.pair (.int .i64) (.int .i64)))) x):f91 k x=some x:=by
 unfold f91
 exact copyRow (g:=fun y => f156 k y) (z:=16) hk (f91.l34 k x) (fun _ _ _ => rfl) (by decide) h.1 (fun y hy => to156 k hk y (h.2 y hy))
/- laws.toGraph -/
theorem to42 (k:Nat) (hk:1048576 < k) (x:((List (Int × (Int × Int))) × ((List (Int × (Int × (Int × (Int × (Int × ByteArray)))))) × (List (Int × Int))))) (h:Sh.bd (.st (.pair (.sl false 214 (.st (.pair (.int .i64) (.st (.pair (.int .i64) (.int .i64)))))) (.pair (.sl false 207 (.st (.pair (.int .i64) (.pair (.int .i64) (.pair (.int .i64) (.pair (.int .i64) (.pair (.int .i64) .str))))))) (.sl false 217 (.st (.pair (.int .i64) (.int .i64))))))) x):f42 k x=some x:=by
 unfold f42
 simp only [to89 k hk x.1 h.1,to90 k hk x.2.1 h.2.1,to91 k hk x.2.2 h.2.2,Option.bind_some]
 all_goals rfl
/- laws.toInt64S -/
theorem to14 (k:Nat) (hk:1048576 < k) (x:(List Int)) (h:Sh.bd (.sl false 2 (.int .i64)) x):f14 k x=some x:=by
 unfold f14
 exact copyRow (g:=some) (z:=8) hk (f14.l22 k x) (fun _ _ _ => rfl) (by decide) h.1 (fun y hy => rfl)
/- laws.toInt64SS -/
theorem to67 (k:Nat) (hk:1048576 < k) (x:(List (List Int))) (h:Sh.bd (.sl false 23 (.sl false 2 (.int .i64))) x):f67 k x=some x:=by
 unfold f67
 exact copyRow (g:=fun y => f14 k y) (z:=24) hk (f67.l34 k x) (fun _ _ _ => rfl) (by decide) h.1 (fun y hy => to14 k hk y (h.2 y hy))
/- laws.eqPoint -/
theorem eq143 (k:Nat) (hk:1048576 < k) (x:(Int × Int)) (h:Sh.bd (.st (.pair (.int .i64) (.int .i64))) x):f143 k x x=some true:=by
 unfold f143
 simp []
/- laws.eqSpot -/
theorem eq159 (k:Nat) (hk:1048576 < k) (x:(Int × (Int × Int))) (h:Sh.bd (.st (.pair (.int .i64) (.st (.pair (.int .i64) (.int .i64))))) x):f159 k x x=some true:=by
 unfold f159
 simp [eq143 k hk x.2 h.2]
/- laws.eqSpotS -/
theorem eq99 (k:Nat) (hk:1048576 < k) (x:(List (Int × (Int × Int)))) (h:Sh.bd (.sl false 181 (.st (.pair (.int .i64) (.st (.pair (.int .i64) (.int .i64)))))) x):f99 k x x=some true:=by
 unfold f99
 exact eqRow (e:=fun a b => f159 k a b) hk (f99.l30 k x x) (fun _ _ => rfl) h.1 (fun y hy => eq159 k hk y (h.2 y hy))
/- laws.eqRoad -/
theorem eq160 (k:Nat) (hk:1048576 < k) (x:(Int × (Int × (Int × (Int × (Int × ByteArray)))))) (h:Sh.bd (.st (.pair (.int .i64) (.pair (.int .i64) (.pair (.int .i64) (.pair (.int .i64) (.pair (.int .i64) .str)))))) x):f160 k x x=some true:=by
 unfold f160
 simp []
/- laws.eqRoadS -/
theorem eq100 (k:Nat) (hk:1048576 < k) (x:(List (Int × (Int × (Int × (Int × (Int × ByteArray))))))) (h:Sh.bd (.sl false 171 (.st (.pair (.int .i64) (.pair (.int .i64) (.pair (.int .i64) (.pair (.int .i64) (.pair (.int .i64) .str))))))) x):f100 k x x=some true:=by
 unfold f100
 exact eqRow (e:=fun a b => f160 k a b) hk (f100.l30 k x x) (fun _ _ => rfl) h.1 (fun y hy => eq160 k hk y (h.2 y hy))
/- laws.eqBan -/
theorem eq161 (k:Nat) (hk:1048576 < k) (x:(Int × Int)) (h:Sh.bd (.st (.pair (.int .i64) (.int .i64))) x):f161 k x x=some true:=by
 unfold f161
 simp []
/- laws.eqBanS -/
theorem eq101 (k:Nat) (hk:1048576 < k) (x:(List (Int × Int))) (h:Sh.bd (.sl false 174 (.st (.pair (.int .i64) (.int .i64)))) x):f101 k x x=some true:=by
 unfold f101
 exact eqRow (e:=fun a b => f161 k a b) hk (f101.l30 k x x) (fun _ _ => rfl) h.1 (fun y hy => eq161 k hk y (h.2 y hy))
/- laws.eqGraph -/
theorem eq45 (k:Nat) (hk:1048576 < k) (x:((List (Int × (Int × Int))) × ((List (Int × (Int × (Int × (Int × (Int × ByteArray)))))) × (List (Int × Int))))) (h:Sh.bd (.st (.pair (.sl false 181 (.st (.pair (.int .i64) (.st (.pair (.int .i64) (.int .i64)))))) (.pair (.sl false 171 (.st (.pair (.int .i64) (.pair (.int .i64) (.pair (.int .i64) (.pair (.int .i64) (.pair (.int .i64) .str))))))) (.sl false 174 (.st (.pair (.int .i64) (.int .i64))))))) x):f45 k x x=some true:=by
 unfold f45
 simp [eq99 k hk x.1 h.1,eq100 k hk x.2.1 h.2.1,eq101 k hk x.2.2 h.2.2]
/- laws.eqInt64S -/
theorem eq16 (k:Nat) (hk:1048576 < k) (x:(List Int)) (h:Sh.bd (.sl false 2 (.int .i64)) x):f16 k x x=some true:=by
 unfold f16
 exact eqRow0 (ne:=fun (a b:Int) => a != b) hk (f16.l18 k x x) (fun _ _ => rfl) h.1 (fun y => by simp)
/- laws.eqInt64SS -/
theorem eq25 (k:Nat) (hk:1048576 < k) (x:(List (List Int))) (h:Sh.bd (.sl false 23 (.sl false 2 (.int .i64))) x):f25 k x x=some true:=by
 unfold f25
 exact eqRow (e:=fun a b => f16 k a b) hk (f25.l30 k x x) (fun _ _ => rfl) h.1 (fun y hy => eq16 k hk y (h.2 y hy))
def ESpotS (k:Nat) (v:Int) (b:(Int × (Int × Int))) (c:Int):Prop:=(b.1=v) ∧ (b.2.1=v+1) ∧ (b.2.2=v+1+1)∧c=v+1+1+1
abbrev KSpotS (k:Nat):Int → (List (Int × (Int × Int)))→Int→Prop:=RowR ((0:Int),((0:Int),(0:Int))) (ESpotS k)
/- laws.markSpotS -/
theorem mk102 (k:Nat) (hk:1048576 < k) (x:(List (Int × (Int × Int)))) (hx:Sh.bd (.sl false 181 (.st (.pair (.int .i64) (.st (.pair (.int .i64) (.int .i64)))))) x):Mk (fun x v => f102 k x v) (KSpotS k) 3145728 x:=by
 refine markRow (d:=((0:Int),((0:Int),(0:Int)))) (w:=3) hx.1 (L:=f102.l44 k) (by decide) (fun a ha v h0 h1 => ?_) (fun m xs v => by rw [f102.l44,if_f (by simp)]) hk (by decide)
 have z0:IntKind.i64.wrap (v+1)=v+1:=wrap_in (by omega) (by omega)
 have z1:IntKind.i64.wrap (v+1+1)=v+1+1:=wrap_in (by omega) (by omega)
 have z2:IntKind.i64.wrap (v+1+1+1)=v+1+1+1:=wrap_in (by omega) (by omega)
 refine ⟨v+1+1+1,(v,(v+1,v+1+1)),⟨rfl,rfl,rfl,rfl⟩,by omega,by omega,fun m i xs hi hl ha => ?_⟩
 have hc:decide ((i:Int) < (xs.length:Int))=true:=by simpa using hi
 have hb:(0:Int) ≤ (i:Int) ∧ (i:Int) < (xs.length:Int):=⟨by omega,by omega⟩
 have hxl:=hx.1
 have h3:((3:Int):Int)≠0:=by decide
 rw [f102.l44,if_t hc]
 simp only [if_t hb,if_t h3,List.length_set,Int.toNat_natCast,gd_set_eq,hi,List.set_set,Option.bind_some,ha,wrap_s (n:=i) (by omega),z0,z1,z2]
/- laws.markText -/
theorem tx119_go (k:Nat):∀ (d m n:Nat) (s:ByteArray),n < 10 ^ d→d < m→n < 9223372036854775807→s.size+d≤1000→∃ t,f119.l19 k m ((n:Int),s)=some t
 | 0,m,n,s,h1,hm,h3,h2 => by
   obtain ⟨m,rfl⟩:∃ q,m=q+1:=⟨m - 1,by omega⟩
   obtain rfl:n=0:=by omega
   rw [f119.l19,if_f (by decide),if_t (by rw [show (⟨#[109]⟩:ByteArray).size=1 from rfl]; omega)]
   exact ⟨_,rfl⟩
 | d+1,m,n,s,h1,hm,h3,h2 => by
   obtain ⟨m,rfl⟩:∃ q,m=q+1:=⟨m - 1,by omega⟩
   rw [f119.l19]
   by_cases h0:(n:Int) > 0
   ·have e:Int.tdiv (n:Int) 10 = ((n / 10:Nat):Int):=by rw [Int.tdiv_eq_ediv_of_nonneg (by omega)]; omega
    have z:∀ n,(strOfNums [n]).size=1:=fun _ => rfl
    rw [if_t (by simpa using h0),if_t (by decide),if_t (by rw [z]; omega),if_t (by decide),e,wrap_in (by omega) (by omega)]
    exact tx119_go k d m (n / 10) _ (by rw [Nat.pow_succ] at h1; omega) (by omega) (by omega) (by rw [ByteArray.size_append,z]; omega)
   ·rw [if_f (by simpa using h0),if_t (by rw [show (⟨#[109]⟩:ByteArray).size=1 from rfl]; omega)]
    exact ⟨_,rfl⟩
theorem tx119 (k:Nat) (hk:1048576 < k) (x:Int) (h0:0≤x) (h1:x≤9223372036854775000):∃ t,f119 k x=some t:=by
 unfold f119
 by_cases h:x≤0
 ·rw [if_t (by simpa using h)]; exact ⟨_,rfl⟩
 ·rw [if_f (by simpa using h)]
  obtain ⟨n,rfl⟩:∃ n:Nat,x=n:=⟨x.toNat,by omega⟩
  exact tx119_go k 19 k n _ (by omega) (by omega) (by omega) (by decide)
def ERoadS (k:Nat) (v:Int) (b:(Int × (Int × (Int × (Int × (Int × ByteArray)))))) (c:Int):Prop:=(b.1=v) ∧ (b.2.1=v+1) ∧ (b.2.2.1=v+1+1) ∧ (b.2.2.2.1=v+1+1+1) ∧ (b.2.2.2.2.1=v+1+1+1+1) ∧ (f119 k (v+1+1+1+1+1)=some b.2.2.2.2.2)∧c=v+1+1+1+1+1+1
abbrev KRoadS (k:Nat):Int → (List (Int × (Int × (Int × (Int × (Int × ByteArray))))))→Int→Prop:=RowR ((0:Int),((0:Int),((0:Int),((0:Int),((0:Int),(⟨#[]⟩:ByteArray)))))) (ERoadS k)
/- laws.markRoadS -/
theorem mk103 (k:Nat) (hk:1048576 < k) (x:(List (Int × (Int × (Int × (Int × (Int × ByteArray))))))) (hx:Sh.bd (.sl false 171 (.st (.pair (.int .i64) (.pair (.int .i64) (.pair (.int .i64) (.pair (.int .i64) (.pair (.int .i64) .str))))))) x):Mk (fun x v => f103 k x v) (KRoadS k) 6291456 x:=by
 refine markRow (d:=((0:Int),((0:Int),((0:Int),((0:Int),((0:Int),(⟨#[]⟩:ByteArray))))))) (w:=6) hx.1 (L:=f103.l110 k) (by decide) (fun a ha v h0 h1 => ?_) (fun m xs v => by rw [f103.l110,if_f (by simp)]) hk (by decide)
 obtain ⟨t1,ht1⟩:=tx119 k hk (v+1+1+1+1+1) (by omega) (by omega)
 have z0:IntKind.i64.wrap (v+1)=v+1:=wrap_in (by omega) (by omega)
 have z1:IntKind.i64.wrap (v+1+1)=v+1+1:=wrap_in (by omega) (by omega)
 have z2:IntKind.i64.wrap (v+1+1+1)=v+1+1+1:=wrap_in (by omega) (by omega)
 have z3:IntKind.i64.wrap (v+1+1+1+1)=v+1+1+1+1:=wrap_in (by omega) (by omega)
 have z4:IntKind.i64.wrap (v+1+1+1+1+1)=v+1+1+1+1+1:=wrap_in (by omega) (by omega)
 have z5:IntKind.i64.wrap (v+1+1+1+1+1+1)=v+1+1+1+1+1+1:=wrap_in (by omega) (by omega)
 refine ⟨v+1+1+1+1+1+1,(v,v+1,v+1+1,v+1+1+1,v+1+1+1+1,t1),⟨rfl,rfl,rfl,rfl,rfl,ht1,rfl⟩,by omega,by omega,fun m i xs hi hl ha => ?_⟩
 have hc:decide ((i:Int) < (xs.length:Int))=true:=by simpa using hi
 have hb:(0:Int) ≤ (i:Int) ∧ (i:Int) < (xs.length:Int):=⟨by omega,by omega⟩
 have hxl:=hx.1
 have h3:((3:Int):Int)≠0:=by decide
 rw [f103.l110,if_t hc]
 simp only [if_t hb,if_t h3,List.length_set,Int.toNat_natCast,gd_set_eq,hi,List.set_set,Option.bind_some,ha,wrap_s (n:=i) (by omega),z0,z1,z2,z3,z4,z5,ht1]
def EBanS (k:Nat) (v:Int) (b:(Int × Int)) (c:Int):Prop:=(b.1=v) ∧ (b.2=v+1)∧c=v+1+1
abbrev KBanS (k:Nat):Int → (List (Int × Int))→Int→Prop:=RowR ((0:Int),(0:Int)) (EBanS k)
/- laws.markBanS -/
theorem mk104 (k:Nat) (hk:1048576 < k) (x:(List (Int × Int))) (hx:Sh.bd (.sl false 174 (.st (.pair (.int .i64) (.int .i64)))) x):Mk (fun x v => f104 k x v) (KBanS k) 2097152 x:=by
 refine markRow (d:=((0:Int),(0:Int))) (w:=2) hx.1 (L:=f104.l26 k) (by decide) (fun a ha v h0 h1 => ?_) (fun m xs v => by rw [f104.l26,if_f (by simp)]) hk (by decide)
 have z0:IntKind.i64.wrap (v+1)=v+1:=wrap_in (by omega) (by omega)
 have z1:IntKind.i64.wrap (v+1+1)=v+1+1:=wrap_in (by omega) (by omega)
 refine ⟨v+1+1,(v,v+1),⟨rfl,rfl,rfl⟩,by omega,by omega,fun m i xs hi hl ha => ?_⟩
 have hc:decide ((i:Int) < (xs.length:Int))=true:=by simpa using hi
 have hb:(0:Int) ≤ (i:Int) ∧ (i:Int) < (xs.length:Int):=⟨by omega,by omega⟩
 have hxl:=hx.1
 have h3:((3:Int):Int)≠0:=by decide
 rw [f104.l26,if_t hc]
 simp only [if_t hb,if_t h3,List.length_set,Int.toNat_natCast,gd_set_eq,hi,List.set_set,Option.bind_some,ha,wrap_s (n:=i) (by omega),z0,z1]
def KGraph (k:Nat) (v:Int) (b:((List (Int × (Int × Int))) × ((List (Int × (Int × (Int × (Int × (Int × ByteArray)))))) × (List (Int × Int))))) (c:Int):Prop:=∃ c1:Int,∃ c2:Int,∃ c3:Int,(KSpotS k v b.1 c1∧v≤c1) ∧ (KRoadS k c1 b.2.1 c2∧c1≤c2) ∧ (KBanS k c2 b.2.2 c3∧c2≤c3)∧c=c3
/- laws.markGraph -/
theorem mk46 (k:Nat) (hk:1048576 < k) (x:((List (Int × (Int × Int))) × ((List (Int × (Int × (Int × (Int × (Int × ByteArray)))))) × (List (Int × Int))))) (hx:Sh.bd (.st (.pair (.sl false 181 (.st (.pair (.int .i64) (.st (.pair (.int .i64) (.int .i64)))))) (.pair (.sl false 171 (.st (.pair (.int .i64) (.pair (.int .i64) (.pair (.int .i64) (.pair (.int .i64) (.pair (.int .i64) .str))))))) (.sl false 174 (.st (.pair (.int .i64) (.int .i64))))))) x):Mk (fun x v => f46 k x v) (KGraph k) 11534336 x:=by
 intro v h0 h1
 obtain ⟨c1,y1,q1,r1,l1,u1⟩:=mk102 k hk x.1 hx.1 v (by omega) (by omega)
 have p1:f102 k x.1 v=some (c1,y1):=q1
 obtain ⟨c2,y2,q2,r2,l2,u2⟩:=mk103 k hk x.2.1 hx.2.1 c1 (by omega) (by omega)
 have p2:f103 k x.2.1 c1=some (c2,y2):=q2
 obtain ⟨c3,y3,q3,r3,l3,u3⟩:=mk104 k hk x.2.2 hx.2.2 c2 (by omega) (by omega)
 have p3:f104 k x.2.2 c2=some (c3,y3):=q3
 refine ⟨c3,(y1,y2,y3),?_,⟨_,_,_,⟨r1,l1⟩,⟨r2,l2⟩,⟨r3,l3⟩,rfl⟩,by omega,by omega⟩
 show f46 k x v=_
 unfold f46
 simp only [p1,p2,p3,Option.bind_some]
def EInt64S (k:Nat) (v:Int) (b:Int) (c:Int):Prop:=(b=v)∧c=v+1
abbrev KInt64S (k:Nat):Int → (List Int)→Int→Prop:=RowR (0:Int) (EInt64S k)
/- laws.markInt64S -/
theorem mk19 (k:Nat) (hk:1048576 < k) (x:(List Int)) (hx:Sh.bd (.sl false 2 (.int .i64)) x):Mk (fun x v => f19 k x v) (KInt64S k) 1048576 x:=by
 refine markRow (d:=(0:Int)) (w:=1) hx.1 (L:=f19.l20 k) (by decide) (fun a ha v h0 h1 => ?_) (fun m xs v => by rw [f19.l20,if_f (by simp)]) hk (by decide)
 have z0:IntKind.i64.wrap (v+1)=v+1:=wrap_in (by omega) (by omega)
 refine ⟨v+1,v,⟨rfl,rfl⟩,by omega,by omega,fun m i xs hi hl ha => ?_⟩
 have hc:decide ((i:Int) < (xs.length:Int))=true:=by simpa using hi
 have hb:(0:Int) ≤ (i:Int) ∧ (i:Int) < (xs.length:Int):=⟨by omega,by omega⟩
 have hxl:=hx.1
 have h3:((3:Int):Int)≠0:=by decide
 rw [f19.l20,if_t hc]
 simp only [if_t hb,if_t h3,List.length_set,Int.toNat_natCast,gd_set_eq,hi,List.set_set,Option.bind_some,ha,wrap_s (n:=i) (by omega),z0]
def EInt64SS (k:Nat) (v:Int) (b:(List Int)) (c:Int):Prop:=∃ c1:Int,(KInt64S k (v) b c1∧v≤c1)∧c=c1
abbrev KInt64SS (k:Nat):Int → (List (List Int))→Int→Prop:=RowR ([]:(List Int)) (EInt64SS k)
/- laws.markInt64SS -/
theorem mk28 (k:Nat) (hk:1048576 < k) (x:(List (List Int))) (hx:Sh.bd (.sl false 23 (.sl false 2 (.int .i64))) x):Mk (fun x v => f28 k x v) (KInt64SS k) 1099511627776 x:=by
 refine markRow (d:=([]:(List Int))) (w:=1048576) hx.1 (L:=f28.l32 k) (by decide) (fun a ha v h0 h1 => ?_) (fun m xs v => by rw [f28.l32,if_f (by simp)]) hk (by decide)
 obtain ⟨c1,y1,q1,r1,l1,u1⟩:=mk19 k hk (a) (hx.2 a ha) (v) (by omega) (by omega)
 have p1:f19 k (a) (v)=some (c1,y1):=q1
 refine ⟨c1,y1,⟨_,⟨r1,l1⟩,rfl⟩,by omega,by omega,fun m i xs hi hl ha => ?_⟩
 have hc:decide ((i:Int) < (xs.length:Int))=true:=by simpa using hi
 have hb:(0:Int) ≤ (i:Int) ∧ (i:Int) < (xs.length:Int):=⟨by omega,by omega⟩
 have hxl:=hx.1
 have h3:((3:Int):Int)≠0:=by decide
 rw [f28.l32,if_t hc]
 simp only [if_t hb,if_t h3,List.length_set,Int.toNat_natCast,gd_set_eq,hi,List.set_set,Option.bind_some,ha,wrap_s (n:=i) (by omega),p1]
/- laws.heldSpotS -/
theorem hd126 (k:Nat) (hk:1048576 < k):Hd (fun y v => f126 k y v) (KSpotS k):=by
 refine heldRow (d:=((0:Int),((0:Int),(0:Int)))) (L:=fun y => f126.l28 k y) (fun ys m i v c hi hl h0 h1 h2 hR => ?_) (fun ys m v => by rw [f126.l28,if_f (by simp)]) hk
 obtain ⟨e0,e1,e2,ec⟩:=hR
 have z0:IntKind.i64.wrap (v+1)=v+1:=wrap_in (by omega) (by omega)
 have z1:IntKind.i64.wrap (v+1+1)=v+1+1:=wrap_in (by omega) (by omega)
 have z2:IntKind.i64.wrap (v+1+1+1)=v+1+1+1:=wrap_in (by omega) (by omega)
 have hc:decide ((i:Int) < (ys.length:Int))=true:=by simpa using hi
 have hb:(0:Int) ≤ (i:Int) ∧ (i:Int) < (ys.length:Int):=⟨by omega,by omega⟩
 have h3:((3:Int):Int)≠0:=by decide
 subst ec
 rw [f126.l28,if_t hc]
 simp only [if_t hb,if_t h3,Int.toNat_natCast,Option.bind_some,z0,z1,z2,e0,e1,e2,wrap_s (n:=i) (by omega),bne_self_eq_false,beq_self_eq_true,Bool.not_true,Bool.false_eq_true,if_false]
/- laws.heldRoadS -/
theorem hd127 (k:Nat) (hk:1048576 < k):Hd (fun y v => f127 k y v) (KRoadS k):=by
 refine heldRow (d:=((0:Int),((0:Int),((0:Int),((0:Int),((0:Int),(⟨#[]⟩:ByteArray))))))) (L:=fun y => f127.l58 k y) (fun ys m i v c hi hl h0 h1 h2 hR => ?_) (fun ys m v => by rw [f127.l58,if_f (by simp)]) hk
 obtain ⟨e0,e1,e2,e3,e4,e5,ec⟩:=hR
 have z0:IntKind.i64.wrap (v+1)=v+1:=wrap_in (by omega) (by omega)
 have z1:IntKind.i64.wrap (v+1+1)=v+1+1:=wrap_in (by omega) (by omega)
 have z2:IntKind.i64.wrap (v+1+1+1)=v+1+1+1:=wrap_in (by omega) (by omega)
 have z3:IntKind.i64.wrap (v+1+1+1+1)=v+1+1+1+1:=wrap_in (by omega) (by omega)
 have z4:IntKind.i64.wrap (v+1+1+1+1+1)=v+1+1+1+1+1:=wrap_in (by omega) (by omega)
 have z5:IntKind.i64.wrap (v+1+1+1+1+1+1)=v+1+1+1+1+1+1:=wrap_in (by omega) (by omega)
 have hc:decide ((i:Int) < (ys.length:Int))=true:=by simpa using hi
 have hb:(0:Int) ≤ (i:Int) ∧ (i:Int) < (ys.length:Int):=⟨by omega,by omega⟩
 have h3:((3:Int):Int)≠0:=by decide
 subst ec
 rw [f127.l58,if_t hc]
 simp only [if_t hb,if_t h3,Int.toNat_natCast,Option.bind_some,z0,z1,z2,z3,z4,z5,e0,e1,e2,e3,e4,e5,wrap_s (n:=i) (by omega),bne_self_eq_false,beq_self_eq_true,Bool.not_true,Bool.false_eq_true,if_false]
/- laws.heldBanS -/
theorem hd128 (k:Nat) (hk:1048576 < k):Hd (fun y v => f128 k y v) (KBanS k):=by
 refine heldRow (d:=((0:Int),(0:Int))) (L:=fun y => f128.l22 k y) (fun ys m i v c hi hl h0 h1 h2 hR => ?_) (fun ys m v => by rw [f128.l22,if_f (by simp)]) hk
 obtain ⟨e0,e1,ec⟩:=hR
 have z0:IntKind.i64.wrap (v+1)=v+1:=wrap_in (by omega) (by omega)
 have z1:IntKind.i64.wrap (v+1+1)=v+1+1:=wrap_in (by omega) (by omega)
 have hc:decide ((i:Int) < (ys.length:Int))=true:=by simpa using hi
 have hb:(0:Int) ≤ (i:Int) ∧ (i:Int) < (ys.length:Int):=⟨by omega,by omega⟩
 have h3:((3:Int):Int)≠0:=by decide
 subst ec
 rw [f128.l22,if_t hc]
 simp only [if_t hb,if_t h3,Int.toNat_natCast,Option.bind_some,z0,z1,e0,e1,wrap_s (n:=i) (by omega),bne_self_eq_false,beq_self_eq_true,Bool.not_true,Bool.false_eq_true,if_false]
/- laws.heldGraph -/
theorem hd64 (k:Nat) (hk:1048576 < k):Hd (fun y v => f64 k y v) (KGraph k):=by
 intro v y c h0 h1 h2 hR
 obtain ⟨c1,c2,c3,⟨k1,l1⟩,⟨k2,l2⟩,⟨k3,l3⟩,ec⟩:=hR
 obtain rfl:=ec.symm
 have p1:f126 k y.1 v=some c1:=hd126 k hk v _ c1 (by omega) (by omega) (by omega) k1
 have n1:¬ (decide ((c1:Int) < (0:Int))=true):=by simp; omega
 have p2:f127 k y.2.1 c1=some c2:=hd127 k hk c1 _ c2 (by omega) (by omega) (by omega) k2
 have n2:¬ (decide ((c2:Int) < (0:Int))=true):=by simp; omega
 have p3:f128 k y.2.2 c2=some c3:=hd128 k hk c2 _ c3 (by omega) (by omega) (by omega) k3
 have n3:¬ (decide ((c3:Int) < (0:Int))=true):=by simp; omega
 show f64 k y v=_
 unfold f64
 simp only [p1,if_f n1,p2,if_f n2,p3,if_f n3,Option.bind_some]
end Go.Proofs.Ytnpaokckkbhdjaa.V
