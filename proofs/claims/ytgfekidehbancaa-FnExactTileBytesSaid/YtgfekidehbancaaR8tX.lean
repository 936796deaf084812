/-
  Own texts of this project, joined. No condition.
-/
import Derived.Test.YtgfekidehbancaaR8t
import Derived.Test.YtgfekidehbancaaLawB
import Derived.Test.YtgfekidehbancaaLawC
import Derived.Test.YtgfekidehbancaaVmU
section
set_option linter.unusedVariables false
set_option linter.unusedSimpArgs false
open Go Go.Vm Go.Proofs
namespace Go.Proofs.Ytgfekidehbancaa.V
/- laws.szPointS -/
theorem sz67 (k:Nat) (hk:1048576 < k) (x:(List (Int × Int))) (hw:Sh.wf (.sl false 137 (.st (.pair (.int .i64) (.int .i64)))) x):Sz (fun v => f67 k x v) (Sh.bd (.sl false 137 (.st (.pair (.int .i64) (.int .i64)))) x) :=
 Sz.imp (Sz.len hw.1 (fun _ => Sz.done)) (fun h => ⟨h.1,fun y _ => ⟨trivial,trivial⟩⟩)
/- laws.szTag -/
theorem sz103 (k:Nat) (hk:1048576 < k) (x:(ByteArray × ByteArray)) (hw:Sh.wf (.st (.pair .str .str)) x):Sz (fun v => f103 k x v) (Sh.bd (.st (.pair .str .str)) x) :=
 Sz.imp (Sz.len hw.1 (fun _ => Sz.len hw.2 (fun _ => Sz.done))) (fun ⟨b0,b1,_⟩ => ⟨b0,b1⟩)
/- laws.szTagS -/
theorem sz96 (k:Nat) (hk:1048576 < k) (x:(List (ByteArray × ByteArray))) (hw:Sh.wf (.sl false 152 (.st (.pair .str .str))) x):Sz (fun v => f96 k x v) (Sh.bd (.sl false 152 (.st (.pair .str .str))) x) :=
 Sz.len hw.1 (fun h => Sz.loop hk (s:=fun y v => f103 k y v) (f96.l28 k x) (fun _ _ _ => rfl) h (fun y hy => sz103 k hk y (hw.2 y hy)))
/- laws.szLine -/
theorem sz76 (k:Nat) (hk:1048576 < k) (x:(Int × ((List (Int × Int)) × (List (ByteArray × ByteArray))))) (hw:Sh.wf (.st (.pair (.int .i64) (.pair (.sl false 137 (.st (.pair (.int .i64) (.int .i64)))) (.sl false 152 (.st (.pair .str .str)))))) x):Sz (fun v => f76 k x v) (Sh.bd (.st (.pair (.int .i64) (.pair (.sl false 137 (.st (.pair (.int .i64) (.int .i64)))) (.sl false 152 (.st (.pair .str .str)))))) x) :=
 Sz.imp (Sz.seq (sz67 k hk x.2.1 hw.2.1) (Sz.seq (sz96 k hk x.2.2 hw.2.2) (Sz.done))) (fun ⟨b1,b2,_⟩ => ⟨trivial,b1,b2⟩)
/- laws.szLineS -/
theorem sz41 (k:Nat) (hk:1048576 < k) (x:(List (Int × ((List (Int × Int)) × (List (ByteArray × ByteArray)))))) (hw:Sh.wf (.sl false 126 (.st (.pair (.int .i64) (.pair (.sl false 137 (.st (.pair (.int .i64) (.int .i64)))) (.sl false 152 (.st (.pair .str .str))))))) x):Sz (fun v => f41 k x v) (Sh.bd (.sl false 126 (.st (.pair (.int .i64) (.pair (.sl false 137 (.st (.pair (.int .i64) (.int .i64)))) (.sl false 152 (.st (.pair .str .str))))))) x) :=
 Sz.len hw.1 (fun h => Sz.loop hk (s:=fun y v => f76 k y v) (f41.l28 k x) (fun _ _ _ => rfl) h (fun y hy => sz76 k hk y (hw.2 y hy)))
/- laws.szTileData -/
theorem sz15 (k:Nat) (hk:1048576 < k) (x:((Int × (Int × Int)) × (List (Int × ((List (Int × Int)) × (List (ByteArray × ByteArray))))))) (hw:Sh.wf (.st (.pair (.st (.pair (.int .i64) (.pair (.int .i64) (.int .i64)))) (.sl false 126 (.st (.pair (.int .i64) (.pair (.sl false 137 (.st (.pair (.int .i64) (.int .i64)))) (.sl false 152 (.st (.pair .str .str))))))))) x):Sz (fun v => f15 k x v) (Sh.bd (.st (.pair (.st (.pair (.int .i64) (.pair (.int .i64) (.int .i64)))) (.sl false 126 (.st (.pair (.int .i64) (.pair (.sl false 137 (.st (.pair (.int .i64) (.int .i64)))) (.sl false 152 (.st (.pair .str .str))))))))) x) :=
 Sz.imp (Sz.seq (sz41 k hk x.2 hw.2) (Sz.done)) (fun ⟨b1,_⟩ => ⟨⟨trivial,trivial,trivial⟩,b1⟩)
/- laws.toTile -/
theorem to47 (k:Nat) (hk:1048576 < k) (x:(Int × (Int × Int))) (h:Sh.bd (.st (.pair (.int .i64) (.pair (.int .i64) (.int .i64)))) x):f47 k x=some x:=by
 unfold f47
 all_goals rfl
/- laws.toPoint -/
theorem to89 (k:Nat) (hk:1048576 < k) (x:(Int × Int)) (h:Sh.bd (.st (.pair (.int .i64) (.int .i64))) x):f89 k x=some x:=by
 unfold f89
 all_goals rfl
/- laws.toPointS -/
theorem to68 (k:Nat) (hk:1048576 < k) (x:(List (Int × Int))) (h:Sh.bd (.sl false 137 (.st (.pair (.int .i64) (.int .i64)))) x):f68 k x=some x:=by
 unfold f68
 exact copyRow (g:=fun y => f89 k y) (z:=16) hk (f68.l34 k x) (fun _ _ _ => rfl) (by decide) h.1 (fun y hy => to89 k hk y (h.2 y hy))
/- laws.toTag -/
theorem to104 (k:Nat) (hk:1048576 < k) (x:(ByteArray × ByteArray)) (h:Sh.bd (.st (.pair .str .str)) x):f104 k x=some x:=by
 unfold f104
 all_goals rfl
/- laws.toTagS -/
theorem to99 (k:Nat) (hk:1048576 < k) (x:(List (ByteArray × ByteArray))) (h:Sh.bd (.sl false 152 (.st (.pair .str .str))) x):f99 k x=some x:=by
 unfold f99
 exact copyRow (g:=fun y => f104 k y) (z:=32) hk (f99.l34 k x) (fun _ _ _ => rfl) (by decide) h.1 (fun y hy => to104 k hk y (h.2 y hy))
/- laws.toLine -/
theorem to79 (k:Nat) (hk:1048576 < k) (x:(Int × ((List (Int × Int)) × (List (ByteArray × ByteArray))))) (h:Sh.bd (.st (.pair (.int .i64) (.pair (.sl false 137 (.st (.pair (.int .i64) (.int .i64)))) (.sl false 152 (.st (.pair .str .str)))))) x):f79 k x=some x:=by
 unfold f79
 simp only [to68 k hk x.2.1 h.2.1,to99 k hk x.2.2 h.2.2,Option.bind_some]
 all_goals rfl
/- laws.toLineS -/
theorem to48 (k:Nat) (hk:1048576 < k) (x:(List (Int × ((List (Int × Int)) × (List (ByteArray × ByteArray)))))) (h:Sh.bd (.sl false 126 (.st (.pair (.int .i64) (.pair (.sl false 137 (.st (.pair (.int .i64) (.int .i64)))) (.sl false 152 (.st (.pair .str .str))))))) x):f48 k x=some x:=by
 unfold f48
 exact copyRow (g:=fun y => f79 k y) (z:=56) hk (f48.l34 k x) (fun _ _ _ => rfl) (by decide) h.1 (fun y hy => to79 k hk y (h.2 y hy))
/- laws.toTileData -/
theorem to17 (k:Nat) (hk:1048576 < k) (x:((Int × (Int × Int)) × (List (Int × ((List (Int × Int)) × (List (ByteArray × ByteArray))))))) (h:Sh.bd (.st (.pair (.st (.pair (.int .i64) (.pair (.int .i64) (.int .i64)))) (.sl false 126 (.st (.pair (.int .i64) (.pair (.sl false 137 (.st (.pair (.int .i64) (.int .i64)))) (.sl false 152 (.st (.pair .str .str))))))))) x):f17 k x=some x:=by
 unfold f17
 simp only [to47 k hk x.1 h.1,to48 k hk x.2 h.2,Option.bind_some]
 all_goals rfl
/- laws.eqByteS -/
theorem eq55 (k:Nat) (hk:1048576 < k) (x:(Int × (Int × Int))) (h:Sh.bd (.st (.pair (.int .i64) (.pair (.int .i64) (.int .i64)))) x):f55 k x x=some true:=by
 unfold f55
 simp []
/- laws.eqPoint -/
theorem eq95 (k:Nat) (hk:1048576 < k) (x:(Int × Int)) (h:Sh.bd (.st (.pair (.int .i64) (.int .i64))) x):f95 k x x=some true:=by
 unfold f95
 simp []
/- laws.eqPointS -/
theorem eq75 (k:Nat) (hk:1048576 < k) (x:(List (Int × Int))) (h:Sh.bd (.sl false 66 (.st (.pair (.int .i64) (.int .i64)))) x):f75 k x x=some true:=by
 unfold f75
 exact eqRow (e:=fun a b => f95 k a b) hk (f75.l30 k x x) (fun _ _ => rfl) h.1 (fun y hy => eq95 k hk y (h.2 y hy))
/- laws.eqTag -/
theorem eq105 (k:Nat) (hk:1048576 < k) (x:(ByteArray × ByteArray)) (h:Sh.bd (.st (.pair .str .str)) x):f105 k x x=some true:=by
 unfold f105
 simp []
/- laws.eqTagS -/
theorem eq100 (k:Nat) (hk:1048576 < k) (x:(List (ByteArray × ByteArray))) (h:Sh.bd (.sl false 128 (.st (.pair .str .str))) x):f100 k x x=some true:=by
 unfold f100
 exact eqRow (e:=fun a b => f105 k a b) hk (f100.l30 k x x) (fun _ _ => rfl) h.1 (fun y hy => eq105 k hk y (h.2 y hy))
/- laws.eqLine -/
theorem eq81 (k:Nat) (hk:1048576 < k) (x:(Int × ((List (Int × Int)) × (List (ByteArray × ByteArray))))) (h:Sh.bd (.st (.pair (.int .i64) (.pair (.sl false 66 (.st (.pair (.int .i64) (.int .i64)))) (.sl false 128 (.st (.pair .str .str)))))) x):f81 k x x=some true:=by
 unfold f81
 simp [eq75 k hk x.2.1 h.2.1,eq100 k hk x.2.2 h.2.2]
/- laws.eqLineS -/
theorem eq56 (k:Nat) (hk:1048576 < k) (x:(List (Int × ((List (Int × Int)) × (List (ByteArray × ByteArray)))))) (h:Sh.bd (.sl false 80 (.st (.pair (.int .i64) (.pair (.sl false 66 (.st (.pair (.int .i64) (.int .i64)))) (.sl false 128 (.st (.pair .str .str))))))) x):f56 k x x=some true:=by
 unfold f56
 exact eqRow (e:=fun a b => f81 k a b) hk (f56.l30 k x x) (fun _ _ => rfl) h.1 (fun y hy => eq81 k hk y (h.2 y hy))
/- laws.eqTileData -/
theorem eq20 (k:Nat) (hk:1048576 < k) (x:((Int × (Int × Int)) × (List (Int × ((List (Int × Int)) × (List (ByteArray × ByteArray))))))) (h:Sh.bd (.st (.pair (.st (.pair (.int .i64) (.pair (.int .i64) (.int .i64)))) (.sl false 80 (.st (.pair (.int .i64) (.pair (.sl false 66 (.st (.pair (.int .i64) (.int .i64)))) (.sl false 128 (.st (.pair .str .str))))))))) x):f20 k x x=some true:=by
 unfold f20
 simp [eq55 k hk x.1 h.1,eq56 k hk x.2 h.2]
def EPointS (k:Nat) (v:Int) (b:(Int × Int)) (c:Int):Prop:=(b.1=v) ∧ (b.2=v+1)∧c=v+1+1
abbrev KPointS (k:Nat):Int → (List (Int × Int))→Int→Prop:=RowR ((0:Int),(0:Int)) (EPointS k)
/- laws.markPointS -/
theorem mk39 (k:Nat) (hk:1048576 < k) (x:(List (Int × Int))) (hx:Sh.bd (.sl false 66 (.st (.pair (.int .i64) (.int .i64)))) x):Mk (fun x v => f39 k x v) (KPointS k) 2097152 x:=by
 refine markRow (d:=((0:Int),(0:Int))) (w:=2) hx.1 (L:=f39.l26 k) (by decide) (fun a ha v h0 h1 => ?_) (fun m xs v => by rw [f39.l26,if_f (by simp)]) hk (by decide)
 have z0:IntKind.i64.wrap (v+1)=v+1:=wrap_in (by omega) (by omega)
 have z1:IntKind.i64.wrap (v+1+1)=v+1+1:=wrap_in (by omega) (by omega)
 refine ⟨v+1+1,(v,v+1),⟨rfl,rfl,rfl⟩,by omega,by omega,fun m i xs hi hl ha => ?_⟩
 have hc:decide ((i:Int) < (xs.length:Int))=true:=by simpa using hi
 have hb:(0:Int) ≤ (i:Int) ∧ (i:Int) < (xs.length:Int):=⟨by omega,by omega⟩
 have hxl:=hx.1
 have h3:((3:Int):Int)≠0:=by decide
 rw [f39.l26,if_t hc]
 simp only [if_t hb,if_t h3,List.length_set,Int.toNat_natCast,gd_set_eq,hi,List.set_set,Option.bind_some,ha,wrap_s (n:=i) (by omega),z0,z1]
/- laws.markText -/
theorem tx40_go (k:Nat):∀ (d m n:Nat) (s:ByteArray),n < 10 ^ d→d < m→n < 9223372036854775807→s.size+d≤1000→∃ t,f40.l19 k m ((n:Int),s)=some t
 | 0,m,n,s,h1,hm,h3,h2 => by
   obtain ⟨m,rfl⟩:∃ q,m=q+1:=⟨m - 1,by omega⟩
   obtain rfl:n=0:=by omega
   rw [f40.l19,if_f (by decide),if_t (by rw [show (⟨#[109]⟩:ByteArray).size=1 from rfl]; omega)]
   exact ⟨_,rfl⟩
 | d+1,m,n,s,h1,hm,h3,h2 => by
   obtain ⟨m,rfl⟩:∃ q,m=q+1:=⟨m - 1,by omega⟩
   rw [f40.l19]
   by_cases h0:(n:Int) > 0
   ·have e:Int.tdiv (n:Int) 10 = ((n / 10:Nat):Int):=by rw [Int.tdiv_eq_ediv_of_nonneg (by omega)]; omega
    have z:∀ n,(strOfNums [n]).size=1:=fun _ => rfl
    rw [if_t (by simpa using h0),if_t (by decide),if_t (by rw [z]; omega),if_t (by decide),e,wrap_in (by omega) (by omega)]
    exact tx40_go k d m (n / 10) _ (by rw [Nat.pow_succ] at h1; omega) (by omega) (by omega) (by rw [ByteArray.size_append,z]; omega)
   ·rw [if_f (by simpa using h0),if_t (by rw [show (⟨#[109]⟩:ByteArray).size=1 from rfl]; omega)]
    exact ⟨_,rfl⟩
theorem tx40 (k:Nat) (hk:1048576 < k) (x:Int) (h0:0≤x) (h1:x≤9223372036854775000):∃ t,f40 k x=some t:=by
 unfold f40
 by_cases h:x≤0
 ·rw [if_t (by simpa using h)]; exact ⟨_,rfl⟩
 ·rw [if_f (by simpa using h)]
  obtain ⟨n,rfl⟩:∃ n:Nat,x=n:=⟨x.toNat,by omega⟩
  exact tx40_go k 19 k n _ (by omega) (by omega) (by omega) (by decide)
def ETagS (k:Nat) (v:Int) (b:(ByteArray × ByteArray)) (c:Int):Prop:=(f40 k (v)=some b.1) ∧ (f40 k (v+1)=some b.2)∧c=v+1+1
abbrev KTagS (k:Nat):Int → (List (ByteArray × ByteArray))→Int→Prop:=RowR ((⟨#[]⟩:ByteArray),(⟨#[]⟩:ByteArray)) (ETagS k)
/- laws.markTagS -/
theorem mk82 (k:Nat) (hk:1048576 < k) (x:(List (ByteArray × ByteArray))) (hx:Sh.bd (.sl false 128 (.st (.pair .str .str))) x):Mk (fun x v => f82 k x v) (KTagS k) 2097152 x:=by
 refine markRow (d:=((⟨#[]⟩:ByteArray),(⟨#[]⟩:ByteArray))) (w:=2) hx.1 (L:=f82.l50 k) (by decide) (fun a ha v h0 h1 => ?_) (fun m xs v => by rw [f82.l50,if_f (by simp)]) hk (by decide)
 obtain ⟨t1,ht1⟩:=tx40 k hk (v) (by omega) (by omega)
 obtain ⟨t2,ht2⟩:=tx40 k hk (v+1) (by omega) (by omega)
 have z0:IntKind.i64.wrap (v+1)=v+1:=wrap_in (by omega) (by omega)
 have z1:IntKind.i64.wrap (v+1+1)=v+1+1:=wrap_in (by omega) (by omega)
 refine ⟨v+1+1,(t1,t2),⟨ht1,ht2,rfl⟩,by omega,by omega,fun m i xs hi hl ha => ?_⟩
 have hc:decide ((i:Int) < (xs.length:Int))=true:=by simpa using hi
 have hb:(0:Int) ≤ (i:Int) ∧ (i:Int) < (xs.length:Int):=⟨by omega,by omega⟩
 have hxl:=hx.1
 have h3:((3:Int):Int)≠0:=by decide
 rw [f82.l50,if_t hc]
 simp only [if_t hb,if_t h3,List.length_set,Int.toNat_natCast,gd_set_eq,hi,List.set_set,Option.bind_some,ha,wrap_s (n:=i) (by omega),z0,z1,ht1,ht2]
def ELineS (k:Nat) (v:Int) (b:(Int × ((List (Int × Int)) × (List (ByteArray × ByteArray))))) (c:Int):Prop:=∃ c1:Int,∃ c2:Int,(b.1=v) ∧ (KPointS k (v+1) b.2.1 c1∧v+1≤c1) ∧ (KTagS k (c1) b.2.2 c2∧c1≤c2)∧c=c2
abbrev KLineS (k:Nat):Int → (List (Int × ((List (Int × Int)) × (List (ByteArray × ByteArray)))))→Int→Prop:=RowR ((0:Int),(([]:(List (Int × Int))),([]:(List (ByteArray × ByteArray))))) (ELineS k)
/- laws.markLineS -/
theorem mk57 (k:Nat) (hk:1048576 < k) (x:(List (Int × ((List (Int × Int)) × (List (ByteArray × ByteArray)))))) (hx:Sh.bd (.sl false 80 (.st (.pair (.int .i64) (.pair (.sl false 66 (.st (.pair (.int .i64) (.int .i64)))) (.sl false 128 (.st (.pair .str .str))))))) x):Mk (fun x v => f57 k x v) (KLineS k) 4398047559680 x:=by
 refine markRow (d:=((0:Int),(([]:(List (Int × Int))),([]:(List (ByteArray × ByteArray)))))) (w:=4194305) hx.1 (L:=f57.l68 k) (by decide) (fun a ha v h0 h1 => ?_) (fun m xs v => by rw [f57.l68,if_f (by simp)]) hk (by decide)
 obtain ⟨c1,y1,q1,r1,l1,u1⟩:=mk39 k hk (a.2.1) (hx.2 a ha).2.1 (v+1) (by omega) (by omega)
 have p1:f39 k (a.2.1) (v+1)=some (c1,y1):=q1
 obtain ⟨c2,y2,q2,r2,l2,u2⟩:=mk82 k hk (a.2.2) (hx.2 a ha).2.2 (c1) (by omega) (by omega)
 have p2:f82 k (a.2.2) (c1)=some (c2,y2):=q2
 have z0:IntKind.i64.wrap (v+1)=v+1:=wrap_in (by omega) (by omega)
 refine ⟨c2,(v,y1,y2),⟨_,_,rfl,⟨r1,l1⟩,⟨r2,l2⟩,rfl⟩,by omega,by omega,fun m i xs hi hl ha => ?_⟩
 have hc:decide ((i:Int) < (xs.length:Int))=true:=by simpa using hi
 have hb:(0:Int) ≤ (i:Int) ∧ (i:Int) < (xs.length:Int):=⟨by omega,by omega⟩
 have hxl:=hx.1
 have h3:((3:Int):Int)≠0:=by decide
 rw [f57.l68,if_t hc]
 simp only [if_t hb,if_t h3,List.length_set,Int.toNat_natCast,gd_set_eq,hi,List.set_set,Option.bind_some,ha,wrap_s (n:=i) (by omega),z0,p1,p2]
def KTileData (k:Nat) (v:Int) (b:((Int × (Int × Int)) × (List (Int × ((List (Int × Int)) × (List (ByteArray × ByteArray))))))) (c:Int):Prop:=∃ c1:Int,(KLineS k v b.2 c1∧v≤c1)∧c=c1
/- laws.markTileData -/
theorem mk21 (k:Nat) (hk:1048576 < k) (x:((Int × (Int × Int)) × (List (Int × ((List (Int × Int)) × (List (ByteArray × ByteArray))))))) (hx:Sh.bd (.st (.pair (.st (.pair (.int .i64) (.pair (.int .i64) (.int .i64)))) (.sl false 80 (.st (.pair (.int .i64) (.pair (.sl false 66 (.st (.pair (.int .i64) (.int .i64)))) (.sl false 128 (.st (.pair .str .str))))))))) x):Mk (fun x v => f21 k x v) (KTileData k) 4398047559680 x:=by
 intro v h0 h1
 obtain ⟨c1,y1,q1,r1,l1,u1⟩:=mk57 k hk x.2 hx.2 v (by omega) (by omega)
 have p1:f57 k x.2 v=some (c1,y1):=q1
 refine ⟨c1,(x.1,y1),?_,⟨_,⟨r1,l1⟩,rfl⟩,by omega,by omega⟩
 show f21 k x v=_
 unfold f21
 simp only [p1,Option.bind_some]
end Go.Proofs.Ytgfekidehbancaa.V
end
section
set_option linter.unusedVariables false
set_option linter.unusedSimpArgs false
namespace Go.Proofs.Ytgfekidehbancaa
open Go Go.Vm Go.Proofs V
theorem gt_not (a b:Int):decide (a > b)=!decide (a≤b):=by
 rw [← decide_not]; congr 1; apply propext; omega
theorem pos_succ (j:Nat):decide (((j+1:Nat):Int) > 0)=true:=by simp
abbrev Tags:=List (ByteArray × ByteArray)
abbrev dT:ByteArray × ByteArray:=((⟨#[]⟩:ByteArray),(⟨#[]⟩:ByteArray))
def chB (b:Int):Bool:=bif (bif (bif (bif (decide ((b:Int) ≥ (97:Int))) then (decide ((b:Int) ≤ (122:Int))) else false) then true else (bif (decide ((b:Int) ≥ (48:Int))) then (decide ((b:Int) ≤ (57:Int))) else false)) then true else ((b:Int) == (58:Int))) then true else ((b:Int) == (95:Int))
def vaB (b:Int):Bool:=!(bif (decide ((b:Int) < (32:Int))) then true else (decide ((b:Int) > (126:Int))))
def wordB (s:ByteArray):Bool:=(decide (1≤s.size) && decide (s.size≤40)) && allTo (fun i => chB (byteAt s (i:Int))) s.size
def valB (s:ByteArray):Bool:=(decide (1≤s.size) && decide (s.size≤100)) && allTo (fun i => vaB (byteAt s (i:Int))) s.size
theorem sz_ge (s:ByteArray):decide ((ByteArray.size s:Int) ≥ (1:Int))=decide (1≤s.size):=decide_eq_decide.2 (by omega)
theorem sz_lt (s:ByteArray):decide ((ByteArray.size s:Int) < (1:Int))=!decide (1≤s.size):=by
 rw [← decide_not]; exact decide_eq_decide.2 (by omega)
theorem sz_le (s:ByteArray) (n:Nat) (N:Int) (h:N = (n:Int)):decide ((ByteArray.size s:Int)≤N)=decide (s.size≤n):=by subst h; exact decide_eq_decide.2 (by omega)
theorem e97 (k:Nat) (hk:1048576 < k) (s:ByteArray) (hs:s.size≤1048576):f97 k s=some (wordB s):=by
 have q:=allLoop (L:=f97.l12 k s) (n:=s.size) (p:=fun i => chB (byteAt s (i:Int))) (fin:=some (bif (decide ((ByteArray.size s:Int) ≥ (1:Int))) then (decide ((ByteArray.size s:Int) ≤ (40:Int))) else false)) (fun m i hi => by
  have hb:(0:Int) ≤ (i:Int) ∧ (i:Int) < (ByteArray.size s:Int):=⟨by omega,by omega⟩
  have hc:decide ((i:Int) < (ByteArray.size s:Int))=true:=decide_eq_true hb.2
  rw [f97.l12,if_t hc,if_t hb,wrap_s (by omega)]
  show (if (!chB (byteAt s (i:Int)))=true then _ else _)=_
  cases chB (byteAt s (i:Int)) <;> rfl) (fun m => by rw [f97.l12,if_f (by simp)]) (k:=k) (by omega)
 unfold f97 wordB
 rw [q,sz_ge,sz_le s 40 40 rfl]
 generalize allTo (fun i => chB (byteAt s (i:Int))) s.size=A
 generalize decide (1≤s.size)=B
 generalize decide (s.size≤40)=C
 cases A <;> cases B <;> cases C <;> rfl
theorem e80 (k:Nat) (hk:1048576 < k) (s:ByteArray) (hs:s.size≤1048576):f80 k s=some (wordB s):=by
 have q:=allLoop (L:=f80.l12 k s) (n:=s.size) (p:=fun i => chB (byteAt s (i:Int))) (fin:=some true) (fun m i hi => by
  have hb:(0:Int) ≤ (i:Int) ∧ (i:Int) < (ByteArray.size s:Int):=⟨by omega,by omega⟩
  have hc:decide ((i:Int) < (ByteArray.size s:Int))=true:=decide_eq_true hb.2
  rw [f80.l12,if_t hc,if_t hb,wrap_s (by omega)]
  show (if (!chB (byteAt s (i:Int)))=true then _ else _)=_
  cases chB (byteAt s (i:Int)) <;> rfl) (fun m => by rw [f80.l12,if_f (by simp)]) (k:=k) (by omega)
 unfold f80 wordB
 rw [q,sz_lt,gt_not,sz_le s 40 40 rfl]
 generalize allTo (fun i => chB (byteAt s (i:Int))) s.size=A
 generalize decide (1≤s.size)=B
 generalize decide (s.size≤40)=C
 cases A <;> cases B <;> cases C <;> rfl
theorem e98 (k:Nat) (hk:1048576 < k) (s:ByteArray) (hs:s.size≤1048576):f98 k s=some (valB s):=by
 have q:=allLoop (L:=f98.l18 k s) (n:=s.size) (p:=fun i => vaB (byteAt s (i:Int))) (fin:=some (bif (decide ((ByteArray.size s:Int) ≥ (1:Int))) then (decide ((ByteArray.size s:Int) ≤ (100:Int))) else false)) (fun m i hi => by
  have hb:(0:Int) ≤ (i:Int) ∧ (i:Int) < (ByteArray.size s:Int):=⟨by omega,by omega⟩
  have hc:decide ((i:Int) < (ByteArray.size s:Int))=true:=decide_eq_true hb.2
  rw [f98.l18,if_t hc,if_t hb,if_t (fun _ => hb),wrap_s (by omega)]
  unfold vaB
  by_cases hA:(bif (decide ((byteAt s (i:Int):Int) < (32:Int))) then true else (decide ((byteAt s (i:Int):Int) > (126:Int))))=true
  ·rw [if_t hA,hA]; rfl
  ·rw [if_f hA,eq_false_of_ne_true hA]; rfl) (fun m => by rw [f98.l18,if_f (by simp)]) (k:=k) (by omega)
 unfold f98 valB
 rw [q,sz_ge,sz_le s 100 100 rfl]
 generalize allTo (fun i => vaB (byteAt s (i:Int))) s.size=A
 generalize decide (1≤s.size)=B
 generalize decide (s.size≤100)=C
 cases A <;> cases B <;> cases C <;> rfl
def ascT (ts:Tags) (i:Nat):Bool:=decide (i=0) || Op.bytesLess (ByteArray.toList (ts.getD (i - 1) dT).1) (ByteArray.toList (ts.getD i dT).1)
def okTag (ts:Tags) (i:Nat):Bool:=(wordB (ts.getD i dT).1 && valB (ts.getD i dT).2) && ascT ts i
def tagsOk (ts:Tags):Bool:=decide (ts.length≤30) && allTo (okTag ts) ts.length
def TSz (ts:Tags):Prop:=∀ t ∈ ts,t.1.size≤1048576∧t.2.size≤1048576
theorem in_getD {α:Type} {d:α} {l:List α} {i:Nat} (h:i < l.length):l.getD i d ∈ l:=by
 simp [List.getD_eq_getElem?_getD,h]
theorem e78 (k:Nat) (hk:1048576 < k) (ts:Tags) (hz:TSz ts):f78 k ts=some (tagsOk ts):=by
 unfold f78 tagsOk
 by_cases hl:ts.length≤30
 ·have hl':decide ((List.length ts:Int) ≤ (30:Int))=true:=decide_eq_true (by omega)
  have q:=allLoop (L:=f78.l54 k ts) (n:=ts.length) (p:=okTag ts) (fin:=some true) (fun m i hi => by
   have hb:(0:Int) ≤ (i:Int) ∧ (i:Int) < (ts.length:Int):=⟨by omega,by omega⟩
   have hc:decide ((i:Int) < (ts.length:Int))=true:=decide_eq_true hb.2
   have h1:=hz _ (in_getD (d:=dT) hi)
   rw [f78.l54,hc,cond_true,if_t hl',if_t hb,wrap_s (by omega)]
   simp only [Int.toNat_natCast,e97 k hk _ h1.1,e98 k hk _ h1.2,Option.bind_some]
   unfold okTag ascT
   generalize wordB (ts.getD i dT).1=A
   generalize valB (ts.getD i dT).2=B
   rcases i with _ | j
   ·have hne:¬ ts=[]:=fun h => by rw [h] at hi; simp at hi
    cases A <;> cases B <;> simp [hne]
   ·have hj:(0:Int) ≤ (j:Int) ∧ (j:Int) < (ts.length:Int):=⟨by omega,by omega⟩
    have hb':(0:Int) ≤ (j:Int)+1 ∧ (j:Int)+1 < (ts.length:Int):=⟨by omega,by omega⟩
    simp only [wrap_p j (by omega),pos_succ,Int.toNat_natCast,Nat.add_sub_cancel]
    generalize Op.bytesLess (ByteArray.toList (ts.getD j dT).1) (ByteArray.toList (ts.getD (j+1) dT).1)=C
    cases A <;> cases B <;> cases C <;> simp [hb',hj]) (fun m => by
   have hc:decide ((ts.length:Int) < (ts.length:Int))=false:=decide_eq_false (by omega)
   rw [f78.l54,hc,cond_false,if_f (by simp),hl']) (k:=k) (by omega)
  rw [q,decide_eq_true hl]
  cases allTo (okTag ts) ts.length <;> rfl
 ·have hl':decide ((List.length ts:Int) ≤ (30:Int))=false:=decide_eq_false (by omega)
  obtain ⟨k',rfl⟩:∃ q,k=q+1:=⟨k - 1,by omega⟩
  rw [f78.l54,hl',decide_eq_false hl]
  cases decide ((0:Int) < (List.length ts:Int)) <;> rfl
theorem e52 (k:Nat) (hk:1048576 < k) (ts:Tags) (hz:TSz ts):f52 k ts=some (tagsOk ts):=by
 unfold f52 tagsOk
 by_cases hl:ts.length≤30
 ·have hl':decide ((List.length ts:Int) > (30:Int))=false:=decide_eq_false (by omega)
  have q:=allLoop (L:=f52.l144 k ts) (n:=ts.length) (p:=okTag ts) (fin:=some true) (fun m i hi => by
   have hb:(0:Int) ≤ (i:Int) ∧ (i:Int) < (ts.length:Int):=⟨by omega,by omega⟩
   have hc:decide ((i:Int) < (ts.length:Int))=true:=decide_eq_true hb.2
   have h1:=hz _ (in_getD (d:=dT) hi)
   have inner:=allLoopI (L:=f52.l266 k ts (i:Int) (f52.l144 k ts m)) (n:=(ts.getD i dT).2.size) (p:=fun j => vaB (byteAt (ts.getD i dT).2 (j:Int))) (bad:=some false) (fin:=f52.l144 k ts m ((i+1:Nat):Int)) (fun m j hj => by
    have hbj:(0:Int) ≤ (j:Int) ∧ (j:Int) < (ByteArray.size (ts.getD i dT).2:Int):=⟨by omega,by omega⟩
    have hcj:decide ((j:Int) < (ByteArray.size (ts.getD i dT).2:Int))=true:=decide_eq_true hbj.2
    rw [f52.l266]
    simp only [Int.toNat_natCast]
    rw [if_t hcj,if_t hbj,if_t (fun _ => hbj),wrap_s (by omega)]
    unfold vaB
    by_cases hA:(bif (decide ((byteAt (ts.getD i dT).2 (j:Int):Int) < (32:Int))) then true else (decide ((byteAt (ts.getD i dT).2 (j:Int):Int) > (126:Int))))=true
    ·rw [if_t hA,hA]; rfl
    ·rw [if_f hA,eq_false_of_ne_true hA]; rfl) (fun m => by
    rw [f52.l266]
    simp only [Int.toNat_natCast]
    rw [if_f (by simp),wrap_s (by omega)]) (k:=k) (by omega)
   have z1:=sz_lt (ts.getD i dT).2
   have z2:decide ((ByteArray.size (ts.getD i dT).2:Int) > (100:Int))=!decide ((ts.getD i dT).2.size≤100):=by rw [gt_not,sz_le _ 100 100 rfl]
   rw [f52.l144,if_t hc,if_t hb]
   simp only [Int.toNat_natCast,e80 k hk _ h1.1,Option.bind_some,inner]
   rw [z1,z2]
   unfold okTag ascT valB
   generalize wordB (ts.getD i dT).1=A
   generalize decide (1 ≤ (ts.getD i dT).2.size)=B1
   generalize decide ((ts.getD i dT).2.size≤100)=B2
   generalize allTo (fun j => vaB (byteAt (ts.getD i dT).2 (j:Int))) (ts.getD i dT).2.size=B3
   rcases i with _ | j
   ·have hne:¬ ts=[]:=fun h => by rw [h] at hi; simp at hi
    cases A <;> cases B1 <;> cases B2 <;> cases B3 <;> simp [hne]
   ·have hj:(0:Int) ≤ (j:Int) ∧ (j:Int) < (ts.length:Int):=⟨by omega,by omega⟩
    have hb':(0:Int) ≤ (j:Int)+1 ∧ (j:Int)+1 < (ts.length:Int):=⟨by omega,by omega⟩
    simp only [wrap_p j (by omega),pos_succ,Int.toNat_natCast,Nat.add_sub_cancel]
    generalize Op.bytesLess (ByteArray.toList (ts.getD j dT).1) (ByteArray.toList (ts.getD (j+1) dT).1)=C
    cases A <;> cases B1 <;> cases B2 <;> cases B3 <;> cases C <;> simp [hb',hj]) (fun m => by rw [f52.l144,if_f (by simp)]) (k:=k) (by omega)
  rw [hl',if_f (by simp),q,decide_eq_true hl]
  cases allTo (okTag ts) ts.length <;> rfl
 ·have hl':decide ((List.length ts:Int) > (30:Int))=true:=decide_eq_true (by omega)
  rw [hl',if_t rfl,decide_eq_false hl]; rfl
end Go.Proofs.Ytgfekidehbancaa
end
section
set_option linter.unusedVariables false
set_option linter.unusedSimpArgs false
namespace Go.Proofs.Ytgfekidehbancaa
open Go Go.Vm Go.Proofs V
theorem u8_in {n:Int} (h1:0≤n) (h2:n≤255):IntKind.u8.wrap n=n:=by
 simp [IntKind.wrap,IntKind.signed,IntKind.bits]
 omega
theorem u64_in {n:Int} (h1:0≤n) (h2:n≤9223372036854775807):IntKind.u64.wrap n=n:=by
 simp [IntKind.wrap,IntKind.signed,IntKind.bits]
 omega
theorem or128:∀ x:Fin 256,Go.bits .or .u8 ((x.val:Nat):Int) 128 = ((x.val % 128+128:Nat):Int):=by decide +kernel
theorem u8_mod (n:Nat):IntKind.u8.wrap (n:Int) = ((n % 256:Nat):Int):=by
 simp [IntKind.wrap,IntKind.signed,IntKind.bits]
def encF:Nat→Nat→List Int
 | 0,n => [(n:Int)]
 | f+1,n => if n < 128 then [(n:Int)] else ((n % 128+128:Nat):Int) :: encF f (n / 128)
def enc (n:Nat):List Int:=encF 9 n
theorem encF_len:∀ f n,(encF f n).length≤f+1
 | 0,n => by simp [encF]
 | f+1,n => by
   unfold encF
   split
   ·simp
   ·have:=encF_len f (n / 128); simp; omega
theorem enc_len (n:Nat):(enc n).length≤10:=encF_len 9 n
theorem div_pow {f n:Nat} (h:n < 128 ^ (f+2)):n / 128 < 128 ^ (f+1):=by
 rw [Nat.pow_succ] at h
 exact Nat.div_lt_of_lt_mul (by rw [Nat.mul_comm]; exact h)
theorem num_s (k:Nat):∀ (f n m:Nat) (b:List Int),n < 128 ^ (f+1)→n < 9223372036854775808→f < m→b.length+f≤1099511627776→f43.l19 k m (b,(n:Int))=some (b ++ encF f n)
 | f,n,0,b,_,_,h,_ => by omega
 | 0,n,m+1,b,h1,h2,h,hb => by
   have hn:n < 128:=by simpa using h1
   rw [f43.l19,if_f (by simp; omega),if_t (by simp; omega),u8_in (by omega) (by omega)]
   rfl
 | f+1,n,m+1,b,h1,h2,h,hb => by
   rw [f43.l19]
   by_cases hn:n < 128
   ·rw [if_f (by simp; omega),if_t (by simp; omega),u8_in (by omega) (by omega)]
    unfold encF
    rw [if_pos hn]
   ·have ht:Int.tmod (n:Int) 128 = ((n % 128:Nat):Int):=by rw [Int.tmod_eq_emod_of_nonneg (by omega)]; rfl
    have hd:Int.tdiv (n:Int) 128 = ((n / 128:Nat):Int):=by rw [Int.tdiv_eq_ediv_of_nonneg (by omega)]; rfl
    have hz:((128:Int):Int)≠0:=by decide
    rw [if_t (by simp; omega),if_t hz,if_t (by simp; omega),if_t hz,ht,hd,wrap_in (by omega) (by omega),u8_in (by omega) (by omega),wrap_in (by omega) (by omega)]
    have e:((n % 128:Nat):Int)+128 = ((n % 128+128:Nat):Int):=by omega
    rw [e,num_s k f (n / 128) m _ (div_pow h1) (by omega) (by omega) (by simp; omega)]
    conv => rhs; unfold encF
    rw [if_neg hn]
    simp
theorem num_i (k:Nat):∀ (f n m:Nat) (b:List Int),n < 128 ^ (f+1)→n < 9223372036854775808→f < m→b.length+f≤1099511627776→f50.l16 k m ((b,()),(n:Int))=some (b ++ encF f n,())
 | f,n,0,b,_,_,h,_ => by omega
 | 0,n,m+1,b,h1,h2,h,hb => by
   have hn:n < 128:=by simpa using h1
   rw [f50.l16,if_f (by simp; omega),if_t (by simp; omega),u8_in (by omega) (by omega)]
   rfl
 | f+1,n,m+1,b,h1,h2,h,hb => by
   rw [f50.l16]
   by_cases hn:n < 128
   ·rw [if_f (by simp; omega),if_t (by simp; omega),u8_in (by omega) (by omega)]
    unfold encF
    rw [if_pos hn]
    rfl
   ·have hd:Int.fdiv (n:Int) (2 ^ (min (Int.toNat 7) IntKind.u64.bits)) = ((n / 128:Nat):Int):=by
     have:(2:Int) ^ (min (Int.toNat 7) IntKind.u64.bits)=128:=by decide
     rw [this,Int.fdiv_eq_ediv_of_nonneg _ (by omega)]; rfl
    have ho:Go.bits .or .u8 (IntKind.u8.wrap (n:Int)) 128 = ((n % 128+128:Nat):Int):=by
     have:=or128 ⟨n % 256,Nat.mod_lt _ (by omega)⟩
     simp only at this
     rw [u8_mod,this]
     congr 1
     omega
    rw [if_t (by simp; omega),if_t (by simp; omega),if_t (by decide),hd,ho]
    have ih:=num_i k f (n / 128) m (b ++ [((n % 128+128:Nat):Int)]) (div_pow h1) (by omega) (by omega) (by simp; omega)
    refine Eq.trans ih ?_
    conv => rhs; unfold encF
    rw [if_neg hn]
    simp
section
variable (k:Nat) (hk:1048576 < k)
include hk
theorem e43 (b:List Int) (hb:b.length≤549755813888) (n:Nat) (hn:n < 9223372036854775808):f43 k b (n:Int)=some (b ++ enc n):=num_s k 9 n k b (Nat.lt_trans hn (by decide)) hn (by omega) (by omega)
theorem e50 (b:List Int) (hb:b.length≤549755813888) (n:Nat) (hn:n < 9223372036854775808):f50 k (b,()) (n:Int)=some (b ++ enc n,()):=by
 unfold f50
 rw [u64_in (by omega) (by omega)]
 exact num_i k 9 n k b (Nat.lt_trans hn (by decide)) hn (by omega) (by omega)
end
def sgn (x:Int):Nat:=if x < 0 then (-2*x - 1).toNat else (2*x).toNat
section
variable (k:Nat) (hk:1048576 < k)
include hk
theorem e45 (b:List Int) (hb:b.length≤549755813888) (x:Int) (h1:-1000000≤x) (h2:x≤1000000):f45 k b x=some (b ++ enc (sgn x)):=by
 unfold f45 sgn
 by_cases hx:x < 0
 ·rw [if_t (by simpa using hx),if_pos hx,wrap_in (n:=-2*x) (by omega) (by omega),wrap_in (by omega) (by omega)]
  have e:(-2*x - 1:Int) = (((-2*x - 1).toNat:Nat):Int):=by omega
  rw [e,e43 k hk b hb _ (by omega)]
  rfl
 ·rw [if_f (by simpa using hx),if_neg hx,wrap_in (by omega) (by omega)]
  have e:(2*x:Int) = (((2*x).toNat:Nat):Int):=by omega
  rw [e,e43 k hk b hb _ (by omega)]
  rfl
theorem e53 (b:List Int) (hb:b.length≤549755813888) (x:Int) (h1:-1000000≤x) (h2:x≤1000000):f53 k (b,()) x=some (b ++ enc (sgn x),()):=by
 unfold f53 sgn
 by_cases hx:x < 0
 ·rw [if_t (by simpa using hx),if_pos hx,wrap_in (n:=-2*x) (by omega) (by omega),wrap_in (by omega) (by omega)]
  have e:(-2*x - 1:Int) = (((-2*x - 1).toNat:Nat):Int):=by omega
  rw [e,e50 k hk b hb _ (by omega)]
  rfl
 ·rw [if_f (by simpa using hx),if_neg hx,wrap_in (by omega) (by omega)]
  have e:(2*x:Int) = (((2*x).toNat:Nat):Int):=by omega
  rw [e,e50 k hk b hb _ (by omega)]
  rfl
end
end Go.Proofs.Ytgfekidehbancaa
end
section
set_option linter.unusedVariables false
set_option linter.unusedSimpArgs false
namespace Go.Proofs.Ytgfekidehbancaa
open Go Go.Vm Go.Proofs V
abbrev Pt:=Int × Int
abbrev dPt:Pt:=((0:Int),(0:Int))
abbrev Line:=Int × (List Pt × Tags)
abbrev Tile:=(Int × (Int × Int)) × List Line
def encTag (t:ByteArray × ByteArray):List Int:=enc t.1.size ++ (strNums t.1 ++ (enc t.2.size ++ strNums t.2))
def encTgs:Tags→List Int
 | [] => []
 | t :: ts => encTag t ++ encTgs ts
theorem getD_drop' {α:Type} {x:List α} {i:Nat} {d:α} (h:i < x.length):x.drop i=x.getD i d :: x.drop (i+1):=by
 rw [List.drop_eq_getElem_cons h,List.getD_eq_getElem?_getD,List.getElem?_eq_getElem h]; rfl
section
variable (k:Nat) (hk:1048576 < k) (ts:Tags) (hz:∀ t ∈ ts,t.1.size≤1048576∧t.2.size≤1048576) (hl:ts.length≤1048576)
include hk hz hl
theorem tag_s:∀ (m i:Nat) (b:List Int),i≤ts.length→ts.length - i < m→b.length + (ts.length - i)*2200000≤400000000000→f46.l71 k ts m (b,(i:Int))=some (b ++ encTgs (ts.drop i))∧f54.l2 k ts m ((b,()),(i:Int))=some (b ++ encTgs (ts.drop i),())
 | 0,i,b,_,h,_ => by omega
 | m+1,i,b,hi,h,hb => by
   rw [f46.l71,f54.l2]
   by_cases hlt:i < ts.length
   ·have hbd:(0:Int) ≤ (i:Int) ∧ (i:Int) < (ts.length:Int):=⟨by omega,by omega⟩
    have hc:decide ((i:Int) < (ts.length:Int))=true:=by simpa using hlt
    obtain ⟨z1,z2⟩:=hz (ts.getD i dT) (in_getD hlt)
    have l1:=enc_len (ts.getD i dT).1.size
    have l2:=enc_len (ts.getD i dT).2.size
    have n1:=strNums_len (ts.getD i dT).1
    have n2:=strNums_len (ts.getD i dT).2
    have hsub:(ts.length - i) = (ts.length - (i+1))+1:=by omega
    rw [hsub,Nat.add_mul] at hb
    have a1:=e43 k hk b (by omega) (ts.getD i dT).1.size (by omega)
    have a2:=e50 k hk b (by omega) (ts.getD i dT).1.size (by omega)
    have a3:=e43 k hk ((b ++ enc (ts.getD i dT).1.size) ++ strNums (ts.getD i dT).1) (by simp only [List.length_append]; omega) (ts.getD i dT).2.size (by omega)
    have a4:=e50 k hk ((b ++ enc (ts.getD i dT).1.size) ++ strNums (ts.getD i dT).1) (by simp only [List.length_append]; omega) (ts.getD i dT).2.size (by omega)
    obtain ⟨r1,r2⟩:=tag_s m (i+1) ((((b ++ enc (ts.getD i dT).1.size) ++ strNums (ts.getD i dT).1) ++ enc (ts.getD i dT).2.size) ++ strNums (ts.getD i dT).2) (by omega) (by omega) (by simp only [List.length_append]; omega)
    have hcat:(((((b ++ enc (ts.getD i dT).1.size) ++ strNums (ts.getD i dT).1) ++ enc (ts.getD i dT).2.size) ++ strNums (ts.getD i dT).2) ++ encTgs (ts.drop (i+1)))=b ++ encTgs (ts.drop i):=by
     rw [getD_drop' (d:=dT) hlt]
     simp [encTgs,encTag]
    rw [hcat] at r1 r2
    have s1:(b ++ enc (ts.getD i dT).1.size).length+ByteArray.size (ts.getD i dT).1≤140737488355328:=by simp only [List.length_append]; omega
    have s2:(((b ++ enc (ts.getD i dT).1.size) ++ strNums (ts.getD i dT).1) ++ enc (ts.getD i dT).2.size).length+ByteArray.size (ts.getD i dT).2≤140737488355328:=by simp only [List.length_append]; omega
    constructor
    ·rw [if_t hc,if_t hbd,Int.toNat_natCast,a1,Option.bind_some,if_t hbd,if_t s1,if_t hbd,a3,Option.bind_some,if_t hbd,if_t s2,wrap_s (by omega)]
     exact r1
    ·rw [if_t hc,if_t hbd,Int.toNat_natCast,a2,Option.bind_some,if_t s1]
     have a4':f50 k (List.append (b ++ enc (ts.getD i dT).1.size,()).1 (strNums (ts.getD i dT).1),(b ++ enc (ts.getD i dT).1.size,()).2) ((ts.getD i dT).2.size:Int)=_:=a4
     rw [a4',Option.bind_some,if_t s2,wrap_s (by omega)]
     exact r2
   ·have hc:¬ decide ((i:Int) < (ts.length:Int))=true:=by simpa using hlt
    rw [if_f hc,if_f hc,List.drop_eq_nil_of_le (by omega)]
    simp [encTgs]
def encTags (ts:Tags):List Int:=enc ts.length ++ encTgs ts
end
theorem tags_two (k:Nat) (hk:1048576 < k) (ts:Tags) (hz:∀ t ∈ ts,t.1.size≤1048576∧t.2.size≤1048576) (hl:ts.length≤30) (b:List Int) (hb:b.length≤300000000000):f46 k b ts=some (b ++ encTags ts)∧f54 k (b,()) ts=some (b ++ encTags ts,()):=by
 have l1:=enc_len ts.length
 obtain ⟨r1,r2⟩:=tag_s k hk ts hz (by omega) k 0 (b ++ enc ts.length) (by omega) (by omega) (by simp only [List.length_append]; omega)
 have a1:=e43 k hk b (by omega) ts.length (by omega)
 have a2:=e50 k hk b (by omega) ts.length (by omega)
 unfold f46 f54
 rw [a1,a2,Option.bind_some,Option.bind_some]
 constructor
 ·refine Eq.trans r1 ?_
  simp [encTags]
 ·refine Eq.trans r2 ?_
  simp [encTags]
def ptOk (p:Pt):Bool:=!(bif (bif (bif (decide (p.1 < 0)) then true else (decide (p.1 > 4096))) then true else (decide (p.2 < 0))) then true else (decide (p.2 > 4096)))
theorem ptOk_iff {p:Pt}:ptOk p=true ↔ (0≤p.1∧p.1≤4096)∧0≤p.2∧p.2≤4096:=by
 unfold ptOk
 by_cases h1:p.1 < 0 <;> by_cases h2:p.1 > 4096 <;> by_cases h3:p.2 < 0 <;> by_cases h4:p.2 > 4096 <;> simp [h1,h2,h3,h4] <;> omega
def rowOk (r:List Pt) (j:Nat):Bool:=(r.drop j).all ptOk
theorem nt {a b:Bool} (e:a=!b) (h:a=false):b=true:=by cases b <;> simp_all
theorem nf {a b:Bool} (e:a=!b) (h:a=true):¬ b=true:=by cases b <;> simp_all
theorem rowOk_step {r:List Pt} {j:Nat} (h:j < r.length):rowOk r j = (ptOk (r.getD j dPt) && rowOk r (j+1)):=by
 unfold rowOk
 rw [getD_drop' (d:=dPt) h,List.all_cons]
def encPts:Pt→List Pt→List Int
 | _,[] => []
 | a,p :: ps => enc (sgn (p.1 - a.1)) ++ (enc (sgn (p.2 - a.2)) ++ encPts p ps)
theorem encPts_len:∀ (a:Pt) (ps:List Pt),(encPts a ps).length≤20*ps.length
 | a,[] => by simp [encPts]
 | a,p :: ps => by
   have h1:=enc_len (sgn (p.1 - a.1))
   have h2:=enc_len (sgn (p.2 - a.2))
   have h3:=encPts_len p ps
   simp only [encPts,List.length_append,List.length_cons]
   omega
def lineOk (l:Line):Bool:=rowOk l.2.1 0 && ((decide (1≤l.1) && decide (l.1≤1000000000) && decide (l.2.1.length≤2000)) && tagsOk l.2.2)
def LSz (l:Line):Prop:=l.2.1.length≤1048576∧l.2.2.length≤1048576∧∀ t ∈ l.2.2,t.1.size≤1048576∧t.2.size≤1048576
def encLine (l:Line):List Int:=enc l.1.toNat ++ (enc l.2.1.length ++ (encPts (0,0) l.2.1 ++ encTags l.2.2))
theorem idq (x:Int):(bif (decide ((x:Int) ≥ (1:Int))) then (decide ((x:Int) ≤ (1000000000:Int))) else false) = (decide (1≤x) && decide (x≤1000000000)):=by
 by_cases h:1≤x
 ·rw [decide_eq_true h]; rfl
 ·rw [decide_eq_false h]; rfl
theorem e44 (k:Nat) (hk:1048576 < k) (l:Line) (hz:LSz l):f44 k l=some (lineOk l):=by
 have go:∀ (m j:Nat),j≤l.2.1.length→l.2.1.length - j < m→f44.l12 k l m (j:Int)=some (rowOk l.2.1 j && ((decide (1≤l.1) && decide (l.1≤1000000000) && decide (l.2.1.length≤2000)) && tagsOk l.2.2)):=by
  intro m
  induction m with
  | zero => intro j _ h; omega
  | succ m ih =>
    intro j hj h
    have hzl:=hz.1
    rw [f44.l12]
    by_cases hlt:j < l.2.1.length
    ·have hbd:(0:Int) ≤ (j:Int) ∧ (j:Int) < (l.2.1.length:Int):=⟨by omega,by omega⟩
     rw [if_t (by simpa using hlt),if_t hbd,Int.toNat_natCast,rowOk_step hlt]
     have e:ptOk (l.2.1.getD j dPt)=!(bif (bif (bif (decide ((l.2.1.getD j dPt).1 < 0)) then true else (decide ((l.2.1.getD j dPt).1 > 4096))) then true else (decide ((l.2.1.getD j dPt).2 < 0))) then true else (decide ((l.2.1.getD j dPt).2 > 4096))):=rfl
     cases hp:ptOk (l.2.1.getD j dPt) with
     | false =>
       rw [if_t (nt e hp)]
       simp
     | true =>
       rw [if_f (nf e hp),wrap_s (by omega),ih (j+1) (by omega) (by omega)]
       simp
    ·rw [if_f (by simpa using hlt)]
     have hr:rowOk l.2.1 j=true:=by unfold rowOk; rw [List.drop_eq_nil_of_le (by omega)]; rfl
     unfold f77
     rw [Option.bind_some,idq,hr,e78 k hk l.2.2 hz.2.2]
     have hlen:decide ((l.2.1.length:Int)≤2000)=decide (l.2.1.length≤2000):=decide_eq_decide.2 (by omega)
     rw [hlen]
     cases decide (1≤l.1) <;> cases decide (l.1≤1000000000) <;> cases decide (l.2.1.length≤2000) <;> simp
 have:=go k 0 (by omega) (by have:=hz.1; omega)
 exact this
theorem wr_sub {x y:Int} (h1:0≤x∧x≤4096) (h2:0≤y∧y≤4096):IntKind.i64.wrap (x - y)=x - y:=wrap_in (by omega) (by omega)
end Go.Proofs.Ytgfekidehbancaa
end
section
set_option linter.unusedVariables false
set_option linter.unusedSimpArgs false
namespace Go.Proofs.Ytgfekidehbancaa
open Go Go.Vm Go.Proofs V
theorem allTo_get {p:Nat→Bool} {n i:Nat} (h:allTo p n=true) (hi:i < n):p i=true:=allTo_iff.1 h i hi
theorem cfl {p1 p2 p3:Prop} [Decidable p1] [Decidable p2] [Decidable p3] (h:¬ ((p1∧p2)∧p3)):(bif !(decide p1 && decide p2) then true else !decide p3)=true:=by
 by_cases q1:p1 <;> by_cases q2:p2 <;> by_cases q3:p3 <;> simp_all
theorem tgs_len:∀ (ts:Tags),(∀ t ∈ ts,t.1.size≤40∧t.2.size≤100) → (encTgs ts).length≤160*ts.length
 | [],_ => by simp [encTgs]
 | t :: ts,h => by
   have h1:=tgs_len ts (fun t ht => h t (List.mem_cons_of_mem _ ht))
   have h2:=h t List.mem_cons_self
   have l1:=enc_len t.1.size
   have l2:=enc_len t.2.size
   have n1:=strNums_len t.1
   have n2:=strNums_len t.2
   simp only [encTgs,encTag,List.length_append,List.length_cons]
   omega
theorem tags_len {ts:Tags} (h:tagsOk ts=true):ts.length≤30 ∧ (encTags ts).length≤4810:=by
 unfold tagsOk at h
 rw [Bool.and_eq_true] at h
 have hl:=of_decide_eq_true h.1
 have:=tgs_len ts (fun t ht => by
  obtain ⟨i,hi,rfl⟩:=List.getElem_of_mem ht
  have h2:=allTo_get h.2 hi
  unfold okTag wordB valB at h2
  simp only [Bool.and_eq_true,decide_eq_true_eq] at h2
  have e:ts.getD i dT=ts[i]:=by simp [List.getD_eq_getElem?_getD,hi]
  rw [e] at h2
  exact ⟨h2.1.1.1.2,h2.1.2.1.2⟩)
 have l1:=enc_len ts.length
 refine ⟨hl,?_⟩
 simp only [encTags,List.length_append]
 omega
theorem lineOk_iff {l:Line}:lineOk l=true↔rowOk l.2.1 0=true ∧ (1≤l.1∧l.1≤1000000000∧l.2.1.length≤2000)∧tagsOk l.2.2=true:=by
 unfold lineOk
 simp only [Bool.and_eq_true,decide_eq_true_eq]
 constructor
 ·rintro ⟨h1,⟨⟨h2,h3⟩,h4⟩,h5⟩; exact ⟨h1,⟨h2,h3,h4⟩,h5⟩
 ·rintro ⟨h1,⟨h2,h3,h4⟩,h5⟩; exact ⟨h1,⟨⟨h2,h3⟩,h4⟩,h5⟩
theorem line_len {l:Line} (h:lineOk l=true):(encLine l).length≤50000:=by
 obtain ⟨_,⟨_,_,h1⟩,h2⟩:=lineOk_iff.1 h
 have l1:=enc_len l.1.toNat
 have l2:=enc_len l.2.1.length
 have l3:=encPts_len (0,0) l.2.1
 have l4:=(tags_len h2).2
 simp only [encLine,List.length_append]
 omega
abbrev dR:Line:=((0:Int),(([]:(List (Int × Int))),([]:(List (ByteArray × ByteArray)))))
def tailB (d:Tile) (i j:Nat) (a:Pt):List Int:=encPts a ((d.2.getD i dR).2.1.drop j) ++ encTags (d.2.getD i dR).2.2
section
variable (k:Nat) (hk:1048576 < k) (d:Tile) (i:Nat) (hi:i < 1048577) (hz:LSz (d.2.getD i dR)) (hT:tagsOk (d.2.getD i dR).2.2=true) (hR:(d.2.getD i dR).2.1.length≤2000)
include hk hi hz hT hR
theorem s1391 (q:(List Int × Int)→Option (List Int)):∀ (m j:Nat) (a:Pt) (b:List Int),j ≤ (d.2.getD i dR).2.1.length → (d.2.getD i dR).2.1.length - j < m → ((0≤a.1∧a.1≤4096)∧0≤a.2∧a.2≤4096)→rowOk (d.2.getD i dR).2.1 j=true→b.length + ((d.2.getD i dR).2.1.length - j)*20≤200000000000→f16.l1391 k d (i:Int) q m (b,a,(j:Int))=q (b ++ tailB d i j a,((i+1:Nat):Int))
 | 0,j,a,b,_,h,_,_,_ => by omega
 | m+1,j,a,b,hj,h,ha,hr,hb => by
   have ht:=(tags_len hT).1
   rw [f16.l1391]
   simp only [Int.toNat_natCast]
   have ed:d.2.getD i ((0:Int),(([]:(List (Int × Int))),([]:(List (ByteArray × ByteArray)))))=d.2.getD i dR:=rfl
   have ep:∀ x:List (Int × Int),x.getD j ((0:Int),(0:Int))=x.getD j dPt:=fun _ => rfl
   simp only [ed,ep]
   by_cases hlt:j < (d.2.getD i dR).2.1.length
   ·have hbd:(0:Int) ≤ (j:Int) ∧ (j:Int) < ((d.2.getD i dR).2.1.length:Int):=⟨by omega,by omega⟩
    have hc:decide ((j:Int) < ((d.2.getD i dR).2.1.length:Int))=true:=by simpa using hlt
    rw [rowOk_step hlt,Bool.and_eq_true] at hr
    have hp:=ptOk_iff.1 hr.1
    have hs:∃ n,(d.2.getD i dR).2.1.length - j=n+1 ∧ (d.2.getD i dR).2.1.length - (j+1)=n:=⟨_,by omega,rfl⟩
    obtain ⟨n,hn1,hn2⟩:=hs
    rw [hn1,Nat.add_mul] at hb
    have l1:=enc_len (sgn (((d.2.getD i dR).2.1.getD j dPt).1 - a.1))
    have l2:=enc_len (sgn (((d.2.getD i dR).2.1.getD j dPt).2 - a.2))
    have a1:=e45 k hk b (by omega) (((d.2.getD i dR).2.1.getD j dPt).1 - a.1) (by omega) (by omega)
    have a2:=e45 k hk (b ++ enc (sgn (((d.2.getD i dR).2.1.getD j dPt).1 - a.1))) (by simp only [List.length_append]; omega) (((d.2.getD i dR).2.1.getD j dPt).2 - a.2) (by omega) (by omega)
    rw [if_t hc,if_t hbd,wr_sub hp.1 ha.1,a1,Option.bind_some,if_t hbd,wr_sub hp.2 ha.2,a2,Option.bind_some,if_t hbd,wrap_s (by omega)]
    rw [s1391 q m (j+1) _ _ (by omega) (by omega) hp hr.2 (by simp only [List.length_append]; rw [hn2]; omega)]
    have e:tailB d i j a=enc (sgn (((d.2.getD i dR).2.1.getD j dPt).1 - a.1)) ++ (enc (sgn (((d.2.getD i dR).2.1.getD j dPt).2 - a.2)) ++ tailB d i (j+1) ((d.2.getD i dR).2.1.getD j dPt)):=by
     unfold tailB
     conv => lhs; rw [getD_drop' (d:=dPt) hlt]
     simp [encPts]
    rw [e,List.append_assoc,List.append_assoc]
   ·have hc:¬ decide ((j:Int) < ((d.2.getD i dR).2.1.length:Int))=true:=by simpa using hlt
    have a1:=(tags_two k hk (d.2.getD i dR).2.2 hz.2.2 ht b (by omega)).1
    rw [if_f hc,a1,Option.bind_some,wrap_s (by omega)]
    have e:tailB d i j a=encTags (d.2.getD i dR).2.2:=by
     unfold tailB
     rw [List.drop_eq_nil_of_le (by omega)]; rfl
    rw [e]
theorem i1414 (q:((List Int × Unit) × Int)→Option (List Int)):∀ (m j:Nat) (a:Pt) (b:List Int),j ≤ (d.2.getD i dR).2.1.length → (d.2.getD i dR).2.1.length - j < m → ((0≤a.1∧a.1≤4096)∧0≤a.2∧a.2≤4096)→b.length + ((d.2.getD i dR).2.1.length - j)*20≤200000000000→f18.l1414 k d (i:Int) q m ((b,()),a,(j:Int))=if rowOk (d.2.getD i dR).2.1 j=true then q ((b ++ tailB d i j a,()),((i+1:Nat):Int)) else some []
 | 0,j,a,b,_,h,_,_ => by omega
 | m+1,j,a,b,hj,h,ha,hb => by
   have ht:=(tags_len hT).1
   rw [f18.l1414]
   simp only [Int.toNat_natCast]
   have ed:d.2.getD i ((0:Int),(([]:(List (Int × Int))),([]:(List (ByteArray × ByteArray)))))=d.2.getD i dR:=rfl
   have ep:∀ x:List (Int × Int),x.getD j ((0:Int),(0:Int))=x.getD j dPt:=fun _ => rfl
   simp only [ed,ep]
   by_cases hlt:j < (d.2.getD i dR).2.1.length
   ·have hbd:(0:Int) ≤ (j:Int) ∧ (j:Int) < ((d.2.getD i dR).2.1.length:Int):=⟨by omega,by omega⟩
    have hc:decide ((j:Int) < ((d.2.getD i dR).2.1.length:Int))=true:=by simpa using hlt
    have hs:∃ n,(d.2.getD i dR).2.1.length - j=n+1 ∧ (d.2.getD i dR).2.1.length - (j+1)=n:=⟨_,by omega,rfl⟩
    obtain ⟨n,hn1,hn2⟩:=hs
    rw [hn1,Nat.add_mul] at hb
    have l1:=enc_len (sgn (((d.2.getD i dR).2.1.getD j dPt).1 - a.1))
    have l2:=enc_len (sgn (((d.2.getD i dR).2.1.getD j dPt).2 - a.2))
    have eP:ptOk ((d.2.getD i dR).2.1.getD j dPt)=!(bif (bif (bif (decide (((d.2.getD i dR).2.1.getD j dPt).1 < 0)) then true else (decide (((d.2.getD i dR).2.1.getD j dPt).1 > 4096))) then true else (decide (((d.2.getD i dR).2.1.getD j dPt).2 < 0))) then true else (decide (((d.2.getD i dR).2.1.getD j dPt).2 > 4096))):=rfl
    rw [if_t hc,if_t hbd,Option.bind_some,rowOk_step hlt]
    cases hpt:ptOk ((d.2.getD i dR).2.1.getD j dPt) with
    | false =>
      rw [if_t (nt eP hpt),if_f (by simp)]
    | true =>
      have hp:=ptOk_iff.1 hpt
      have a1:=e53 k hk b (by omega) (((d.2.getD i dR).2.1.getD j dPt).1 - a.1) (by omega) (by omega)
      have a2:=e53 k hk (b ++ enc (sgn (((d.2.getD i dR).2.1.getD j dPt).1 - a.1))) (by simp only [List.length_append]; omega) (((d.2.getD i dR).2.1.getD j dPt).2 - a.2) (by omega) (by omega)
      rw [if_f (nf eP hpt),wr_sub hp.1 ha.1,a1,Option.bind_some,wr_sub hp.2 ha.2,a2,Option.bind_some,wrap_s (by omega)]
      rw [i1414 q m (j+1) _ _ (by omega) (by omega) hp (by simp only [List.length_append]; rw [hn2]; omega)]
      have e:tailB d i j a=enc (sgn (((d.2.getD i dR).2.1.getD j dPt).1 - a.1)) ++ (enc (sgn (((d.2.getD i dR).2.1.getD j dPt).2 - a.2)) ++ tailB d i (j+1) ((d.2.getD i dR).2.1.getD j dPt)):=by
       unfold tailB
       conv => lhs; rw [getD_drop' (d:=dPt) hlt]
       simp [encPts]
      rw [e,List.append_assoc,List.append_assoc,Bool.true_and]
   ·have hc:¬ decide ((j:Int) < ((d.2.getD i dR).2.1.length:Int))=true:=by simpa using hlt
    have a1:=(tags_two k hk (d.2.getD i dR).2.2 hz.2.2 ht b (by omega)).2
    have hr:rowOk (d.2.getD i dR).2.1 j=true:=by unfold rowOk; rw [List.drop_eq_nil_of_le (by omega)]; rfl
    rw [if_f hc,a1,Option.bind_some,wrap_s (by omega),if_t hr]
    have e:tailB d i j a=encTags (d.2.getD i dR).2.2:=by
     unfold tailB
     rw [List.drop_eq_nil_of_le (by omega)]; rfl
    rw [e]
end
def encLines:List Line→List Int
 | [] => []
 | l :: ls => encLine l ++ encLines ls
def resL (ls:List Line) (b:List Int):List Int:=if ls.all lineOk=true then b ++ encLines ls else []
theorem resL_nil (b:List Int):resL [] b=b:=by simp [resL,encLines]
theorem resL_bad {l:Line} {ls:List Line} (b:List Int) (h:lineOk l=false):resL (l :: ls) b=[]:=by
 unfold resL; rw [if_neg (by simp [h])]
theorem resL_ok {l:Line} {ls:List Line} (b:List Int) (h:lineOk l=true):resL (l :: ls) b=resL ls (b ++ encLine l):=by
 unfold resL
 rw [List.all_cons,h,Bool.true_and,encLines,List.append_assoc]
section
variable (k:Nat) (hk:1048576 < k) (d:Tile) (hl:d.2.length≤1048576) (hz:∀ l ∈ d.2,LSz l)
include hk hl hz
theorem lines_s:∀ (m i:Nat) (b:List Int),i≤d.2.length→d.2.length - i < m→b.length + (d.2.length - i)*50000≤100000000000 →
 f16.l729 k d m (b,(i:Int))=some (resL (d.2.drop i) b)∧f18.l741 k d m ((b,()),(i:Int))=some (resL (d.2.drop i) b)
 | 0,i,b,_,h,_ => by omega
 | m+1,i,b,hi,h,hb => by
   rw [f16.l729,f18.l741]
   simp only [Int.toNat_natCast]
   have ed:d.2.getD i ((0:Int),(([]:(List (Int × Int))),([]:(List (ByteArray × ByteArray)))))=d.2.getD i dR:=rfl
   simp only [ed]
   by_cases hlt:i < d.2.length
   ·have hbd:(0:Int) ≤ (i:Int) ∧ (i:Int) < (d.2.length:Int):=⟨by omega,by omega⟩
    have hc:decide ((i:Int) < (d.2.length:Int))=true:=by simpa using hlt
    have z:=hz (d.2.getD i dR) (in_getD hlt)
    obtain ⟨n,hn1,hn2⟩:∃ n,d.2.length - i=n+1∧d.2.length - (i+1)=n:=⟨_,by omega,rfl⟩
    rw [hn1,Nat.add_mul] at hb
    rw [if_t hc,if_t hc,if_t hbd,if_t hbd,e44 k hk _ z,Option.bind_some,getD_drop' (d:=dR) hlt]
    have l1:=enc_len (d.2.getD i dR).1.toNat
    have l2:=enc_len (d.2.getD i dR).2.1.length
    have hid:f51 k (d.2.getD i dR).1=some (decide (1 ≤ (d.2.getD i dR).1) && decide ((d.2.getD i dR).1≤1000000000)):=by unfold f51; rw [idq]
    rw [hid,Option.bind_some]
    have hlen:decide (((d.2.getD i dR).2.1.length:Int) > 2000)=!decide ((d.2.getD i dR).2.1.length≤2000):=by
     rw [← decide_not]; exact decide_eq_decide.2 (by omega)
    rw [hlen]
    by_cases hA:(1 ≤ (d.2.getD i dR).1 ∧ (d.2.getD i dR).1≤1000000000) ∧ (d.2.getD i dR).2.1.length≤2000
    ·obtain ⟨⟨p1,p2⟩,p3⟩:=hA
     have t1:=decide_eq_true p1
     have t2:=decide_eq_true p2
     have t3:=decide_eq_true p3
     rw [t1,t2,t3]
     have cf:(bif !(true && true) then true else !true)=false:=rfl
     rw [if_t cf,cf,e52 k hk _ z.2.2,Option.bind_some]
     cases hT:tagsOk (d.2.getD i dR).2.2 with
     | false =>
       have hbad:lineOk (d.2.getD i dR)=false:=by unfold lineOk; rw [hT]; simp
       rw [hbad,resL_bad b hbad,if_t (by rfl),if_t (by rfl)]
       exact ⟨rfl,rfl⟩
     | true =>
       obtain ⟨nn,hnn⟩:∃ nn:Nat,(d.2.getD i dR).1 = (nn:Int):=⟨(d.2.getD i dR).1.toNat,by omega⟩
       rw [hnn] at p2
       have enn:(d.2.getD i dR).1.toNat=nn:=by rw [hnn]; rfl
       rw [enn] at l1
       have a1:=e43 k hk b (by omega) nn (by omega)
       have a2:=e50 k hk b (by omega) nn (by omega)
       have a3:=e43 k hk (b ++ enc nn) (by simp only [List.length_append]; omega) (d.2.getD i dR).2.1.length (by omega)
       have a4:=e50 k hk (b ++ enc nn) (by simp only [List.length_append]; omega) (d.2.getD i dR).2.1.length (by omega)
       have ee:((b ++ enc nn) ++ enc (d.2.getD i dR).2.1.length) ++ tailB d i 0 (0,0)=b ++ encLine (d.2.getD i dR):=by
        unfold tailB encLine
        rw [enn,List.drop_zero,List.append_assoc,List.append_assoc]
       have j1:=i1414 k hk d i (by omega) z hT p3 (f18.l741 k d m) k 0 (0,0) ((b ++ enc nn) ++ enc (d.2.getD i dR).2.1.length) (by omega) (by omega) (by decide) (by simp only [List.length_append]; omega)
       rw [ee] at j1
       have cf2:¬ (bif false then true else !true)=true:=by decide
       rw [if_f cf2,hnn,a1,a2,Option.bind_some,Option.bind_some,a3,a4,Option.bind_some,Option.bind_some]
       have j1':=j1
       rw [show ((0:Nat):Int)=0 from rfl] at j1'
       rw [j1']
       cases hR:rowOk (d.2.getD i dR).2.1 0 with
       | false =>
         have hbad:lineOk (d.2.getD i dR)=false:=by unfold lineOk; rw [hR]; rfl
         rw [hbad,resL_bad b hbad,if_t (by rfl),if_f (by simp)]
         exact ⟨rfl,rfl⟩
       | true =>
         have hok:lineOk (d.2.getD i dR)=true:=lineOk_iff.2 ⟨hR,⟨p1,by omega,p3⟩,hT⟩
         have hll:=line_len hok
         have i1:=s1391 k hk d i (by omega) z hT p3 (f16.l729 k d m) k 0 (0,0) ((b ++ enc nn) ++ enc (d.2.getD i dR).2.1.length) (by omega) (by omega) (by decide) hR (by simp only [List.length_append]; omega)
         rw [ee,show ((0:Nat):Int)=0 from rfl] at i1
         obtain ⟨g1,g2⟩:=lines_s m (i+1) (b ++ encLine (d.2.getD i dR)) (by omega) (by omega) (by simp only [List.length_append]; rw [hn2]; omega)
         rw [hok,resL_ok b hok,if_f (by simp),if_t rfl]
         exact ⟨i1.trans g1,g2⟩
    ·have hbad:lineOk (d.2.getD i dR)=false:=by
      cases hq:lineOk (d.2.getD i dR) with
      | false => rfl
      | true => exact absurd (let q:=(lineOk_iff.1 hq).2.1; ⟨⟨q.1,q.2.1⟩,q.2.2⟩) hA
     have cf:(bif !(decide (1 ≤ (d.2.getD i dR).1) && decide ((d.2.getD i dR).1≤1000000000)) then true else !decide ((d.2.getD i dR).2.1.length≤2000))=true:=cfl hA
     rw [cf,hbad,resL_bad b hbad,if_t (by rfl),if_f (by simp),Option.bind_some,if_t (by rfl)]
     exact ⟨rfl,rfl⟩
   ·have hc:¬ decide ((i:Int) < (d.2.length:Int))=true:=by simpa using hlt
    rw [if_f hc,if_f hc,List.drop_eq_nil_of_le (by omega),resL_nil]
    exact ⟨rfl,rfl⟩
end
end Go.Proofs.Ytgfekidehbancaa
end
section
set_option linter.unusedVariables false
set_option linter.unusedSimpArgs false
namespace Go.Proofs.Ytgfekidehbancaa
open Go Go.Vm Go.Proofs V
theorem e42 (k:Nat) (x:Int × (Int × Int)):f42 k x=f49 k x:=by
 unfold f42 f49
 by_cases h:(bif (decide ((x.1:Int) < (0:Int))) then true else (decide ((x.1:Int) > (10:Int))))=true
 ·rw [if_t h,if_t h]
 ·have h0:0≤x.1∧x.1≤10:=by
   by_cases p1:x.1 < 0 <;> by_cases p2:x.1 > 10 <;> simp [p1,p2] at h ⊢ <;> omega
  rw [if_f h,if_f h,u64_in h0.1 (by omega)]
theorem e49 (k:Nat) (x:Int × (Int × Int)):∃ ok:Bool,f49 k x=some ok ∧ (ok=true → (0≤x.1∧x.1≤10)∧0≤x.2.1∧0≤x.2.2):=by
 unfold f49
 by_cases h:(bif (decide ((x.1:Int) < (0:Int))) then true else (decide ((x.1:Int) > (10:Int))))=true
 ·rw [if_t h]; exact ⟨false,rfl,fun h => absurd h (by decide)⟩
 ·have h0:0≤x.1∧x.1≤10:=by
   by_cases p1:x.1 < 0 <;> by_cases p2:x.1 > 10 <;> simp [p1,p2] at h ⊢ <;> omega
  rw [if_f h,if_t h0.1]
  refine ⟨_,rfl,fun hq => ⟨h0,?_⟩⟩
  generalize decide (x.2.1 < IntKind.i64.wrap (1*2 ^ min x.1.toNat IntKind.i64.bits))=A at hq
  generalize decide (x.2.2 < IntKind.i64.wrap (1*2 ^ min x.1.toNat IntKind.i64.bits))=B at hq
  by_cases p1:x.2.1 ≥ 0 <;> by_cases p2:x.2.2 ≥ 0
  ·exact ⟨p1,p2⟩
  ·simp [p2] at hq
  ·simp [p1] at hq
  ·simp [p1] at hq
theorem resL_len (ls:List Line):∀ (b:List Int),(resL ls b).length≤b.length+50000*ls.length:=by
 induction ls with
 | nil => intro b; rw [resL_nil]; simp
 | cons l ls ih =>
   intro b
   cases h:lineOk l with
   | false => rw [resL_bad b h]; simp
   | true =>
     rw [resL_ok b h]
     have:=ih (b ++ encLine l)
     have:=line_len h
     simp only [List.length_append,List.length_cons] at *
     omega
theorem whole (k:Nat) (hk:1048576 < k) (d:Tile) (hl:d.2.length≤1048576) (hz:∀ l ∈ d.2,LSz l) (hx:d.1.2.1≤9223372036854775807) (hy:d.1.2.2≤9223372036854775807) :
 ∃ r:List Int,f16 k d=some r∧f18 k d=some r∧r.length≤1099511627775:=by
 unfold f16 f18
 rw [e42]
 obtain ⟨ok,h1,h2⟩:=e49 k d.1
 rw [h1,Option.bind_some,Option.bind_some]
 by_cases hc:(bif (!ok) then true else (decide (((List.length d.2:Int):Int) > (2000:Int))))=true
 ·rw [if_t hc,if_t hc]; exact ⟨[],rfl,rfl,by simp⟩
 ·rw [if_f hc,if_f hc]
  cases ok with
  | false => exact absurd rfl hc
  | true =>
    have hlen:d.2.length≤2000:=by
     have:¬ decide (((List.length d.2:Int):Int) > (2000:Int))=true:=hc
     simp at this
     omega
    obtain ⟨⟨z0,z1⟩,x0,y0⟩:=h2 rfl
    obtain ⟨z,hzz⟩:∃ n:Nat,d.1.1 = (n:Int):=⟨d.1.1.toNat,by omega⟩
    obtain ⟨x,hxx⟩:∃ n:Nat,d.1.2.1 = (n:Int):=⟨d.1.2.1.toNat,by omega⟩
    obtain ⟨y,hyy⟩:∃ n:Nat,d.1.2.2 = (n:Int):=⟨d.1.2.2.toNat,by omega⟩
    have e1:=enc_len z
    have e2:=enc_len x
    have e3:=enc_len y
    have e4:=enc_len d.2.length
    have m0:([(87:Int),(77:Int),(84:Int),(49:Int)]:List Int).length=4:=rfl
    have a1:=e43 k hk [(87:Int),(77:Int),(84:Int),(49:Int)] (by decide) z (by omega)
    have a2:=e43 k hk ([(87:Int),(77:Int),(84:Int),(49:Int)] ++ enc z) (by simp only [List.length_append]; omega) x (by omega)
    have a3:=e43 k hk (([(87:Int),(77:Int),(84:Int),(49:Int)] ++ enc z) ++ enc x) (by simp only [List.length_append]; omega) y (by omega)
    have a4:=e43 k hk ((([(87:Int),(77:Int),(84:Int),(49:Int)] ++ enc z) ++ enc x) ++ enc y) (by simp only [List.length_append]; omega) d.2.length (by omega)
    have b1:=e50 k hk [(87:Int),(77:Int),(84:Int),(49:Int)] (by decide) z (by omega)
    have b2:=e50 k hk ([(87:Int),(77:Int),(84:Int),(49:Int)] ++ enc z) (by simp only [List.length_append]; omega) x (by omega)
    have b3:=e50 k hk (([(87:Int),(77:Int),(84:Int),(49:Int)] ++ enc z) ++ enc x) (by simp only [List.length_append]; omega) y (by omega)
    have b4:=e50 k hk ((([(87:Int),(77:Int),(84:Int),(49:Int)] ++ enc z) ++ enc x) ++ enc y) (by simp only [List.length_append]; omega) d.2.length (by omega)
    rw [if_t (by decide),if_t (by decide),hzz,hxx,hyy,a1,b1,Option.bind_some,Option.bind_some,a2,b2,Option.bind_some,Option.bind_some,a3,b3,Option.bind_some,Option.bind_some,a4,b4,Option.bind_some,Option.bind_some]
    obtain ⟨g1,g2⟩:=lines_s k hk d hl hz k 0 (((([(87:Int),(77:Int),(84:Int),(49:Int)] ++ enc z) ++ enc x) ++ enc y) ++ enc d.2.length) (by omega) (by omega) (by simp only [List.length_append]; omega)
    refine ⟨_,g1,g2,?_⟩
    have:=resL_len (d.2.drop 0) (((([(87:Int),(77:Int),(84:Int),(49:Int)] ++ enc z) ++ enc x) ++ enc y) ++ enc d.2.length)
    rw [List.drop_zero] at this ⊢
    simp only [List.length_append] at this
    omega
section
variable (k:Nat)
theorem eqB_go (x:List Int) (hx:x.length≤1099511627775):∀ (m i:Nat),i≤x.length→x.length - i < m→f19.l18 k x x m (i:Int)=some true
 | 0,i,_,h => by omega
 | m+1,i,hi,h => by
   rw [f19.l18]
   by_cases hlt:i < x.length
   ·have hb:(0:Int) ≤ (i:Int) ∧ (i:Int) < (x.length:Int):=⟨by omega,by omega⟩
    rw [if_t (by simpa using hlt),if_t hb,if_t hb,if_f (by simp),wrap_s (by omega)]
    exact eqB_go x hx m (i+1) (by omega) (by omega)
   ·rw [if_f (by simpa using hlt)]
theorem eqB (x:List Int) (hx:x.length≤1099511627775) (hk:x.length < k):f19 k x x=some true:=by
 unfold f19
 rw [if_f (by simp)]
 exact eqB_go k x hx k 0 (by omega) (by omega)
theorem heldB_go (y:List Int) (hx:y.length≤1099511627775):∀ (m i:Nat),i≤y.length→y.length - i < m → (∀ j,i≤j→j < y.length→y.getD j 0=IntKind.u8.wrap ((j+1:Nat):Int))→f23.l16 k y m (((i+1:Nat):Int),(i:Int))=some ((y.length+1:Nat):Int)
 | 0,i,_,h,_ => by omega
 | m+1,i,hi,h,hy => by
   rw [f23.l16]
   by_cases hlt:i < y.length
   ·have hb:(0:Int) ≤ (i:Int) ∧ (i:Int) < (y.length:Int):=⟨by omega,by omega⟩
    rw [if_t (by simpa using hlt),if_t hb,Int.toNat_natCast,hy i (by omega) hlt,if_f (by simp),wrap_s (by omega),wrap_s (by omega)]
    exact heldB_go y hx m (i+1) (by omega) (by omega) (fun j h1 h2 => hy j (by omega) h2)
   ·have:i=y.length:=by omega
    rw [if_f (by simpa using hlt),this]
theorem markB_go:∀ (m i:Nat) (y:List Int),y.length≤1099511627775→i≤y.length→y.length - i < m → (∀ j,j < i→y.getD j 0=IntKind.u8.wrap ((j+1:Nat):Int))→∃ y':List Int,f22.l20 k m (y,((i+1:Nat):Int),(i:Int))=some (((y.length+1:Nat):Int),y')∧y'.length=y.length∧∀ j,j < y'.length→y'.getD j 0=IntKind.u8.wrap ((j+1:Nat):Int)
 | 0,i,y,_,_,h,_ => by omega
 | m+1,i,y,hx,hi,h,hy => by
   rw [f22.l20]
   by_cases hlt:i < y.length
   ·have hb:(0:Int) ≤ (i:Int) ∧ (i:Int) < (y.length:Int):=⟨by omega,by omega⟩
    rw [if_t (by simpa using hlt),if_t hb,Int.toNat_natCast,wrap_s (by omega),wrap_s (by omega)]
    obtain ⟨y',q1,q2,q3⟩:=markB_go m (i+1) (y.set i (IntKind.u8.wrap ((i+1:Nat):Int))) (by simpa using hx) (by simp; omega) (by simp; omega) (fun j hj => by
     by_cases he:i=j
     ·subst he
      simp [hlt]
     ·have:=hy j (by omega)
      simp only [List.getD_eq_getElem?_getD] at this ⊢
      rw [List.getElem?_set_ne he]
      exact this)
    rw [List.length_set] at q1 q2
    exact ⟨y',q1,q2,q3⟩
   ·have:i=y.length:=by omega
    rw [if_f (by simpa using hlt),this]
    exact ⟨y,rfl,rfl,fun j hj => hy j (by omega)⟩
theorem markB (x:List Int) (hx:x.length≤1099511627775) (hk:x.length < k):∃ y:List Int,f22 k x 1=some (((x.length+1:Nat):Int),y)∧f23 k y 1=some ((x.length+1:Nat):Int):=by
 obtain ⟨y,q1,q2,q3⟩:=markB_go k k 0 x hx (by omega) (by omega) (fun j hj => by omega)
 refine ⟨y,q1,?_⟩
 have:=heldB_go k y (by omega) k 0 (by omega) (by omega) (fun j _ h => q3 j h)
 rw [q2] at this
 exact this
end
theorem law4 (x0:Tile) (w0:Sh.wf (.st (.pair (.st (.pair (.int .i64) (.pair (.int .i64) (.int .i64)))) (.sl false 126 (.st (.pair (.int .i64) (.pair (.sl false 137 (.st (.pair (.int .i64) (.int .i64)))) (.sl false 152 (.st (.pair .str .str))))))))) x0):∃ k,f4 k x0=some true:=by
 refine ⟨1099511627777,?_⟩
 have hk:1048576 < 1099511627777:=by decide
 unfold f4
 obtain ⟨r,q1,q2,q3⟩:=sz15 1099511627777 hk x0 w0 1048576 (by decide) (by decide)
 have q1':f15 1099511627777 x0 1048576=some r:=q1
 rw [q1',Option.bind_some]
 by_cases hr:r < 0
 ·rw [if_t (by simpa using hr)]
 rw [if_f (by simpa using hr)]
 have hb:=q3 (by omega)
 have hz:∀ l ∈ x0.2,LSz l:=fun l hl => ⟨(hb.2.2 l hl).2.1.1,(hb.2.2 l hl).2.2.1,(hb.2.2 l hl).2.2.2⟩
 have hwx:x0.1.2.1≤9223372036854775807:=w0.1.2.1.2
 have hwy:x0.1.2.2≤9223372036854775807:=w0.1.2.2.2
 obtain ⟨v,v1,v2,v3⟩:=whole _ hk x0 hb.2.1 hz hwx hwy
 obtain ⟨c,g',p1,_,p3,p4⟩:=mk21 1099511627777 hk x0 hb 1 (by decide) (by decide)
 have p1':f21 1099511627777 x0 1=some (c,g'):=p1
 obtain ⟨y,m1,m2⟩:=markB 1099511627777 v v3 (by omega)
 have e19:=eqB 1099511627777 v v3 (by omega)
 have c1:decide ((c:Int) < 0)=false:=by simp; omega
 have d1:decide (((v.length+1:Nat):Int) < 0)=false:=by simp; omega
 simp only [to17 _ hk x0 hb,v1,v2,eq20 _ hk x0 hb,p1',m1,m2,c1,d1,e19,Option.bind_some]
 simp
end Go.Proofs.Ytgfekidehbancaa
end
