/-
  THE PLUMBING OF A LAW'S FUNCTIONS, PRINTED BY A PROGRAM OF THIS PROJECT (wip/gen/plumb.py).
-/
import Derived.Test.YtnpaokckkbhdjaaR7k
import Derived.Test.YtnpaokckkbhdjaaLawB
import Derived.Test.YtnpaokckkbhdjaaLawC
import Derived.Test.YtnpaokckkbhdjaaVmU
set_option linter.unusedVariables false
set_option linter.unusedSimpArgs false
open Go Go.Vm Go.Proofs
namespace Go.Proofs.Ytnpaokckkbhdjaa.V
/- laws.szPointS -/
theorem sz201 (k:Nat) (hk:1048576 < k) (x:(List (Int × Int))) (hw:Sh.wf (.sl false 108 (.st (.pair (.int .i64) (.int .i64)))) x):Sz (fun v => f201 k x v) (Sh.bd (.sl false 108 (.st (.pair (.int .i64) (.int .i64)))) x) :=
 Sz.imp (Sz.len hw.1 (fun _ => Sz.done)) (fun h => ⟨h.1,fun y _ => ⟨trivial,trivial⟩⟩)
/- laws.szTag -/
theorem sz221 (k:Nat) (hk:1048576 < k) (x:(ByteArray × ByteArray)) (hw:Sh.wf (.st (.pair .str .str)) x):Sz (fun v => f221 k x v) (Sh.bd (.st (.pair .str .str)) x) :=
 Sz.imp (Sz.len hw.1 (fun _ => Sz.len hw.2 (fun _ => Sz.done))) (fun ⟨b0,b1,_⟩ => ⟨b0,b1⟩)
/- laws.szTagS -/
theorem sz202 (k:Nat) (hk:1048576 < k) (x:(List (ByteArray × ByteArray))) (hw:Sh.wf (.sl false 288 (.st (.pair .str .str))) x):Sz (fun v => f202 k x v) (Sh.bd (.sl false 288 (.st (.pair .str .str))) x) :=
 Sz.len hw.1 (fun h => Sz.loop hk (s:=fun y v => f221 k y v) (f202.l28 k x) (fun _ _ _ => rfl) h (fun y hy => sz221 k hk y (hw.2 y hy)))
/- laws.szLine -/
theorem sz162 (k:Nat) (hk:1048576 < k) (x:(Int × ((List (Int × Int)) × (List (ByteArray × ByteArray))))) (hw:Sh.wf (.st (.pair (.int .i64) (.pair (.sl false 108 (.st (.pair (.int .i64) (.int .i64)))) (.sl false 288 (.st (.pair .str .str)))))) x):Sz (fun v => f162 k x v) (Sh.bd (.st (.pair (.int .i64) (.pair (.sl false 108 (.st (.pair (.int .i64) (.int .i64)))) (.sl false 288 (.st (.pair .str .str)))))) x) :=
 Sz.imp (Sz.seq (sz201 k hk x.2.1 hw.2.1) (Sz.seq (sz202 k hk x.2.2 hw.2.2) (Sz.done))) (fun ⟨b1,b2,_⟩ => ⟨trivial,b1,b2⟩)
/- laws.szLineS -/
theorem sz105 (k:Nat) (hk:1048576 < k) (x:(List (Int × ((List (Int × Int)) × (List (ByteArray × ByteArray)))))) (hw:Sh.wf (.sl false 227 (.st (.pair (.int .i64) (.pair (.sl false 108 (.st (.pair (.int .i64) (.int .i64)))) (.sl false 288 (.st (.pair .str .str))))))) x):Sz (fun v => f105 k x v) (Sh.bd (.sl false 227 (.st (.pair (.int .i64) (.pair (.sl false 108 (.st (.pair (.int .i64) (.int .i64)))) (.sl false 288 (.st (.pair .str .str))))))) x) :=
 Sz.len hw.1 (fun h => Sz.loop hk (s:=fun y v => f162 k y v) (f105.l28 k x) (fun _ _ _ => rfl) h (fun y hy => sz162 k hk y (hw.2 y hy)))
/- laws.szTileData -/
theorem sz49 (k:Nat) (hk:1048576 < k) (x:((Int × (Int × Int)) × (List (Int × ((List (Int × Int)) × (List (ByteArray × ByteArray))))))) (hw:Sh.wf (.st (.pair (.st (.pair (.int .i64) (.pair (.int .i64) (.int .i64)))) (.sl false 227 (.st (.pair (.int .i64) (.pair (.sl false 108 (.st (.pair (.int .i64) (.int .i64)))) (.sl false 288 (.st (.pair .str .str))))))))) x):Sz (fun v => f49 k x v) (Sh.bd (.st (.pair (.st (.pair (.int .i64) (.pair (.int .i64) (.int .i64)))) (.sl false 227 (.st (.pair (.int .i64) (.pair (.sl false 108 (.st (.pair (.int .i64) (.int .i64)))) (.sl false 288 (.st (.pair .str .str))))))))) x) :=
 Sz.imp (Sz.seq (sz105 k hk x.2 hw.2) (Sz.done)) (fun ⟨b1,_⟩ => ⟨⟨trivial,trivial,trivial⟩,b1⟩)
/- laws.szTest -/
theorem sz203 (k:Nat) (hk:1048576 < k) (x:(ByteArray × (Int × ByteArray))) (hw:Sh.wf (.st (.pair .str (.pair (.int .i64) .str))) x):Sz (fun v => f203 k x v) (Sh.bd (.st (.pair .str (.pair (.int .i64) .str))) x) :=
 Sz.imp (Sz.len hw.1 (fun _ => Sz.len hw.2.2 (fun _ => Sz.done))) (fun ⟨b0,b2,_⟩ => ⟨b0,trivial,b2⟩)
/- laws.szTestS -/
theorem sz163 (k:Nat) (hk:1048576 < k) (x:(List (ByteArray × (Int × ByteArray)))) (hw:Sh.wf (.sl false 269 (.st (.pair .str (.pair (.int .i64) .str)))) x):Sz (fun v => f163 k x v) (Sh.bd (.sl false 269 (.st (.pair .str (.pair (.int .i64) .str)))) x) :=
 Sz.len hw.1 (fun h => Sz.loop hk (s:=fun y v => f203 k y v) (f163.l28 k x) (fun _ _ _ => rfl) h (fun y hy => sz203 k hk y (hw.2 y hy)))
/- laws.szRule -/
theorem sz106 (k:Nat) (hk:1048576 < k) (x:(Int × (Int × ((List (ByteArray × (Int × ByteArray))) × (Bool × (ByteArray × (Int × Int))))))) (hw:Sh.wf (.st (.pair (.int .i64) (.pair (.int .i64) (.pair (.sl false 269 (.st (.pair .str (.pair (.int .i64) .str)))) (.pair .bool (.pair .str (.pair (.int .i64) (.int .i64)))))))) x):Sz (fun v => f106 k x v) (Sh.bd (.st (.pair (.int .i64) (.pair (.int .i64) (.pair (.sl false 269 (.st (.pair .str (.pair (.int .i64) .str)))) (.pair .bool (.pair .str (.pair (.int .i64) (.int .i64)))))))) x) :=
 Sz.imp (Sz.seq (sz163 k hk x.2.2.1 hw.2.2.1) (Sz.len hw.2.2.2.2.1 (fun _ => Sz.done))) (fun ⟨b2,b4,_⟩ => ⟨trivial,trivial,b2,trivial,b4,trivial,trivial⟩)
/- laws.szRuleS -/
theorem sz50 (k:Nat) (hk:1048576 < k) (x:(List (Int × (Int × ((List (ByteArray × (Int × ByteArray))) × (Bool × (ByteArray × (Int × Int)))))))) (hw:Sh.wf (.sl false 147 (.st (.pair (.int .i64) (.pair (.int .i64) (.pair (.sl false 269 (.st (.pair .str (.pair (.int .i64) .str)))) (.pair .bool (.pair .str (.pair (.int .i64) (.int .i64))))))))) x):Sz (fun v => f50 k x v) (Sh.bd (.sl false 147 (.st (.pair (.int .i64) (.pair (.int .i64) (.pair (.sl false 269 (.st (.pair .str (.pair (.int .i64) .str)))) (.pair .bool (.pair .str (.pair (.int .i64) (.int .i64))))))))) x) :=
 Sz.len hw.1 (fun h => Sz.loop hk (s:=fun y v => f106 k y v) (f50.l28 k x) (fun _ _ _ => rfl) h (fun y hy => sz106 k hk y (hw.2 y hy)))
/- laws.toTile -/
theorem to108 (k:Nat) (hk:1048576 < k) (x:(Int × (Int × Int))) (h:Sh.bd (.st (.pair (.int .i64) (.pair (.int .i64) (.int .i64)))) x):f108 k x=some x:=by
 unfold f108
 all_goals rfl
/- laws.toPoint -/
theorem to137 (k:Nat) (hk:1048576 < k) (x:(Int × Int)) (h:Sh.bd (.st (.pair (.int .i64) (.int .i64))) x):f137 k x=some x:=by
 unfold f137
 all_goals rfl
/- laws.toPointS -/
theorem to205 (k:Nat) (hk:1048576 < k) (x:(List (Int × Int))) (h:Sh.bd (.sl false 108 (.st (.pair (.int .i64) (.int .i64)))) x):f205 k x=some x:=by
 unfold f205
 exact copyRow (g:=fun y => f137 k y) (z:=16) hk (f205.l34 k x) (fun _ _ _ => rfl) (by decide) h.1 (fun y hy => to137 k hk y (h.2 y hy))
/- laws.toTag -/
theorem to222 (k:Nat) (hk:1048576 < k) (x:(ByteArray × ByteArray)) (h:Sh.bd (.st (.pair .str .str)) x):f222 k x=some x:=by
 unfold f222
 all_goals rfl
/- laws.toTagS -/
theorem to206 (k:Nat) (hk:1048576 < k) (x:(List (ByteArray × ByteArray))) (h:Sh.bd (.sl false 288 (.st (.pair .str .str))) x):f206 k x=some x:=by
 unfold f206
 exact copyRow (g:=fun y => f222 k y) (z:=32) hk (f206.l34 k x) (fun _ _ _ => rfl) (by decide) h.1 (fun y hy => to222 k hk y (h.2 y hy))
/- laws.toLine -/
theorem to166 (k:Nat) (hk:1048576 < k) (x:(Int × ((List (Int × Int)) × (List (ByteArray × ByteArray))))) (h:Sh.bd (.st (.pair (.int .i64) (.pair (.sl false 108 (.st (.pair (.int .i64) (.int .i64)))) (.sl false 288 (.st (.pair .str .str)))))) x):f166 k x=some x:=by
 unfold f166
 simp only [to205 k hk x.2.1 h.2.1,to206 k hk x.2.2 h.2.2,Option.bind_some]
 all_goals rfl
/- laws.toLineS -/
theorem to109 (k:Nat) (hk:1048576 < k) (x:(List (Int × ((List (Int × Int)) × (List (ByteArray × ByteArray)))))) (h:Sh.bd (.sl false 227 (.st (.pair (.int .i64) (.pair (.sl false 108 (.st (.pair (.int .i64) (.int .i64)))) (.sl false 288 (.st (.pair .str .str))))))) x):f109 k x=some x:=by
 unfold f109
 exact copyRow (g:=fun y => f166 k y) (z:=56) hk (f109.l34 k x) (fun _ _ _ => rfl) (by decide) h.1 (fun y hy => to166 k hk y (h.2 y hy))
/- laws.toTileData -/
theorem to52 (k:Nat) (hk:1048576 < k) (x:((Int × (Int × Int)) × (List (Int × ((List (Int × Int)) × (List (ByteArray × ByteArray))))))) (h:Sh.bd (.st (.pair (.st (.pair (.int .i64) (.pair (.int .i64) (.int .i64)))) (.sl false 227 (.st (.pair (.int .i64) (.pair (.sl false 108 (.st (.pair (.int .i64) (.int .i64)))) (.sl false 288 (.st (.pair .str .str))))))))) x):f52 k x=some x:=by
 unfold f52
 simp only [to108 k hk x.1 h.1,to109 k hk x.2 h.2,Option.bind_some]
 all_goals rfl
/- laws.toTest -/
theorem to207 (k:Nat) (hk:1048576 < k) (x:(ByteArray × (Int × ByteArray))) (h:Sh.bd (.st (.pair .str (.pair (.int .i64) .str))) x):f207 k x=some x:=by
 unfold f207
 all_goals rfl
/- laws.toTestS -/
theorem to167 (k:Nat) (hk:1048576 < k) (x:(List (ByteArray × (Int × ByteArray)))) (h:Sh.bd (.sl false 269 (.st (.pair .str (.pair (.int .i64) .str)))) x):f167 k x=some x:=by
 unfold f167
 exact copyRow (g:=fun y => f207 k y) (z:=40) hk (f167.l34 k x) (fun _ _ _ => rfl) (by decide) h.1 (fun y hy => to207 k hk y (h.2 y hy))
/- laws.toRule -/
theorem to110 (k:Nat) (hk:1048576 < k) (x:(Int × (Int × ((List (ByteArray × (Int × ByteArray))) × (Bool × (ByteArray × (Int × Int))))))) (h:Sh.bd (.st (.pair (.int .i64) (.pair (.int .i64) (.pair (.sl false 269 (.st (.pair .str (.pair (.int .i64) .str)))) (.pair .bool (.pair .str (.pair (.int .i64) (.int .i64)))))))) x):f110 k x=some x:=by
 unfold f110
 simp only [to167 k hk x.2.2.1 h.2.2.1,Option.bind_some]
 all_goals rfl
/- laws.toRuleS -/
theorem to53 (k:Nat) (hk:1048576 < k) (x:(List (Int × (Int × ((List (ByteArray × (Int × ByteArray))) × (Bool × (ByteArray × (Int × Int)))))))) (h:Sh.bd (.sl false 147 (.st (.pair (.int .i64) (.pair (.int .i64) (.pair (.sl false 269 (.st (.pair .str (.pair (.int .i64) .str)))) (.pair .bool (.pair .str (.pair (.int .i64) (.int .i64))))))))) x):f53 k x=some x:=by
 unfold f53
 exact copyRow (g:=fun y => f110 k y) (z:=80) hk (f53.l34 k x) (fun _ _ _ => rfl) (by decide) h.1 (fun y hy => to110 k hk y (h.2 y hy))
/- laws.eqPoint -/
theorem eq143 (k:Nat) (hk:1048576 < k) (x:(Int × Int)) (h:Sh.bd (.st (.pair (.int .i64) (.int .i64))) x):f143 k x x=some true:=by
 unfold f143
 simp []
/- laws.eqPointS -/
theorem eq169 (k:Nat) (hk:1048576 < k) (x:(List (Int × Int))) (h:Sh.bd (.sl false 52 (.st (.pair (.int .i64) (.int .i64)))) x):f169 k x x=some true:=by
 unfold f169
 exact eqRow (e:=fun a b => f143 k a b) hk (f169.l30 k x x) (fun _ _ => rfl) h.1 (fun y hy => eq143 k hk y (h.2 y hy))
/- laws.eqStroke -/
theorem eq113 (k:Nat) (hk:1048576 < k) (x:(Int × ((List (Int × Int)) × (ByteArray × (Int × Int))))) (h:Sh.bd (.st (.pair (.int .i64) (.pair (.sl false 52 (.st (.pair (.int .i64) (.int .i64)))) (.pair .str (.pair (.int .i64) (.int .i64)))))) x):f113 k x x=some true:=by
 unfold f113
 simp [eq169 k hk x.2.1 h.2.1]
/- laws.eqStrokeS -/
theorem eq55 (k:Nat) (hk:1048576 < k) (x:(List (Int × ((List (Int × Int)) × (ByteArray × (Int × Int)))))) (h:Sh.bd (.sl false 158 (.st (.pair (.int .i64) (.pair (.sl false 52 (.st (.pair (.int .i64) (.int .i64)))) (.pair .str (.pair (.int .i64) (.int .i64))))))) x):f55 k x x=some true:=by
 unfold f55
 exact eqRow (e:=fun a b => f113 k a b) hk (f55.l30 k x x) (fun _ _ => rfl) h.1 (fun y hy => eq113 k hk y (h.2 y hy))
/- laws.eqTile -/
theorem eq114 (k:Nat) (hk:1048576 < k) (x:(Int × (Int × Int))) (h:Sh.bd (.st (.pair (.int .i64) (.pair (.int .i64) (.int .i64)))) x):f114 k x x=some true:=by
 unfold f114
 simp []
/- laws.eqTag -/
theorem eq223 (k:Nat) (hk:1048576 < k) (x:(ByteArray × ByteArray)) (h:Sh.bd (.st (.pair .str .str)) x):f223 k x x=some true:=by
 unfold f223
 simp []
/- laws.eqTagS -/
theorem eq210 (k:Nat) (hk:1048576 < k) (x:(List (ByteArray × ByteArray))) (h:Sh.bd (.sl false 272 (.st (.pair .str .str))) x):f210 k x x=some true:=by
 unfold f210
 exact eqRow (e:=fun a b => f223 k a b) hk (f210.l30 k x x) (fun _ _ => rfl) h.1 (fun y hy => eq223 k hk y (h.2 y hy))
/- laws.eqLine -/
theorem eq170 (k:Nat) (hk:1048576 < k) (x:(Int × ((List (Int × Int)) × (List (ByteArray × ByteArray))))) (h:Sh.bd (.st (.pair (.int .i64) (.pair (.sl false 52 (.st (.pair (.int .i64) (.int .i64)))) (.sl false 272 (.st (.pair .str .str)))))) x):f170 k x x=some true:=by
 unfold f170
 simp [eq169 k hk x.2.1 h.2.1,eq210 k hk x.2.2 h.2.2]
/- laws.eqLineS -/
theorem eq115 (k:Nat) (hk:1048576 < k) (x:(List (Int × ((List (Int × Int)) × (List (ByteArray × ByteArray)))))) (h:Sh.bd (.sl false 151 (.st (.pair (.int .i64) (.pair (.sl false 52 (.st (.pair (.int .i64) (.int .i64)))) (.sl false 272 (.st (.pair .str .str))))))) x):f115 k x x=some true:=by
 unfold f115
 exact eqRow (e:=fun a b => f170 k a b) hk (f115.l30 k x x) (fun _ _ => rfl) h.1 (fun y hy => eq170 k hk y (h.2 y hy))
/- laws.eqTileData -/
theorem eq56 (k:Nat) (hk:1048576 < k) (x:((Int × (Int × Int)) × (List (Int × ((List (Int × Int)) × (List (ByteArray × ByteArray))))))) (h:Sh.bd (.st (.pair (.st (.pair (.int .i64) (.pair (.int .i64) (.int .i64)))) (.sl false 151 (.st (.pair (.int .i64) (.pair (.sl false 52 (.st (.pair (.int .i64) (.int .i64)))) (.sl false 272 (.st (.pair .str .str))))))))) x):f56 k x x=some true:=by
 unfold f56
 simp [eq114 k hk x.1 h.1,eq115 k hk x.2 h.2]
/- laws.eqTest -/
theorem eq211 (k:Nat) (hk:1048576 < k) (x:(ByteArray × (Int × ByteArray))) (h:Sh.bd (.st (.pair .str (.pair (.int .i64) .str))) x):f211 k x x=some true:=by
 unfold f211
 simp []
/- laws.eqTestS -/
theorem eq171 (k:Nat) (hk:1048576 < k) (x:(List (ByteArray × (Int × ByteArray)))) (h:Sh.bd (.sl false 238 (.st (.pair .str (.pair (.int .i64) .str)))) x):f171 k x x=some true:=by
 unfold f171
 exact eqRow (e:=fun a b => f211 k a b) hk (f171.l30 k x x) (fun _ _ => rfl) h.1 (fun y hy => eq211 k hk y (h.2 y hy))
/- laws.eqRule -/
theorem eq116 (k:Nat) (hk:1048576 < k) (x:(Int × (Int × ((List (ByteArray × (Int × ByteArray))) × (Bool × (ByteArray × (Int × Int))))))) (h:Sh.bd (.st (.pair (.int .i64) (.pair (.int .i64) (.pair (.sl false 238 (.st (.pair .str (.pair (.int .i64) .str)))) (.pair .bool (.pair .str (.pair (.int .i64) (.int .i64)))))))) x):f116 k x x=some true:=by
 unfold f116
 simp [eq171 k hk x.2.2.1 h.2.2.1]
/- laws.eqRuleS -/
theorem eq57 (k:Nat) (hk:1048576 < k) (x:(List (Int × (Int × ((List (ByteArray × (Int × ByteArray))) × (Bool × (ByteArray × (Int × Int)))))))) (h:Sh.bd (.sl false 154 (.st (.pair (.int .i64) (.pair (.int .i64) (.pair (.sl false 238 (.st (.pair .str (.pair (.int .i64) .str)))) (.pair .bool (.pair .str (.pair (.int .i64) (.int .i64))))))))) x):f57 k x x=some true:=by
 unfold f57
 exact eqRow (e:=fun a b => f116 k a b) hk (f57.l30 k x x) (fun _ _ => rfl) h.1 (fun y hy => eq116 k hk y (h.2 y hy))
def EPointS (k:Nat) (v:Int) (b:(Int × Int)) (c:Int):Prop:=(b.1=v) ∧ (b.2=v+1)∧c=v+1+1
abbrev KPointS (k:Nat):Int → (List (Int × Int))→Int→Prop:=RowR ((0:Int),(0:Int)) (EPointS k)
/- laws.markPointS -/
theorem mk120 (k:Nat) (hk:1048576 < k) (x:(List (Int × Int))) (hx:Sh.bd (.sl false 52 (.st (.pair (.int .i64) (.int .i64)))) x):Mk (fun x v => f120 k x v) (KPointS k) 2097152 x:=by
 refine markRow (d:=((0:Int),(0:Int))) (w:=2) hx.1 (L:=f120.l26 k) (by decide) (fun a ha v h0 h1 => ?_) (fun m xs v => by rw [f120.l26,if_f (by simp)]) hk (by decide)
 have z0:IntKind.i64.wrap (v+1)=v+1:=wrap_in (by omega) (by omega)
 have z1:IntKind.i64.wrap (v+1+1)=v+1+1:=wrap_in (by omega) (by omega)
 refine ⟨v+1+1,(v,v+1),⟨rfl,rfl,rfl⟩,by omega,by omega,fun m i xs hi hl ha => ?_⟩
 have hc:decide ((i:Int) < (xs.length:Int))=true:=by simpa using hi
 have hb:(0:Int) ≤ (i:Int) ∧ (i:Int) < (xs.length:Int):=⟨by omega,by omega⟩
 have hxl:=hx.1
 have h3:((3:Int):Int)≠0:=by decide
 rw [f120.l26,if_t hc]
 simp only [if_t hb,if_t h3,List.length_set,Int.toNat_natCast,gd_set_eq,hi,List.set_set,Option.bind_some,ha,wrap_s (n:=i) (by omega),z0,z1]
/- laws.markText -/
theorem tx119_go (k:Nat):∀ (d m n:Nat) (s:ByteArray),n < 10 ^ d→d < m→n < 9223372036854775807→s.size+d≤1000→∃ t,f119.l19 k m ((n:Int),s)=some t
 | 0,m,n,s,h1,hm,h3,h2 => by
   obtain ⟨m,rfl⟩:∃ q,m=q+1:=⟨m - 1,by omega⟩
   obtain rfl:n=0:=by omega
   rw [f119.l19,if_f (by decide),if_t (by rw [show (⟨#[109]⟩:ByteArray).size=1 from rfl]; omega)]
   exact ⟨_,rfl⟩
 | d+1,m,n,s,h1,hm,h3,h2 => by
   obtain ⟨m,rfl⟩:∃ q,m=q+1:=⟨m - 1,by omega⟩
   rw [f119.l19]
   by_cases h0:(n:Int) > 0
   ·have e:Int.tdiv (n:Int) 10 = ((n / 10:Nat):Int):=by rw [Int.tdiv_eq_ediv_of_nonneg (by omega)]; omega
    have z:∀ n,(strOfNums [n]).size=1:=fun _ => rfl
    rw [if_t (by simpa using h0),if_t (by decide),if_t (by rw [z]; omega),if_t (by decide),e,wrap_in (by omega) (by omega)]
    exact tx119_go k d m (n / 10) _ (by rw [Nat.pow_succ] at h1; omega) (by omega) (by omega) (by rw [ByteArray.size_append,z]; omega)
   ·rw [if_f (by simpa using h0),if_t (by rw [show (⟨#[109]⟩:ByteArray).size=1 from rfl]; omega)]
    exact ⟨_,rfl⟩
theorem tx119 (k:Nat) (hk:1048576 < k) (x:Int) (h0:0≤x) (h1:x≤9223372036854775000):∃ t,f119 k x=some t:=by
 unfold f119
 by_cases h:x≤0
 ·rw [if_t (by simpa using h)]; exact ⟨_,rfl⟩
 ·rw [if_f (by simpa using h)]
  obtain ⟨n,rfl⟩:∃ n:Nat,x=n:=⟨x.toNat,by omega⟩
  exact tx119_go k 19 k n _ (by omega) (by omega) (by omega) (by decide)
def ETagS (k:Nat) (v:Int) (b:(ByteArray × ByteArray)) (c:Int):Prop:=(f119 k (v)=some b.1) ∧ (f119 k (v+1)=some b.2)∧c=v+1+1
abbrev KTagS (k:Nat):Int → (List (ByteArray × ByteArray))→Int→Prop:=RowR ((⟨#[]⟩:ByteArray),(⟨#[]⟩:ByteArray)) (ETagS k)
/- laws.markTagS -/
theorem mk172 (k:Nat) (hk:1048576 < k) (x:(List (ByteArray × ByteArray))) (hx:Sh.bd (.sl false 272 (.st (.pair .str .str))) x):Mk (fun x v => f172 k x v) (KTagS k) 2097152 x:=by
 refine markRow (d:=((⟨#[]⟩:ByteArray),(⟨#[]⟩:ByteArray))) (w:=2) hx.1 (L:=f172.l50 k) (by decide) (fun a ha v h0 h1 => ?_) (fun m xs v => by rw [f172.l50,if_f (by simp)]) hk (by decide)
 obtain ⟨t1,ht1⟩:=tx119 k hk (v) (by omega) (by omega)
 obtain ⟨t2,ht2⟩:=tx119 k hk (v+1) (by omega) (by omega)
 have z0:IntKind.i64.wrap (v+1)=v+1:=wrap_in (by omega) (by omega)
 have z1:IntKind.i64.wrap (v+1+1)=v+1+1:=wrap_in (by omega) (by omega)
 refine ⟨v+1+1,(t1,t2),⟨ht1,ht2,rfl⟩,by omega,by omega,fun m i xs hi hl ha => ?_⟩
 have hc:decide ((i:Int) < (xs.length:Int))=true:=by simpa using hi
 have hb:(0:Int) ≤ (i:Int) ∧ (i:Int) < (xs.length:Int):=⟨by omega,by omega⟩
 have hxl:=hx.1
 have h3:((3:Int):Int)≠0:=by decide
 rw [f172.l50,if_t hc]
 simp only [if_t hb,if_t h3,List.length_set,Int.toNat_natCast,gd_set_eq,hi,List.set_set,Option.bind_some,ha,wrap_s (n:=i) (by omega),z0,z1,ht1,ht2]
def ELineS (k:Nat) (v:Int) (b:(Int × ((List (Int × Int)) × (List (ByteArray × ByteArray))))) (c:Int):Prop:=∃ c1:Int,∃ c2:Int,(b.1=v) ∧ (KPointS k (v+1) b.2.1 c1∧v+1≤c1) ∧ (KTagS k (c1) b.2.2 c2∧c1≤c2)∧c=c2
abbrev KLineS (k:Nat):Int → (List (Int × ((List (Int × Int)) × (List (ByteArray × ByteArray)))))→Int→Prop:=RowR ((0:Int),(([]:(List (Int × Int))),([]:(List (ByteArray × ByteArray))))) (ELineS k)
/- laws.markLineS -/
theorem mk117 (k:Nat) (hk:1048576 < k) (x:(List (Int × ((List (Int × Int)) × (List (ByteArray × ByteArray)))))) (hx:Sh.bd (.sl false 151 (.st (.pair (.int .i64) (.pair (.sl false 52 (.st (.pair (.int .i64) (.int .i64)))) (.sl false 272 (.st (.pair .str .str))))))) x):Mk (fun x v => f117 k x v) (KLineS k) 4398047559680 x:=by
 refine markRow (d:=((0:Int),(([]:(List (Int × Int))),([]:(List (ByteArray × ByteArray)))))) (w:=4194305) hx.1 (L:=f117.l68 k) (by decide) (fun a ha v h0 h1 => ?_) (fun m xs v => by rw [f117.l68,if_f (by simp)]) hk (by decide)
 obtain ⟨c1,y1,q1,r1,l1,u1⟩:=mk120 k hk (a.2.1) (hx.2 a ha).2.1 (v+1) (by omega) (by omega)
 have p1:f120 k (a.2.1) (v+1)=some (c1,y1):=q1
 obtain ⟨c2,y2,q2,r2,l2,u2⟩:=mk172 k hk (a.2.2) (hx.2 a ha).2.2 (c1) (by omega) (by omega)
 have p2:f172 k (a.2.2) (c1)=some (c2,y2):=q2
 have z0:IntKind.i64.wrap (v+1)=v+1:=wrap_in (by omega) (by omega)
 refine ⟨c2,(v,y1,y2),⟨_,_,rfl,⟨r1,l1⟩,⟨r2,l2⟩,rfl⟩,by omega,by omega,fun m i xs hi hl ha => ?_⟩
 have hc:decide ((i:Int) < (xs.length:Int))=true:=by simpa using hi
 have hb:(0:Int) ≤ (i:Int) ∧ (i:Int) < (xs.length:Int):=⟨by omega,by omega⟩
 have hxl:=hx.1
 have h3:((3:Int):Int)≠0:=by decide
 rw [f117.l68,if_t hc]
 simp only [if_t hb,if_t h3,List.length_set,Int.toNat_natCast,gd_set_eq,hi,List.set_set,Option.bind_some,ha,wrap_s (n:=i) (by omega),z0,p1,p2]
def KTileData (k:Nat) (v:Int) (b:((Int × (Int × Int)) × (List (Int × ((List (Int × Int)) × (List (ByteArray × ByteArray))))))) (c:Int):Prop:=∃ c1:Int,(KLineS k v b.2 c1∧v≤c1)∧c=c1
/- laws.markTileData -/
theorem mk58 (k:Nat) (hk:1048576 < k) (x:((Int × (Int × Int)) × (List (Int × ((List (Int × Int)) × (List (ByteArray × ByteArray))))))) (hx:Sh.bd (.st (.pair (.st (.pair (.int .i64) (.pair (.int .i64) (.int .i64)))) (.sl false 151 (.st (.pair (.int .i64) (.pair (.sl false 52 (.st (.pair (.int .i64) (.int .i64)))) (.sl false 272 (.st (.pair .str .str))))))))) x):Mk (fun x v => f58 k x v) (KTileData k) 4398047559680 x:=by
 intro v h0 h1
 obtain ⟨c1,y1,q1,r1,l1,u1⟩:=mk117 k hk x.2 hx.2 v (by omega) (by omega)
 have p1:f117 k x.2 v=some (c1,y1):=q1
 refine ⟨c1,(x.1,y1),?_,⟨_,⟨r1,l1⟩,rfl⟩,by omega,by omega⟩
 show f58 k x v=_
 unfold f58
 simp only [p1,Option.bind_some]
def ETestS (k:Nat) (v:Int) (b:(ByteArray × (Int × ByteArray))) (c:Int):Prop:=(f119 k (v)=some b.1) ∧ (b.2.1=v+1) ∧ (f119 k (v+1+1)=some b.2.2)∧c=v+1+1+1
abbrev KTestS (k:Nat):Int → (List (ByteArray × (Int × ByteArray)))→Int→Prop:=RowR ((⟨#[]⟩:ByteArray),((0:Int),(⟨#[]⟩:ByteArray))) (ETestS k)
/- laws.markTestS -/
theorem mk118 (k:Nat) (hk:1048576 < k) (x:(List (ByteArray × (Int × ByteArray)))) (hx:Sh.bd (.sl false 238 (.st (.pair .str (.pair (.int .i64) .str)))) x):Mk (fun x v => f118 k x v) (KTestS k) 3145728 x:=by
 refine markRow (d:=((⟨#[]⟩:ByteArray),((0:Int),(⟨#[]⟩:ByteArray)))) (w:=3) hx.1 (L:=f118.l68 k) (by decide) (fun a ha v h0 h1 => ?_) (fun m xs v => by rw [f118.l68,if_f (by simp)]) hk (by decide)
 obtain ⟨t1,ht1⟩:=tx119 k hk (v) (by omega) (by omega)
 obtain ⟨t2,ht2⟩:=tx119 k hk (v+1+1) (by omega) (by omega)
 have z0:IntKind.i64.wrap (v+1)=v+1:=wrap_in (by omega) (by omega)
 have z1:IntKind.i64.wrap (v+1+1)=v+1+1:=wrap_in (by omega) (by omega)
 have z2:IntKind.i64.wrap (v+1+1+1)=v+1+1+1:=wrap_in (by omega) (by omega)
 refine ⟨v+1+1+1,(t1,v+1,t2),⟨ht1,rfl,ht2,rfl⟩,by omega,by omega,fun m i xs hi hl ha => ?_⟩
 have hc:decide ((i:Int) < (xs.length:Int))=true:=by simpa using hi
 have hb:(0:Int) ≤ (i:Int) ∧ (i:Int) < (xs.length:Int):=⟨by omega,by omega⟩
 have hxl:=hx.1
 have h3:((3:Int):Int)≠0:=by decide
 rw [f118.l68,if_t hc]
 simp only [if_t hb,if_t h3,List.length_set,Int.toNat_natCast,gd_set_eq,hi,List.set_set,Option.bind_some,ha,wrap_s (n:=i) (by omega),z0,z1,z2,ht1,ht2]
def ERuleS (k:Nat) (v:Int) (b:(Int × (Int × ((List (ByteArray × (Int × ByteArray))) × (Bool × (ByteArray × (Int × Int))))))) (c:Int):Prop:=∃ c1:Int,(b.1=v) ∧ (b.2.1=v+1) ∧ (KTestS k (v+1+1) b.2.2.1 c1∧v+1+1≤c1) ∧ (b.2.2.2.1 = ((Int.tmod (c1) (3:Int)) == (0:Int))) ∧ (f119 k (c1+1)=some b.2.2.2.2.1) ∧ (b.2.2.2.2.2.1=c1+1+1) ∧ (b.2.2.2.2.2.2=c1+1+1+1)∧c=c1+1+1+1+1
abbrev KRuleS (k:Nat):Int → (List (Int × (Int × ((List (ByteArray × (Int × ByteArray))) × (Bool × (ByteArray × (Int × Int)))))))→Int→Prop:=RowR ((0:Int),((0:Int),(([]:(List (ByteArray × (Int × ByteArray)))),(false,((⟨#[]⟩:ByteArray),((0:Int),(0:Int))))))) (ERuleS k)
/- laws.markRuleS -/
theorem mk59 (k:Nat) (hk:1048576 < k) (x:(List (Int × (Int × ((List (ByteArray × (Int × ByteArray))) × (Bool × (ByteArray × (Int × Int)))))))) (hx:Sh.bd (.sl false 154 (.st (.pair (.int .i64) (.pair (.int .i64) (.pair (.sl false 238 (.st (.pair .str (.pair (.int .i64) .str)))) (.pair .bool (.pair .str (.pair (.int .i64) (.int .i64))))))))) x):Mk (fun x v => f59 k x v) (KRuleS k) 3298541174784 x:=by
 refine markRow (d:=((0:Int),((0:Int),(([]:(List (ByteArray × (Int × ByteArray)))),(false,((⟨#[]⟩:ByteArray),((0:Int),(0:Int)))))))) (w:=3145734) hx.1 (L:=f59.l158 k) (by decide) (fun a ha v h0 h1 => ?_) (fun m xs v => by rw [f59.l158,if_f (by simp)]) hk (by decide)
 obtain ⟨c1,y1,q1,r1,l1,u1⟩:=mk118 k hk (a.2.2.1) (hx.2 a ha).2.2.1 (v+1+1) (by omega) (by omega)
 have p1:f118 k (a.2.2.1) (v+1+1)=some (c1,y1):=q1
 obtain ⟨t2,ht2⟩:=tx119 k hk (c1+1) (by omega) (by omega)
 have z0:IntKind.i64.wrap (v+1)=v+1:=wrap_in (by omega) (by omega)
 have z1:IntKind.i64.wrap (v+1+1)=v+1+1:=wrap_in (by omega) (by omega)
 have z2:IntKind.i64.wrap (c1+1)=c1+1:=wrap_in (by omega) (by omega)
 have z3:IntKind.i64.wrap (c1+1+1)=c1+1+1:=wrap_in (by omega) (by omega)
 have z4:IntKind.i64.wrap (c1+1+1+1)=c1+1+1+1:=wrap_in (by omega) (by omega)
 have z5:IntKind.i64.wrap (c1+1+1+1+1)=c1+1+1+1+1:=wrap_in (by omega) (by omega)
 refine ⟨c1+1+1+1+1,(v,v+1,y1,((Int.tmod (c1) (3:Int)) == (0:Int)),t2,c1+1+1,c1+1+1+1),⟨_,rfl,rfl,⟨r1,l1⟩,rfl,ht2,rfl,rfl,rfl⟩,by omega,by omega,fun m i xs hi hl ha => ?_⟩
 have hc:decide ((i:Int) < (xs.length:Int))=true:=by simpa using hi
 have hb:(0:Int) ≤ (i:Int) ∧ (i:Int) < (xs.length:Int):=⟨by omega,by omega⟩
 have hxl:=hx.1
 have h3:((3:Int):Int)≠0:=by decide
 rw [f59.l158,if_t hc]
 simp only [if_t hb,if_t h3,List.length_set,Int.toNat_natCast,gd_set_eq,hi,List.set_set,Option.bind_some,ha,wrap_s (n:=i) (by omega),z0,z1,z2,z3,z4,z5,ht2,p1]
def EStrokeS (k:Nat) (v:Int) (b:(Int × ((List (Int × Int)) × (ByteArray × (Int × Int))))) (c:Int):Prop:=∃ c1:Int,(b.1=v) ∧ (KPointS k (v+1) b.2.1 c1∧v+1≤c1) ∧ (f119 k (c1)=some b.2.2.1) ∧ (b.2.2.2.1=c1+1) ∧ (b.2.2.2.2=c1+1+1)∧c=c1+1+1+1
abbrev KStrokeS (k:Nat):Int → (List (Int × ((List (Int × Int)) × (ByteArray × (Int × Int)))))→Int→Prop:=RowR ((0:Int),(([]:(List (Int × Int))),((⟨#[]⟩:ByteArray),((0:Int),(0:Int))))) (EStrokeS k)
/- laws.markStrokeS -/
theorem mk60 (k:Nat) (hk:1048576 < k) (x:(List (Int × ((List (Int × Int)) × (ByteArray × (Int × Int)))))) (hx:Sh.bd (.sl false 158 (.st (.pair (.int .i64) (.pair (.sl false 52 (.st (.pair (.int .i64) (.int .i64)))) (.pair .str (.pair (.int .i64) (.int .i64))))))) x):Mk (fun x v => f60 k x v) (KStrokeS k) 2199027449856 x:=by
 refine markRow (d:=((0:Int),(([]:(List (Int × Int))),((⟨#[]⟩:ByteArray),((0:Int),(0:Int)))))) (w:=2097156) hx.1 (L:=f60.l104 k) (by decide) (fun a ha v h0 h1 => ?_) (fun m xs v => by rw [f60.l104,if_f (by simp)]) hk (by decide)
 obtain ⟨c1,y1,q1,r1,l1,u1⟩:=mk120 k hk (a.2.1) (hx.2 a ha).2.1 (v+1) (by omega) (by omega)
 have p1:f120 k (a.2.1) (v+1)=some (c1,y1):=q1
 obtain ⟨t2,ht2⟩:=tx119 k hk (c1) (by omega) (by omega)
 have z0:IntKind.i64.wrap (v+1)=v+1:=wrap_in (by omega) (by omega)
 have z1:IntKind.i64.wrap (c1+1)=c1+1:=wrap_in (by omega) (by omega)
 have z2:IntKind.i64.wrap (c1+1+1)=c1+1+1:=wrap_in (by omega) (by omega)
 have z3:IntKind.i64.wrap (c1+1+1+1)=c1+1+1+1:=wrap_in (by omega) (by omega)
 refine ⟨c1+1+1+1,(v,y1,t2,c1+1,c1+1+1),⟨_,rfl,⟨r1,l1⟩,ht2,rfl,rfl,rfl⟩,by omega,by omega,fun m i xs hi hl ha => ?_⟩
 have hc:decide ((i:Int) < (xs.length:Int))=true:=by simpa using hi
 have hb:(0:Int) ≤ (i:Int) ∧ (i:Int) < (xs.length:Int):=⟨by omega,by omega⟩
 have hxl:=hx.1
 have h3:((3:Int):Int)≠0:=by decide
 rw [f60.l104,if_t hc]
 simp only [if_t hb,if_t h3,List.length_set,Int.toNat_natCast,gd_set_eq,hi,List.set_set,Option.bind_some,ha,wrap_s (n:=i) (by omega),z0,z1,z2,z3,ht2,p1]
/- laws.heldPointS -/
theorem hd121 (k:Nat) (hk:1048576 < k):Hd (fun y v => f121 k y v) (KPointS k):=by
 refine heldRow (d:=((0:Int),(0:Int))) (L:=fun y => f121.l22 k y) (fun ys m i v c hi hl h0 h1 h2 hR => ?_) (fun ys m v => by rw [f121.l22,if_f (by simp)]) hk
 obtain ⟨e0,e1,ec⟩:=hR
 have z0:IntKind.i64.wrap (v+1)=v+1:=wrap_in (by omega) (by omega)
 have z1:IntKind.i64.wrap (v+1+1)=v+1+1:=wrap_in (by omega) (by omega)
 have hc:decide ((i:Int) < (ys.length:Int))=true:=by simpa using hi
 have hb:(0:Int) ≤ (i:Int) ∧ (i:Int) < (ys.length:Int):=⟨by omega,by omega⟩
 have h3:((3:Int):Int)≠0:=by decide
 subst ec
 rw [f121.l22,if_t hc]
 simp only [if_t hb,if_t h3,Int.toNat_natCast,Option.bind_some,z0,z1,e0,e1,wrap_s (n:=i) (by omega),bne_self_eq_false,beq_self_eq_true,Bool.not_true,Bool.false_eq_true,if_false]
/- laws.heldStrokeS -/
theorem hd61 (k:Nat) (hk:1048576 < k):Hd (fun y v => f61 k y v) (KStrokeS k):=by
 refine heldRow (d:=((0:Int),(([]:(List (Int × Int))),((⟨#[]⟩:ByteArray),((0:Int),(0:Int)))))) (L:=fun y => f61.l64 k y) (fun ys m i v c hi hl h0 h1 h2 hR => ?_) (fun ys m v => by rw [f61.l64,if_f (by simp)]) hk
 obtain ⟨c1,e0,k1,e2,e3,e4,ec⟩:=hR
 have o1:=k1.2
 have z0:IntKind.i64.wrap (v+1)=v+1:=wrap_in (by omega) (by omega)
 have z1:IntKind.i64.wrap (c1+1)=c1+1:=wrap_in (by omega) (by omega)
 have z2:IntKind.i64.wrap (c1+1+1)=c1+1+1:=wrap_in (by omega) (by omega)
 have z3:IntKind.i64.wrap (c1+1+1+1)=c1+1+1+1:=wrap_in (by omega) (by omega)
 have r1:f121 k (List.getD ys i ((0:Int),(([]:(List (Int × Int))),((⟨#[]⟩:ByteArray),((0:Int),(0:Int)))))).2.1 (v+1)=some c1:=hd121 k hk (v+1) _ c1 (by omega) (by omega) (by omega) k1.1
 have hh1:=k1.2
 have n1:¬ (decide ((c1:Int) < (0:Int))=true):=by simp; omega
 have hc:decide ((i:Int) < (ys.length:Int))=true:=by simpa using hi
 have hb:(0:Int) ≤ (i:Int) ∧ (i:Int) < (ys.length:Int):=⟨by omega,by omega⟩
 have h3:((3:Int):Int)≠0:=by decide
 subst ec
 rw [f61.l64,if_t hc]
 simp only [if_t hb,if_t h3,Int.toNat_natCast,Option.bind_some,z0,z1,z2,z3,e0,e2,e3,e4,r1,if_f n1,wrap_s (n:=i) (by omega),bne_self_eq_false,beq_self_eq_true,Bool.not_true,Bool.false_eq_true,if_false]
end Go.Proofs.Ytnpaokckkbhdjaa.V
