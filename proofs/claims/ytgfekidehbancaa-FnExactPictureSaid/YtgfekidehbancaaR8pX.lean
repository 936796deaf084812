/-
  Own texts of this project, joined. No condition.
-/
import Derived.Test.YtgfekidehbancaaR8p
import Derived.Test.YtgfekidehbancaaLawB
import Derived.Test.YtgfekidehbancaaLawC
import Derived.Test.YtgfekidehbancaaVmU
section
set_option linter.unusedVariables false
set_option linter.unusedSimpArgs false
open Go Go.Vm Go.Proofs
namespace Go.Proofs.Ytgfekidehbancaa.V
/- laws.szPointS -/
theorem sz67 (k:Nat) (hk:1048576 < k) (x:(List (Int × Int))) (hw:Sh.wf (.sl false 137 (.st (.pair (.int .i64) (.int .i64)))) x):Sz (fun v => f67 k x v) (Sh.bd (.sl false 137 (.st (.pair (.int .i64) (.int .i64)))) x) :=
 Sz.imp (Sz.len hw.1 (fun _ => Sz.done)) (fun h => ⟨h.1,fun y _ => ⟨trivial,trivial⟩⟩)
/- laws.szStroke -/
theorem sz28 (k:Nat) (hk:1048576 < k) (x:(Int × ((List (Int × Int)) × (ByteArray × (Int × Int))))) (hw:Sh.wf (.st (.pair (.int .i64) (.pair (.sl false 137 (.st (.pair (.int .i64) (.int .i64)))) (.pair .str (.pair (.int .i64) (.int .i64)))))) x):Sz (fun v => f28 k x v) (Sh.bd (.st (.pair (.int .i64) (.pair (.sl false 137 (.st (.pair (.int .i64) (.int .i64)))) (.pair .str (.pair (.int .i64) (.int .i64)))))) x) :=
 Sz.imp (Sz.seq (sz67 k hk x.2.1 hw.2.1) (Sz.len hw.2.2.1 (fun _ => Sz.done))) (fun ⟨b1,b2,_⟩ => ⟨trivial,b1,b2,trivial,trivial⟩)
/- laws.szStrokeS -/
theorem sz6 (k:Nat) (hk:1048576 < k) (x:(List (Int × ((List (Int × Int)) × (ByteArray × (Int × Int)))))) (hw:Sh.wf (.sl false 58 (.st (.pair (.int .i64) (.pair (.sl false 137 (.st (.pair (.int .i64) (.int .i64)))) (.pair .str (.pair (.int .i64) (.int .i64))))))) x):Sz (fun v => f6 k x v) (Sh.bd (.sl false 58 (.st (.pair (.int .i64) (.pair (.sl false 137 (.st (.pair (.int .i64) (.int .i64)))) (.pair .str (.pair (.int .i64) (.int .i64))))))) x) :=
 Sz.len hw.1 (fun h => Sz.loop hk (s:=fun y v => f28 k y v) (f6.l28 k x) (fun _ _ _ => rfl) h (fun y hy => sz28 k hk y (hw.2 y hy)))
/- laws.toPoint -/
theorem to89 (k:Nat) (hk:1048576 < k) (x:(Int × Int)) (h:Sh.bd (.st (.pair (.int .i64) (.int .i64))) x):f89 k x=some x:=by
 unfold f89
 all_goals rfl
/- laws.toPointS -/
theorem to68 (k:Nat) (hk:1048576 < k) (x:(List (Int × Int))) (h:Sh.bd (.sl false 137 (.st (.pair (.int .i64) (.int .i64)))) x):f68 k x=some x:=by
 unfold f68
 exact copyRow (g:=fun y => f89 k y) (z:=16) hk (f68.l34 k x) (fun _ _ _ => rfl) (by decide) h.1 (fun y hy => to89 k hk y (h.2 y hy))
/- laws.toStroke -/
theorem to33 (k:Nat) (hk:1048576 < k) (x:(Int × ((List (Int × Int)) × (ByteArray × (Int × Int))))) (h:Sh.bd (.st (.pair (.int .i64) (.pair (.sl false 137 (.st (.pair (.int .i64) (.int .i64)))) (.pair .str (.pair (.int .i64) (.int .i64)))))) x):f33 k x=some x:=by
 unfold f33
 simp only [to68 k hk x.2.1 h.2.1,Option.bind_some]
 all_goals rfl
/- laws.toStrokeS -/
theorem to8 (k:Nat) (hk:1048576 < k) (x:(List (Int × ((List (Int × Int)) × (ByteArray × (Int × Int)))))) (h:Sh.bd (.sl false 58 (.st (.pair (.int .i64) (.pair (.sl false 137 (.st (.pair (.int .i64) (.int .i64)))) (.pair .str (.pair (.int .i64) (.int .i64))))))) x):f8 k x=some x:=by
 unfold f8
 exact copyRow (g:=fun y => f33 k y) (z:=64) hk (f8.l34 k x) (fun _ _ _ => rfl) (by decide) h.1 (fun y hy => to33 k hk y (h.2 y hy))
/- laws.eqStringS -/
theorem eq10 (k:Nat) (hk:1048576 < k) (x:(List ByteArray)) (h:Sh.bd (.sl false 9 .str) x):f10 k x x=some true:=by
 unfold f10
 exact eqRow0 (ne:=fun a b => !(ByteArray.toList a == ByteArray.toList b)) hk (f10.l18 k x x) (fun _ _ => rfl) h.1 (fun y => by simp)
/- laws.eqPoint -/
theorem eq95 (k:Nat) (hk:1048576 < k) (x:(Int × Int)) (h:Sh.bd (.st (.pair (.int .i64) (.int .i64))) x):f95 k x x=some true:=by
 unfold f95
 simp []
/- laws.eqPointS -/
theorem eq75 (k:Nat) (hk:1048576 < k) (x:(List (Int × Int))) (h:Sh.bd (.sl false 66 (.st (.pair (.int .i64) (.int .i64)))) x):f75 k x x=some true:=by
 unfold f75
 exact eqRow (e:=fun a b => f95 k a b) hk (f75.l30 k x x) (fun _ _ => rfl) h.1 (fun y hy => eq95 k hk y (h.2 y hy))
/- laws.eqStroke -/
theorem eq38 (k:Nat) (hk:1048576 < k) (x:(Int × ((List (Int × Int)) × (ByteArray × (Int × Int))))) (h:Sh.bd (.st (.pair (.int .i64) (.pair (.sl false 66 (.st (.pair (.int .i64) (.int .i64)))) (.pair .str (.pair (.int .i64) (.int .i64)))))) x):f38 k x x=some true:=by
 unfold f38
 simp [eq75 k hk x.2.1 h.2.1]
/- laws.eqStrokeS -/
theorem eq11 (k:Nat) (hk:1048576 < k) (x:(List (Int × ((List (Int × Int)) × (ByteArray × (Int × Int)))))) (h:Sh.bd (.sl false 62 (.st (.pair (.int .i64) (.pair (.sl false 66 (.st (.pair (.int .i64) (.int .i64)))) (.pair .str (.pair (.int .i64) (.int .i64))))))) x):f11 k x x=some true:=by
 unfold f11
 exact eqRow (e:=fun a b => f38 k a b) hk (f11.l30 k x x) (fun _ _ => rfl) h.1 (fun y hy => eq38 k hk y (h.2 y hy))
def EPointS (k:Nat) (v:Int) (b:(Int × Int)) (c:Int):Prop:=(b.1=v) ∧ (b.2=v+1)∧c=v+1+1
abbrev KPointS (k:Nat):Int → (List (Int × Int))→Int→Prop:=RowR ((0:Int),(0:Int)) (EPointS k)
/- laws.markPointS -/
theorem mk39 (k:Nat) (hk:1048576 < k) (x:(List (Int × Int))) (hx:Sh.bd (.sl false 66 (.st (.pair (.int .i64) (.int .i64)))) x):Mk (fun x v => f39 k x v) (KPointS k) 2097152 x:=by
 refine markRow (d:=((0:Int),(0:Int))) (w:=2) hx.1 (L:=f39.l26 k) (by decide) (fun a ha v h0 h1 => ?_) (fun m xs v => by rw [f39.l26,if_f (by simp)]) hk (by decide)
 have z0:IntKind.i64.wrap (v+1)=v+1:=wrap_in (by omega) (by omega)
 have z1:IntKind.i64.wrap (v+1+1)=v+1+1:=wrap_in (by omega) (by omega)
 refine ⟨v+1+1,(v,v+1),⟨rfl,rfl,rfl⟩,by omega,by omega,fun m i xs hi hl ha => ?_⟩
 have hc:decide ((i:Int) < (xs.length:Int))=true:=by simpa using hi
 have hb:(0:Int) ≤ (i:Int) ∧ (i:Int) < (xs.length:Int):=⟨by omega,by omega⟩
 have hxl:=hx.1
 have h3:((3:Int):Int)≠0:=by decide
 rw [f39.l26,if_t hc]
 simp only [if_t hb,if_t h3,List.length_set,Int.toNat_natCast,gd_set_eq,hi,List.set_set,Option.bind_some,ha,wrap_s (n:=i) (by omega),z0,z1]
/- laws.markText -/
theorem tx40_go (k:Nat):∀ (d m n:Nat) (s:ByteArray),n < 10 ^ d→d < m→n < 9223372036854775807→s.size+d≤1000→∃ t,f40.l19 k m ((n:Int),s)=some t
 | 0,m,n,s,h1,hm,h3,h2 => by
   obtain ⟨m,rfl⟩:∃ q,m=q+1:=⟨m - 1,by omega⟩
   obtain rfl:n=0:=by omega
   rw [f40.l19,if_f (by decide),if_t (by rw [show (⟨#[109]⟩:ByteArray).size=1 from rfl]; omega)]
   exact ⟨_,rfl⟩
 | d+1,m,n,s,h1,hm,h3,h2 => by
   obtain ⟨m,rfl⟩:∃ q,m=q+1:=⟨m - 1,by omega⟩
   rw [f40.l19]
   by_cases h0:(n:Int) > 0
   ·have e:Int.tdiv (n:Int) 10 = ((n / 10:Nat):Int):=by rw [Int.tdiv_eq_ediv_of_nonneg (by omega)]; omega
    have z:∀ n,(strOfNums [n]).size=1:=fun _ => rfl
    rw [if_t (by simpa using h0),if_t (by decide),if_t (by rw [z]; omega),if_t (by decide),e,wrap_in (by omega) (by omega)]
    exact tx40_go k d m (n / 10) _ (by rw [Nat.pow_succ] at h1; omega) (by omega) (by omega) (by rw [ByteArray.size_append,z]; omega)
   ·rw [if_f (by simpa using h0),if_t (by rw [show (⟨#[109]⟩:ByteArray).size=1 from rfl]; omega)]
    exact ⟨_,rfl⟩
theorem tx40 (k:Nat) (hk:1048576 < k) (x:Int) (h0:0≤x) (h1:x≤9223372036854775000):∃ t,f40 k x=some t:=by
 unfold f40
 by_cases h:x≤0
 ·rw [if_t (by simpa using h)]; exact ⟨_,rfl⟩
 ·rw [if_f (by simpa using h)]
  obtain ⟨n,rfl⟩:∃ n:Nat,x=n:=⟨x.toNat,by omega⟩
  exact tx40_go k 19 k n _ (by omega) (by omega) (by omega) (by decide)
def EStrokeS (k:Nat) (v:Int) (b:(Int × ((List (Int × Int)) × (ByteArray × (Int × Int))))) (c:Int):Prop:=∃ c1:Int,(b.1=v) ∧ (KPointS k (v+1) b.2.1 c1∧v+1≤c1) ∧ (f40 k (c1)=some b.2.2.1) ∧ (b.2.2.2.1=c1+1) ∧ (b.2.2.2.2=c1+1+1)∧c=c1+1+1+1
abbrev KStrokeS (k:Nat):Int → (List (Int × ((List (Int × Int)) × (ByteArray × (Int × Int)))))→Int→Prop:=RowR ((0:Int),(([]:(List (Int × Int))),((⟨#[]⟩:ByteArray),((0:Int),(0:Int))))) (EStrokeS k)
/- laws.markStrokeS -/
theorem mk12 (k:Nat) (hk:1048576 < k) (x:(List (Int × ((List (Int × Int)) × (ByteArray × (Int × Int)))))) (hx:Sh.bd (.sl false 62 (.st (.pair (.int .i64) (.pair (.sl false 66 (.st (.pair (.int .i64) (.int .i64)))) (.pair .str (.pair (.int .i64) (.int .i64))))))) x):Mk (fun x v => f12 k x v) (KStrokeS k) 2199027449856 x:=by
 refine markRow (d:=((0:Int),(([]:(List (Int × Int))),((⟨#[]⟩:ByteArray),((0:Int),(0:Int)))))) (w:=2097156) hx.1 (L:=f12.l104 k) (by decide) (fun a ha v h0 h1 => ?_) (fun m xs v => by rw [f12.l104,if_f (by simp)]) hk (by decide)
 obtain ⟨c1,y1,q1,r1,l1,u1⟩:=mk39 k hk (a.2.1) (hx.2 a ha).2.1 (v+1) (by omega) (by omega)
 have p1:f39 k (a.2.1) (v+1)=some (c1,y1):=q1
 obtain ⟨t2,ht2⟩:=tx40 k hk (c1) (by omega) (by omega)
 have z0:IntKind.i64.wrap (v+1)=v+1:=wrap_in (by omega) (by omega)
 have z1:IntKind.i64.wrap (c1+1)=c1+1:=wrap_in (by omega) (by omega)
 have z2:IntKind.i64.wrap (c1+1+1)=c1+1+1:=wrap_in (by omega) (by omega)
 have z3:IntKind.i64.wrap (c1+1+1+1)=c1+1+1+1:=wrap_in (by omega) (by omega)
 refine ⟨c1+1+1+1,(v,y1,t2,c1+1,c1+1+1),⟨_,rfl,⟨r1,l1⟩,ht2,rfl,rfl,rfl⟩,by omega,by omega,fun m i xs hi hl ha => ?_⟩
 have hc:decide ((i:Int) < (xs.length:Int))=true:=by simpa using hi
 have hb:(0:Int) ≤ (i:Int) ∧ (i:Int) < (xs.length:Int):=⟨by omega,by omega⟩
 have hxl:=hx.1
 have h3:((3:Int):Int)≠0:=by decide
 rw [f12.l104,if_t hc]
 simp only [if_t hb,if_t h3,List.length_set,Int.toNat_natCast,gd_set_eq,hi,List.set_set,Option.bind_some,ha,wrap_s (n:=i) (by omega),z0,z1,z2,z3,ht2,p1]
def EStringS (k:Nat) (v:Int) (b:ByteArray) (c:Int):Prop:=(f40 k (v)=some b)∧c=v+1
abbrev KStringS (k:Nat):Int → (List ByteArray)→Int→Prop:=RowR (⟨#[]⟩:ByteArray) (EStringS k)
/- laws.markStringS -/
theorem mk13 (k:Nat) (hk:1048576 < k) (x:(List ByteArray)) (hx:Sh.bd (.sl false 9 .str) x):Mk (fun x v => f13 k x v) (KStringS k) 1048576 x:=by
 refine markRow (d:=(⟨#[]⟩:ByteArray)) (w:=1) hx.1 (L:=f13.l32 k) (by decide) (fun a ha v h0 h1 => ?_) (fun m xs v => by rw [f13.l32,if_f (by simp)]) hk (by decide)
 obtain ⟨t1,ht1⟩:=tx40 k hk (v) (by omega) (by omega)
 have z0:IntKind.i64.wrap (v+1)=v+1:=wrap_in (by omega) (by omega)
 refine ⟨v+1,t1,⟨ht1,rfl⟩,by omega,by omega,fun m i xs hi hl ha => ?_⟩
 have hc:decide ((i:Int) < (xs.length:Int))=true:=by simpa using hi
 have hb:(0:Int) ≤ (i:Int) ∧ (i:Int) < (xs.length:Int):=⟨by omega,by omega⟩
 have hxl:=hx.1
 have h3:((3:Int):Int)≠0:=by decide
 rw [f13.l32,if_t hc]
 simp only [if_t hb,if_t h3,List.length_set,Int.toNat_natCast,gd_set_eq,hi,List.set_set,Option.bind_some,ha,wrap_s (n:=i) (by omega),z0,ht1]
/- laws.heldStringS -/
theorem hd14 (k:Nat) (hk:1048576 < k):Hd (fun y v => f14 k y v) (KStringS k):=by
 refine heldRow (d:=(⟨#[]⟩:ByteArray)) (L:=fun y => f14.l28 k y) (fun ys m i v c hi hl h0 h1 h2 hR => ?_) (fun ys m v => by rw [f14.l28,if_f (by simp)]) hk
 obtain ⟨e0,ec⟩:=hR
 have z0:IntKind.i64.wrap (v+1)=v+1:=wrap_in (by omega) (by omega)
 have hc:decide ((i:Int) < (ys.length:Int))=true:=by simpa using hi
 have hb:(0:Int) ≤ (i:Int) ∧ (i:Int) < (ys.length:Int):=⟨by omega,by omega⟩
 have h3:((3:Int):Int)≠0:=by decide
 subst ec
 rw [f14.l28,if_t hc]
 simp only [if_t hb,if_t h3,Int.toNat_natCast,Option.bind_some,z0,e0,wrap_s (n:=i) (by omega),bne_self_eq_false,beq_self_eq_true,Bool.not_true,Bool.false_eq_true,if_false]
end Go.Proofs.Ytgfekidehbancaa.V
end
section
set_option linter.unusedVariables false
set_option linter.unusedSimpArgs false
set_option linter.unusedSectionVars false
namespace Go.Proofs.Ytgfekidehbancaa
open Go Go.Vm Go.Proofs V
abbrev Pt:=Int × Int
abbrev dPt:Pt:=((0:Int),(0:Int))
abbrev Stk:=Int × (List Pt × (ByteArray × (Int × Int)))
abbrev dS:Stk:=((0:Int),(([]:List (Int × Int)),((⟨#[]⟩:ByteArray),((0:Int),(0:Int)))))
abbrev Pic:=List (List Int)
def Pok (n:Nat) (g:Pic):Prop:=g.length=n∧∀ r ∈ g,List.length r=n
theorem in_getD {α:Type} {d:α} {l:List α} {i:Nat} (h:i < l.length):l.getD i d ∈ l:=by
 simp [List.getD_eq_getElem?_getD,h]
def cI (n:Nat) (x:Int):Nat:=(x.toNat*n) / 4097
def putG (n:Nat) (g:Pic) (x y:Int) (b:Int):Pic:=g.set (n - 1 - cI n y) ((g.getD (n - 1 - cI n y) []).set (cI n x) b)
theorem cI_lt {n:Nat} (hn:0 < n) {x:Int} (h:x≤4096):cI n x < n:=by
 unfold cI
 apply Nat.div_lt_of_lt_mul
 have:x.toNat≤4096:=by omega
 have:=Nat.mul_le_mul_right n this
 omega
theorem cI_eq {n:Nat} (hn2:n≤256) {x:Int} (h0:0≤x) (h:x≤4096):IntKind.i64.wrap (Int.tdiv (IntKind.i64.wrap (x * (n:Int))) 4097) = (cI n x:Int):=by
 obtain ⟨m,rfl⟩:∃ m:Nat,x = (m:Int):=⟨x.toNat,by omega⟩
 have hm:m*n≤4096*256:=Nat.mul_le_mul (by omega) hn2
 have e:(m:Int) * (n:Int) = ((m*n:Nat):Int):=by rw [Int.natCast_mul]
 rw [e,wrap_in (n:=((m*n:Nat):Int)) (by omega) (by omega),Int.tdiv_eq_ediv_of_nonneg (by omega)]
 have e2:((m*n:Nat):Int) / 4097 = ((m*n / 4097:Nat):Int):=by omega
 rw [e2,wrap_in (by omega) (by omega)]
 rfl
theorem Pok.put {n:Nat} {g:Pic} (h:Pok n g) (x y b:Int):Pok n (putG n g x y b):=by
 obtain ⟨h1,h2⟩:=h
 refine ⟨by unfold putG; rw [List.length_set]; exact h1,fun r hr => ?_⟩
 unfold putG at hr
 by_cases hlt:n - 1 - cI n y < g.length
 ·rcases List.mem_or_eq_of_mem_set hr with hr | hr
  ·exact h2 r hr
  ·rw [hr,List.length_set]
   exact h2 _ (in_getD hlt)
 ·rw [List.set_eq_of_length_le (by omega)] at hr
  exact h2 r hr
section
variable (k:Nat) {n:Nat} (hn:0 < n) (hn2:n≤256)
include hn hn2
theorem e30 {g:Pic} (hg:Pok n g) {x y:Int} (hx:0≤x∧x≤4096) (hy:0≤y∧y≤4096) (b:Int):f30 k g (x,y) (n:Int) b=some (putG n g x y b):=by
 have c1:=cI_lt hn hx.2
 have c2:=cI_lt hn hy.2
 have e1:=cI_eq hn2 hx.1 hx.2
 have e2:=cI_eq hn2 hy.1 hy.2
 have e3:IntKind.i64.wrap (IntKind.i64.wrap ((n:Int) - 1) - (cI n y:Int)) = ((n - 1 - cI n y:Nat):Int):=by
  rw [wrap_in (n:=(n:Int) - 1) (by omega) (by omega),wrap_in (by omega) (by omega)]; omega
 have hr:(g.getD (n - 1 - cI n y) []).length=n:=hg.2 _ (in_getD (by rw [hg.1]; omega))
 unfold f30
 simp only [e1,e2,e3,Int.toNat_natCast]
 rw [if_t (by decide),if_t (by decide),if_t ⟨by omega,by rw [hg.1]; omega⟩,if_t ⟨by omega,by rw [hr]; omega⟩]
 rfl
theorem e35 {g:Pic} (hg:Pok n g) {x y:Int} (hx:0≤x∧x≤4096) (hy:0≤y∧y≤4096) (s:Stk) (hs:0 < s.2.2.1.size):f35 k x y s g (n:Int)=some (putG n g x y (byteAt s.2.2.1 0)):=by
 have c1:=cI_lt hn hx.2
 have c2:=cI_lt hn hy.2
 have e1:=cI_eq hn2 hx.1 hx.2
 have e2:=cI_eq hn2 hy.1 hy.2
 have e3:IntKind.i64.wrap (IntKind.i64.wrap ((n:Int) - 1) - (cI n y:Int)) = ((n - 1 - cI n y:Nat):Int):=by
  rw [wrap_in (n:=(n:Int) - 1) (by omega) (by omega),wrap_in (by omega) (by omega)]; omega
 have hr:(g.getD (n - 1 - cI n y) []).length=n:=hg.2 _ (in_getD (by rw [hg.1]; omega))
 unfold f35
 simp only [e1,e2,e3,Int.toNat_natCast]
 rw [if_t (by decide),if_t ⟨by omega,by rw [hg.1]; omega⟩,if_t (by decide),if_t ⟨by decide,by omega⟩,if_t ⟨by omega,by rw [hr]; omega⟩]
 rfl
end
theorem e31 (k:Nat) {x:Int} (h:-5000≤x∧x≤5000):f31 k x=some (x.natAbs:Int)∧f36 k x=some (x.natAbs:Int):=by
 unfold f31 f36
 by_cases hx:x < 0
 ·rw [if_t (by simpa using hx),wrap_in (by omega) (by omega)]
  have e:(0 - x:Int) = (x.natAbs:Int):=by omega
  rw [e]; exact ⟨rfl,rfl⟩
 ·rw [if_f (by simpa using hx)]
  have e:x = (x.natAbs:Int):=by omega
  rw [← e]; exact ⟨rfl,rfl⟩
theorem tm_neg {x m:Int} (hm:0 < m):(decide (Int.tmod x m < 0)) = (bif (Int.tmod x m != 0) then (!((decide (x < 0)) == (decide (m < 0)))) else false):=by
 have hm0:decide (m < 0)=false:=decide_eq_false (by omega)
 rw [hm0]
 by_cases hx:x < 0
 ·have h1:Int.tmod x m≤0:=by
   have:=Int.tmod_nonneg m (a:=-x) (by omega)
   rw [Int.neg_tmod] at this
   omega
  rw [decide_eq_true hx]
  by_cases h2:Int.tmod x m=0
  ·simp [h2]
  ·have:Int.tmod x m < 0:=by omega
   simp [h2,this]
 ·have h1:=Int.tmod_nonneg m (a:=x) (by omega)
  rw [decide_eq_false hx]
  have:¬ Int.tmod x m < 0:=by omega
  simp [this]
theorem fl {x m:Int} (hm:0 < m):x / m=if Int.tmod x m < 0 then Int.tdiv x m - 1 else Int.tdiv x m:=by
 by_cases hx0:x < 0
 ·have t1:Int.tdiv x m = -((-x) / m):=by
   have:=Int.neg_tdiv (a:=-x) (b:=m)
   rw [Int.neg_neg] at this
   rw [this,Int.tdiv_eq_ediv_of_nonneg (by omega)]
  have t2:Int.tmod x m = -((-x) % m):=by
   have:=Int.neg_tmod (a:=-x) (b:=m)
   rw [Int.neg_neg] at this
   rw [this,Int.tmod_eq_emod_of_nonneg (by omega)]
  have d1:=Int.mul_ediv_add_emod (-x) m
  have d2:=Int.emod_nonneg (-x) (show m≠0 by omega)
  have d3:=Int.emod_lt_of_pos (-x) hm
  rw [t1,t2]
  by_cases hs:(-x) % m=0
  ·rw [hs,if_neg (by decide)]
   have:=(Int.ediv_emod_unique (a:=x) (b:=m) (q:=-((-x) / m)) (r:=0) hm).2 ⟨by rw [Int.mul_neg]; omega,by omega,hm⟩
   exact this.1
  ·rw [if_pos (by omega)]
   have:=(Int.ediv_emod_unique (a:=x) (b:=m) (q:=-((-x) / m) - 1) (r:=m - (-x) % m) hm).2 ⟨by rw [Int.mul_sub,Int.mul_neg,Int.mul_one]; omega,by omega,by omega⟩
   exact this.1
 ·have:=Int.tmod_nonneg m (a:=x) (by omega)
  rw [if_neg (by omega),Int.tdiv_eq_ediv_of_nonneg (by omega)]
theorem fl_b {x m d:Int} (hm:0 < m) {j:Int} (hj:0 < j∧j < m) (hx:x=d*j):(0≤d→0≤x / m∧x / m≤d) ∧ (d≤0→d≤x / m∧x / m≤0):=by
 subst hx
 constructor
 ·intro hd
  refine ⟨Int.ediv_nonneg (Int.mul_nonneg hd (by omega)) (by omega),?_⟩
  have h1:d*j≤d*m:=Int.mul_le_mul_of_nonneg_left (by omega) hd
  have:=Int.ediv_le_ediv hm h1
  rwa [Int.mul_ediv_cancel _ (by omega)] at this
 ·intro hd
  constructor
  ·have h1:d*m≤d*j:=Int.mul_le_mul_of_nonpos_left hd (by omega)
   have:=Int.ediv_le_ediv hm h1
   rwa [Int.mul_ediv_cancel _ (by omega)] at this
  ·have h1:d*j≤0:=Int.mul_nonpos_of_nonpos_of_nonneg hd (by omega)
   have:=Int.ediv_le_ediv hm h1
   rwa [Int.zero_ediv] at this
theorem e32 (k:Nat) {x m:Int} (hx:-100000000≤x / m∧x / m≤100000000) (hm:0 < m∧m≤5000):f32 k x m=some (x / m)∧f37 k x m=some (x / m):=by
 have hne:(m:Int)≠0:=by omega
 have hq:=fl (x:=x) hm.1
 have ht:=tm_neg (x:=x) hm.1
 unfold f32 f37 f32.j2 f37.j2
 rw [if_t hne,if_t hne,if_t hne,if_t hne,← ht]
 by_cases h:Int.tmod x m < 0
 ·rw [if_pos h] at hq
  have hd:decide (Int.tmod x m < 0)=true:=decide_eq_true h
  rw [if_t hd,wrap_in (n:=Int.tdiv x m) (by omega) (by omega),wrap_in (n:=Int.tdiv x m - 1) (by omega) (by omega),hq]
  exact ⟨rfl,rfl⟩
 ·rw [if_neg h] at hq
  have hd:¬ decide (Int.tmod x m < 0)=true:=by simpa using h
  rw [if_f hd,wrap_in (n:=Int.tdiv x m) (by omega) (by omega),hq]
  exact ⟨rfl,rfl⟩
end Go.Proofs.Ytgfekidehbancaa
end
section
set_option linter.unusedVariables false
set_option linter.unusedSimpArgs false
set_option linter.unusedSectionVars false
namespace Go.Proofs.Ytgfekidehbancaa
open Go Go.Vm Go.Proofs V
def PtIn (p:Pt):Prop:=(0≤p.1∧p.1≤4096)∧0≤p.2∧p.2≤4096
def segD (n:Nat) (a p:Pt) (N:Int) (b:Int):Nat→Nat→Pic→Pic
 | 0,_,g => g
 | d+1,j,g => segD n a p N b d (j+1) (putG n g (a.1 + ((p.1 - a.1) * (j:Int)) / N) (a.2 + ((p.2 - a.2) * (j:Int)) / N) b)
def segN (a p:Pt):Int:=if ((p.2 - a.2).natAbs:Int) > ((p.1 - a.1).natAbs:Int) then ((p.2 - a.2).natAbs:Int) else ((p.1 - a.1).natAbs:Int)
def stepP (n:Nat) (pts:List Pt) (b:Int) (t:Nat) (g:Pic):Pic:=if t=0 then putG n g (pts.getD t dPt).1 (pts.getD t dPt).2 b else segD n (pts.getD (t - 1) dPt) (pts.getD t dPt) (segN (pts.getD (t - 1) dPt) (pts.getD t dPt)) b ((segN (pts.getD (t - 1) dPt) (pts.getD t dPt)).toNat - 1) 1 (putG n g (pts.getD t dPt).1 (pts.getD t dPt).2 b)
def drawPs (n:Nat) (pts:List Pt) (b:Int):Nat→Nat→Pic→Pic
 | 0,_,g => g
 | d+1,t,g => drawPs n pts b d (t+1) (stepP n pts b t g)
theorem segN_b {a p:Pt} (ha:PtIn a) (hp:PtIn p):0≤segN a p∧segN a p≤4096:=by
 obtain ⟨⟨a1,a2⟩,a3,a4⟩:=ha
 obtain ⟨⟨p1,p2⟩,p3,p4⟩:=hp
 unfold segN
 split <;> omega
theorem mid {x d N:Int} {c:Int} (hc:0≤c∧c≤4096) (hd:0≤c+d∧c+d≤4096) {j:Int} (hj:0 < j∧j < N):0≤c + (d*j) / N∧c + (d*j) / N≤4096 ∧ -100000000 ≤ (d*j) / N ∧ (d*j) / N≤100000000:=by
 have h:=fl_b (x:=d*j) (m:=N) (d:=d) (by omega) hj rfl
 rcases Int.le_total 0 d with h0 | h0
 ·have:=h.1 h0; omega
 ·have:=h.2 h0; omega
section
variable (k:Nat) (hk:1048576 < k) {n:Nat} (hn:0 < n) (hn2:n≤256)
include hk hn hn2
theorem segD_ok {a p:Pt} {N b:Int}:∀ (d j:Nat) (g:Pic),Pok n g→Pok n (segD n a p N b d j g)
 | 0,_,g,h => h
 | d+1,j,g,h => segD_ok d (j+1) _ (h.put _ _ _)
section
variable (x0:List Stk) (i t:Nat) (ht:0 < t) (ht2:t < 1048577) (hs:0 < (x0.getD i dS).2.2.1.size) (ha:PtIn ((x0.getD i dS).2.1.getD (t - 1) dPt)) (hp:PtIn ((x0.getD i dS).2.1.getD t dPt))
include ht ht2 hs ha hp
theorem seg_s (N:Int) (hN:N≤4096) (q:Pic→Option (List ByteArray)):∀ (d m j:Nat) (g:Pic),Pok n g→0 < j → ((N ≤ (j:Int)∧d=0) ∨ ((j+d:Nat):Int)=N)→d < m →
 f7.l5482 k N x0 (i:Int) (t:Int) (n:Int) q m (g,(j:Int))=q (segD n ((x0.getD i dS).2.1.getD (t - 1) dPt) ((x0.getD i dS).2.1.getD t dPt) N (byteAt (x0.getD i dS).2.2.1 0) d j g)
 | d,0,j,g,_,_,_,h => by omega
 | 0,m+1,j,g,hg,hj,hd,h => by
   rw [f7.l5482,if_f (by simp; omega)]
   rfl
 | d+1,m+1,j,g,hg,hj,hd,h => by
   have hlt:(j:Int) < N:=by omega
   obtain ⟨⟨a1,a2⟩,a3,a4⟩:=ha
   obtain ⟨⟨p1,p2⟩,p3,p4⟩:=hp
   have et:IntKind.i64.wrap ((t:Int) - 1) = ((t - 1:Nat):Int):=by rw [wrap_in (by omega) (by omega)]; omega
   rw [f7.l5482,if_t (by simpa using hlt)]
   simp only [et,Int.toNat_natCast]
   have ed:x0.getD i ((0:Int),(([]:List (Int × Int)),((⟨#[]⟩:ByteArray),((0:Int),(0:Int)))))=x0.getD i dS:=rfl
   have ep:∀ (l:List (Int × Int)) (u:Nat),l.getD u ((0:Int),(0:Int))=l.getD u dPt:=fun _ _ => rfl
   simp only [ed,ep]
   generalize hA:(x0.getD i dS).2.1.getD (t - 1) dPt=A at *
   generalize hP:(x0.getD i dS).2.1.getD t dPt=Q at *
   have m1:=mid (x:=0) (d:=Q.1 - A.1) (N:=N) (c:=A.1) ⟨a1,a2⟩ (by omega) (j:=(j:Int)) ⟨by omega,hlt⟩
   have m2:=mid (x:=0) (d:=Q.2 - A.2) (N:=N) (c:=A.2) ⟨a3,a4⟩ (by omega) (j:=(j:Int)) ⟨by omega,hlt⟩
   have b1:-16777216 ≤ (Q.1 - A.1) * (j:Int) ∧ (Q.1 - A.1) * (j:Int)≤16777216:=by
    have h1:=Int.mul_le_mul_of_nonneg_right (show Q.1 - A.1≤4096 by omega) (show (0:Int)≤j by omega)
    have h2:=Int.mul_le_mul_of_nonneg_right (show -4096≤Q.1 - A.1 by omega) (show (0:Int)≤j by omega)
    omega
   have b2:-16777216 ≤ (Q.2 - A.2) * (j:Int) ∧ (Q.2 - A.2) * (j:Int)≤16777216:=by
    have h1:=Int.mul_le_mul_of_nonneg_right (show Q.2 - A.2≤4096 by omega) (show (0:Int)≤j by omega)
    have h2:=Int.mul_le_mul_of_nonneg_right (show -4096≤Q.2 - A.2 by omega) (show (0:Int)≤j by omega)
    omega
   rw [wrap_in (n:=Q.1 - A.1) (by omega) (by omega),wrap_in (n:=Q.2 - A.2) (by omega) (by omega),wrap_in (n:=(Q.1 - A.1) * (j:Int)) (by omega) (by omega),wrap_in (n:=(Q.2 - A.2) * (j:Int)) (by omega) (by omega)]
   rw [(e32 k ⟨m1.2.2.1,m1.2.2.2⟩ ⟨by omega,by omega⟩).1,Option.bind_some,(e32 k ⟨m2.2.2.1,m2.2.2.2⟩ ⟨by omega,by omega⟩).1,Option.bind_some]
   rw [wrap_in (n:=A.1 + (Q.1 - A.1) * (j:Int) / N) (by omega) (by omega),wrap_in (n:=A.2 + (Q.2 - A.2) * (j:Int) / N) (by omega) (by omega),if_t ⟨by decide,by omega⟩,e30 k hn hn2 hg ⟨m1.1,m1.2.1⟩ ⟨m2.1,m2.2.1⟩,Option.bind_some,wrap_s (by omega)]
   have ih:=seg_s N hN q d m (j+1) (putG n g (A.1 + (Q.1 - A.1) * (j:Int) / N) (A.2 + (Q.2 - A.2) * (j:Int) / N) (byteAt (x0.getD i dS).2.2.1 0)) (hg.put _ _ _) (by omega) (by omega) (by omega)
   rw [hA,hP] at ih
   exact ih
theorem seg_i (u v N:Int) (huv:(if (u:Int) > v then u else v)=N) (hN:N≤4096) (q:Pic→Option (List ByteArray)):∀ (d m j:Nat) (g:Pic),Pok n g→0 < j → ((N ≤ (j:Int)∧d=0) ∨ ((j+d:Nat):Int)=N)→d < m →
 f9.l4702 k u v x0 (i:Int) (t:Int) (n:Int) q m (g,(j:Int))=q (segD n ((x0.getD i dS).2.1.getD (t - 1) dPt) ((x0.getD i dS).2.1.getD t dPt) N (byteAt (x0.getD i dS).2.2.1 0) d j g)
 | d,0,j,g,_,_,_,h => by omega
 | 0,m+1,j,g,hg,hj,hd,h => by
   rw [f9.l4702,huv,if_f (by simp; omega)]
   rfl
 | d+1,m+1,j,g,hg,hj,hd,h => by
   have hlt:(j:Int) < N:=by omega
   obtain ⟨⟨a1,a2⟩,a3,a4⟩:=ha
   obtain ⟨⟨p1,p2⟩,p3,p4⟩:=hp
   have et:IntKind.i64.wrap ((t:Int) - 1) = ((t - 1:Nat):Int):=by rw [wrap_in (by omega) (by omega)]; omega
   rw [f9.l4702,huv,if_t (by simpa using hlt)]
   simp only [et,Int.toNat_natCast]
   have ed:x0.getD i ((0:Int),(([]:List (Int × Int)),((⟨#[]⟩:ByteArray),((0:Int),(0:Int)))))=x0.getD i dS:=rfl
   have ep:∀ (l:List (Int × Int)) (u:Nat),l.getD u ((0:Int),(0:Int))=l.getD u dPt:=fun _ _ => rfl
   simp only [ed,ep]
   generalize hA:(x0.getD i dS).2.1.getD (t - 1) dPt=A at *
   generalize hP:(x0.getD i dS).2.1.getD t dPt=Q at *
   have m1:=mid (x:=0) (d:=Q.1 - A.1) (N:=N) (c:=A.1) ⟨a1,a2⟩ (by omega) (j:=(j:Int)) ⟨by omega,hlt⟩
   have m2:=mid (x:=0) (d:=Q.2 - A.2) (N:=N) (c:=A.2) ⟨a3,a4⟩ (by omega) (j:=(j:Int)) ⟨by omega,hlt⟩
   have b1:-16777216 ≤ (Q.1 - A.1) * (j:Int) ∧ (Q.1 - A.1) * (j:Int)≤16777216:=by
    have h1:=Int.mul_le_mul_of_nonneg_right (show Q.1 - A.1≤4096 by omega) (show (0:Int)≤j by omega)
    have h2:=Int.mul_le_mul_of_nonneg_right (show -4096≤Q.1 - A.1 by omega) (show (0:Int)≤j by omega)
    omega
   have b2:-16777216 ≤ (Q.2 - A.2) * (j:Int) ∧ (Q.2 - A.2) * (j:Int)≤16777216:=by
    have h1:=Int.mul_le_mul_of_nonneg_right (show Q.2 - A.2≤4096 by omega) (show (0:Int)≤j by omega)
    have h2:=Int.mul_le_mul_of_nonneg_right (show -4096≤Q.2 - A.2 by omega) (show (0:Int)≤j by omega)
    omega
   rw [wrap_in (n:=Q.1 - A.1) (by omega) (by omega),wrap_in (n:=Q.2 - A.2) (by omega) (by omega),Int.mul_comm (j:Int),Int.mul_comm (j:Int),wrap_in (n:=(Q.1 - A.1) * (j:Int)) (by omega) (by omega),wrap_in (n:=(Q.2 - A.2) * (j:Int)) (by omega) (by omega)]
   rw [(e32 k ⟨m1.2.2.1,m1.2.2.2⟩ ⟨by omega,by omega⟩).2,Option.bind_some,(e32 k ⟨m2.2.2.1,m2.2.2.2⟩ ⟨by omega,by omega⟩).2,Option.bind_some]
   rw [wrap_in (n:=A.1 + (Q.1 - A.1) * (j:Int) / N) (by omega) (by omega),wrap_in (n:=A.2 + (Q.2 - A.2) * (j:Int) / N) (by omega) (by omega),e35 k hn hn2 hg ⟨m1.1,m1.2.1⟩ ⟨m2.1,m2.2.1⟩ _ hs,Option.bind_some,wrap_s (by omega)]
   have ih:=seg_i u v N huv hN q d m (j+1) (putG n g (A.1 + (Q.1 - A.1) * (j:Int) / N) (A.2 + (Q.2 - A.2) * (j:Int) / N) (byteAt (x0.getD i dS).2.2.1 0)) (hg.put _ _ _) (by omega) (by omega) (by omega)
   rw [hA,hP] at ih
   exact ih
end
end
end Go.Proofs.Ytgfekidehbancaa
end
section
set_option linter.unusedVariables false
set_option linter.unusedSimpArgs false
set_option linter.unusedSectionVars false
namespace Go.Proofs.Ytgfekidehbancaa
open Go Go.Vm Go.Proofs V
section
variable (k:Nat) (hk:1048576 < k) {n:Nat} (hn:0 < n) (hn2:n≤256)
include hk hn hn2
theorem stepP_ok {pts:List Pt} {b:Int} {t:Nat} {g:Pic} (h:Pok n g):Pok n (stepP n pts b t g):=by
 unfold stepP
 split
 ·exact h.put _ _ _
 ·exact segD_ok k hk hn hn2 _ _ _ (h.put _ _ _)
theorem drawPs_ok {pts:List Pt} {b:Int}:∀ (d t:Nat) (g:Pic),Pok n g→Pok n (drawPs n pts b d t g)
 | 0,_,_,h => h
 | d+1,t,g,h => drawPs_ok d (t+1) _ (stepP_ok k hk hn hn2 h)
section
variable (x0:List Stk) (i:Nat) (hs:0 < (x0.getD i dS).2.2.1.size) (hl:(x0.getD i dS).2.1.length≤1048576) (hall:∀ t,t < (x0.getD i dS).2.1.length→PtIn ((x0.getD i dS).2.1.getD t dPt))
include hs hl hall
theorem pts_s (q:Pic→Option (List ByteArray)):∀ (d m t:Nat) (g:Pic),Pok n g→t+d = (x0.getD i dS).2.1.length→d < m →
 f7.l5120 k x0 (i:Int) (n:Int) q m (g,(t:Int))=q (drawPs n (x0.getD i dS).2.1 (byteAt (x0.getD i dS).2.2.1 0) d t g)
 | d,0,t,g,_,_,h => by omega
 | 0,m+1,t,g,hg,htd,h => by
   rw [f7.l5120]
   simp only [Int.toNat_natCast]
   have ed:x0.getD i ((0:Int),(([]:List (Int × Int)),((⟨#[]⟩:ByteArray),((0:Int),(0:Int)))))=x0.getD i dS:=rfl
   simp only [ed]
   rw [if_f (fun h => by have:=of_decide_eq_true h; omega)]
   rfl
 | d+1,m+1,t,g,hg,htd,h => by
   have hlt:t < (x0.getD i dS).2.1.length:=by omega
   have hp:=hall t hlt
   rw [f7.l5120]
   simp only [Int.toNat_natCast]
   have ed:x0.getD i ((0:Int),(([]:List (Int × Int)),((⟨#[]⟩:ByteArray),((0:Int),(0:Int)))))=x0.getD i dS:=rfl
   have ep:∀ (l:List (Int × Int)) (u:Nat),l.getD u ((0:Int),(0:Int))=l.getD u dPt:=fun _ _ => rfl
   simp only [ed,ep]
   have hb:(0:Int) ≤ (t:Int) ∧ (t:Int) < ((x0.getD i dS).2.1.length:Int):=⟨by omega,by omega⟩
   have e30':f30 k g ((x0.getD i dS).2.1.getD t dPt) (n:Int) (byteAt (x0.getD i dS).2.2.1 0)=some (putG n g ((x0.getD i dS).2.1.getD t dPt).1 ((x0.getD i dS).2.1.getD t dPt).2 (byteAt (x0.getD i dS).2.2.1 0)):=e30 k hn hn2 hg hp.1 hp.2 _
   rw [if_t (by simpa using hlt),if_t hb,if_t ⟨by decide,by omega⟩,e30',Option.bind_some]
   have ih:=pts_s q d m (t+1) (stepP n (x0.getD i dS).2.1 (byteAt (x0.getD i dS).2.2.1 0) t g) (stepP_ok k hk hn hn2 hg) (by omega) (by omega)
   by_cases h0:t=0
   ·subst h0
    rw [if_t (by simp)]
    unfold f7.j5474
    rw [show IntKind.i64.wrap (((0:Nat):Int)+1) = ((0+1:Nat):Int) from wrap_s (by omega)]
    unfold stepP at ih
    rw [if_pos rfl] at ih
    rw [ih]
    conv => rhs; rw [drawPs]
    unfold stepP
    rw [if_pos rfl]
   ·have hp1:=hall (t - 1) (by omega)
    have et:IntKind.i64.wrap ((t:Int) - 1) = ((t - 1:Nat):Int):=by rw [wrap_in (by omega) (by omega)]; omega
    rw [if_f (by simp; omega)]
    simp only [et,Int.toNat_natCast]
    rw [if_t ⟨by omega,by omega⟩,if_t hb,if_t hb]
    obtain ⟨⟨a1,a2⟩,a3,a4⟩:=id hp
    obtain ⟨⟨b1,b2⟩,b3,b4⟩:=id hp1
    rw [wrap_in (n:=((x0.getD i dS).2.1.getD t dPt).1 - ((x0.getD i dS).2.1.getD (t - 1) dPt).1) (by omega) (by omega),wrap_in (n:=((x0.getD i dS).2.1.getD t dPt).2 - ((x0.getD i dS).2.1.getD (t - 1) dPt).2) (by omega) (by omega)]
    rw [(e31 k ⟨by omega,by omega⟩).1,Option.bind_some,(e31 k ⟨by omega,by omega⟩).1,Option.bind_some]
    have hN:=segN_b hp1 hp
    have fin:f7.j5481 k x0 (i:Int) (t:Int) (n:Int) (putG n g ((x0.getD i dS).2.1.getD t dPt).1 ((x0.getD i dS).2.1.getD t dPt).2 (byteAt (x0.getD i dS).2.2.1 0)) (f7.j5474 k (t:Int) ((f7.l5120 k x0 (i:Int) (n:Int) q) m)) (segN ((x0.getD i dS).2.1.getD (t - 1) dPt) ((x0.getD i dS).2.1.getD t dPt))=q (drawPs n (x0.getD i dS).2.1 (byteAt (x0.getD i dS).2.2.1 0) (d+1) t g):=by
     unfold f7.j5481
     have hseg:=seg_s k hk hn hn2 x0 i t (by omega) (by omega) hs hp1 hp (segN ((x0.getD i dS).2.1.getD (t - 1) dPt) ((x0.getD i dS).2.1.getD t dPt)) hN.2 (f7.j5474 k (t:Int) ((f7.l5120 k x0 (i:Int) (n:Int) q) m)) ((segN ((x0.getD i dS).2.1.getD (t - 1) dPt) ((x0.getD i dS).2.1.getD t dPt)).toNat - 1) k 1 (putG n g ((x0.getD i dS).2.1.getD t dPt).1 ((x0.getD i dS).2.1.getD t dPt).2 (byteAt (x0.getD i dS).2.2.1 0)) (hg.put _ _ _) (by omega) (by omega) (by omega)
     refine Eq.trans hseg ?_
     unfold f7.j5474
     rw [wrap_s (by omega)]
     unfold stepP at ih
     rw [if_neg h0] at ih
     rw [ih]
     conv => rhs; rw [drawPs]
     unfold stepP
     rw [if_neg h0]
    by_cases hgt:(((((x0.getD i dS).2.1.getD t dPt).2 - ((x0.getD i dS).2.1.getD (t - 1) dPt).2).natAbs:Nat):Int) > (((((x0.getD i dS).2.1.getD t dPt).1 - ((x0.getD i dS).2.1.getD (t - 1) dPt).1).natAbs:Nat):Int)
    ·rw [if_t (by exact decide_eq_true hgt),Option.bind_some]
     unfold segN at fin
     rw [if_pos hgt] at fin
     exact fin
    ·rw [if_f (by simpa using hgt)]
     unfold segN at fin
     rw [if_neg hgt] at fin
     exact fin
theorem pts_i (q:Pic→Option (List ByteArray)):∀ (d m t:Nat) (g:Pic),Pok n g→t+d = (x0.getD i dS).2.1.length→d < m →
 f9.l4419 k x0 (i:Int) (n:Int) q m (g,(t:Int))=q (drawPs n (x0.getD i dS).2.1 (byteAt (x0.getD i dS).2.2.1 0) d t g)
 | d,0,t,g,_,_,h => by omega
 | 0,m+1,t,g,hg,htd,h => by
   rw [f9.l4419]
   simp only [Int.toNat_natCast]
   have ed:x0.getD i ((0:Int),(([]:List (Int × Int)),((⟨#[]⟩:ByteArray),((0:Int),(0:Int)))))=x0.getD i dS:=rfl
   simp only [ed]
   rw [if_f (fun h => by have:=of_decide_eq_true h; omega)]
   rfl
 | d+1,m+1,t,g,hg,htd,h => by
   have hlt:t < (x0.getD i dS).2.1.length:=by omega
   have hp:=hall t hlt
   rw [f9.l4419]
   simp only [Int.toNat_natCast]
   have ed:x0.getD i ((0:Int),(([]:List (Int × Int)),((⟨#[]⟩:ByteArray),((0:Int),(0:Int)))))=x0.getD i dS:=rfl
   have ep:∀ (l:List (Int × Int)) (u:Nat),l.getD u ((0:Int),(0:Int))=l.getD u dPt:=fun _ _ => rfl
   simp only [ed,ep]
   have hb:(0:Int) ≤ (t:Int) ∧ (t:Int) < ((x0.getD i dS).2.1.length:Int):=⟨by omega,by omega⟩
   rw [if_t (by simpa using hlt),if_t hb,e35 k hn hn2 hg hp.1 hp.2 _ hs,Option.bind_some]
   have ih:=pts_i q d m (t+1) (stepP n (x0.getD i dS).2.1 (byteAt (x0.getD i dS).2.2.1 0) t g) (stepP_ok k hk hn hn2 hg) (by omega) (by omega)
   by_cases h0:t=0
   ·subst h0
    rw [if_t (by simp)]
    unfold f9.j4698
    rw [show IntKind.i64.wrap (((0:Nat):Int)+1) = ((0+1:Nat):Int) from wrap_s (by omega)]
    unfold stepP at ih
    rw [if_pos rfl] at ih
    rw [ih]
    conv => rhs; rw [drawPs]
    unfold stepP
    rw [if_pos rfl]
   ·have hp1:=hall (t - 1) (by omega)
    have et:IntKind.i64.wrap ((t:Int) - 1) = ((t - 1:Nat):Int):=by rw [wrap_in (by omega) (by omega)]; omega
    rw [if_f (by simp; omega)]
    simp only [et,Int.toNat_natCast]
    rw [if_t ⟨by omega,by omega⟩]
    obtain ⟨⟨a1,a2⟩,a3,a4⟩:=id hp
    obtain ⟨⟨b1,b2⟩,b3,b4⟩:=id hp1
    rw [wrap_in (n:=((x0.getD i dS).2.1.getD t dPt).1 - ((x0.getD i dS).2.1.getD (t - 1) dPt).1) (by omega) (by omega),wrap_in (n:=((x0.getD i dS).2.1.getD t dPt).2 - ((x0.getD i dS).2.1.getD (t - 1) dPt).2) (by omega) (by omega)]
    rw [(e31 k ⟨by omega,by omega⟩).2,Option.bind_some,(e31 k ⟨by omega,by omega⟩).2,Option.bind_some]
    have hN:=segN_b hp1 hp
    have hseg:=seg_i k hk hn hn2 x0 i t (by omega) (by omega) hs hp1 hp _ _ (segN ((x0.getD i dS).2.1.getD (t - 1) dPt) ((x0.getD i dS).2.1.getD t dPt)) rfl hN.2 (f9.j4698 k (t:Int) ((f9.l4419 k x0 (i:Int) (n:Int) q) m)) ((segN ((x0.getD i dS).2.1.getD (t - 1) dPt) ((x0.getD i dS).2.1.getD t dPt)).toNat - 1) k 1 (putG n g ((x0.getD i dS).2.1.getD t dPt).1 ((x0.getD i dS).2.1.getD t dPt).2 (byteAt (x0.getD i dS).2.2.1 0)) (hg.put _ _ _) (by omega) (by omega) (by omega)
    refine Eq.trans hseg ?_
    unfold f9.j4698
    rw [wrap_s (by omega)]
    unfold stepP at ih
    rw [if_neg h0] at ih
    rw [ih]
    conv => rhs; rw [drawPs]
    unfold stepP
    rw [if_neg h0]
end
end
end Go.Proofs.Ytgfekidehbancaa
end
section
set_option linter.unusedVariables false
set_option linter.unusedSimpArgs false
set_option linter.unusedSectionVars false
namespace Go.Proofs.Ytgfekidehbancaa
open Go Go.Vm Go.Proofs V
def ptOk (p:Pt):Bool:=!(bif (bif (bif (decide (p.1 < 0)) then true else (decide (p.1 > 4096))) then true else (decide (p.2 < 0))) then true else (decide (p.2 > 4096)))
theorem ptOk_in {p:Pt} (h:ptOk p=true):PtIn p:=by
 unfold ptOk at h
 unfold PtIn
 by_cases h1:p.1 < 0 <;> by_cases h2:p.1 > 4096 <;> by_cases h3:p.2 < 0 <;> by_cases h4:p.2 > 4096 <;> simp [h1,h2,h3,h4] at h ⊢ <;> omega
theorem ptOk_and (b:Bool) (p:Pt):(bif (bif (bif (bif b then (decide (p.1 ≥ 0)) else false) then (decide (p.1≤4096)) else false) then (decide (p.2 ≥ 0)) else false) then (decide (p.2≤4096)) else false) = (b && ptOk p):=by
 unfold ptOk
 cases b
 ·rfl
 ·by_cases h1:p.1 < 0 <;> by_cases h2:p.1 > 4096 <;> by_cases h3:p.2 < 0 <;> by_cases h4:p.2 > 4096 <;> simp [h1,h2,h3,h4] <;> omega
theorem getD_drop' {α:Type} {x:List α} {i:Nat} {d:α} (h:i < x.length):x.drop i=x.getD i d :: x.drop (i+1):=by
 rw [List.drop_eq_getElem_cons h,List.getD_eq_getElem?_getD,List.getElem?_eq_getElem h]; rfl
def rowOk (r:List Pt) (j:Nat):Bool:=(r.drop j).all ptOk
theorem rowOk_step {r:List Pt} {j:Nat} (h:j < r.length):rowOk r j = (ptOk (r.getD j dPt) && rowOk r (j+1)):=by
 unfold rowOk
 rw [getD_drop' (d:=dPt) h,List.all_cons]
theorem rowOk_end {r:List Pt} {j:Nat} (h:r.length≤j):rowOk r j=true:=by unfold rowOk; rw [List.drop_eq_nil_of_le h]; rfl
theorem nt {a b:Bool} (e:a=!b) (h:a=false):b=true:=by cases b <;> simp_all
theorem nf {a b:Bool} (e:a=!b) (h:a=true):¬ b=true:=by cases b <;> simp_all
theorem e29 (k:Nat) (hk:1048576 < k) (r:List Pt) (hl:r.length≤1048576):f29 k r=some (rowOk r 0):=by
 have go:∀ (m j:Nat),j≤r.length→r.length - j < m→f29.l30 k r m (j:Int)=some (rowOk r j):=by
  intro m
  induction m with
  | zero => intro j _ h; omega
  | succ m ih =>
    intro j hj h
    rw [f29.l30]
    by_cases hlt:j < r.length
    ·have hb:(0:Int) ≤ (j:Int) ∧ (j:Int) < (r.length:Int):=⟨by omega,by omega⟩
     have e:ptOk (r.getD j dPt)=!(bif (bif (bif (decide ((r.getD j dPt).1 < 0)) then true else (decide ((r.getD j dPt).1 > 4096))) then true else (decide ((r.getD j dPt).2 < 0))) then true else (decide ((r.getD j dPt).2 > 4096))):=rfl
     simp only [Int.toNat_natCast]
     rw [if_t (by simpa using hlt),if_t hb,if_t (fun _ => hb),if_t (fun _ => hb),if_t (fun _ => hb),rowOk_step hlt]
     cases hp:ptOk (r.getD j dPt) with
     | false => rw [if_t (nt e hp)]; rfl
     | true => rw [if_f (nf e hp),wrap_s (by omega),ih (j+1) (by omega) (by omega)]; rfl
    ·rw [if_f (by simpa using hlt),rowOk_end (by omega)]
 exact go k 0 (by omega) (by omega)
def stkOk (s:Stk):Bool:=(!(ByteArray.toList s.2.2.1 == ByteArray.toList (⟨#[]⟩:ByteArray))) && rowOk s.2.1 0
def strokes (n:Nat):List Stk→Pic→Pic
 | [],g => g
 | s :: ss,g => strokes n ss (if stkOk s=true then drawPs n s.2.1 (byteAt s.2.2.1 0) s.2.1.length 0 g else g)
theorem size_pos {s:ByteArray} (h:(!(ByteArray.toList s == ByteArray.toList (⟨#[]⟩:ByteArray)))=true):0 < s.size:=by
 rcases Nat.eq_zero_or_pos s.size with h0 | h0
 ·exfalso
  have:s=⟨#[]⟩:=by
   cases s with
   | mk d => congr 1; exact Array.eq_empty_of_size_eq_zero h0
  rw [this] at h
  simp at h
 ·exact h0
theorem all_in {r:List Pt} (h:rowOk r 0=true):∀ t,t < r.length→PtIn (r.getD t dPt):=fun t ht => by
 unfold rowOk at h
 rw [List.drop_zero,List.all_eq_true] at h
 exact ptOk_in (h _ (in_getD ht))
section
variable (k:Nat) (hk:1048576 < k) {n:Nat} (hn:0 < n) (hn2:n≤256) (x0:List Stk) (hx:x0.length≤1048576) (hl:∀ s ∈ x0,s.2.1.length≤1048576)
include hk hn hn2 hx hl
theorem chk_i (i:Nat) (hi:i < x0.length) (g:Pic) (q:Pic→Option (List ByteArray)):∀ (m j:Nat) (b:Bool),j ≤ (x0.getD i dS).2.1.length → (x0.getD i dS).2.1.length - j < m →
 f9.l4392 k x0 (i:Int) g (n:Int) q m (b,(j:Int))=if (b && rowOk (x0.getD i dS).2.1 j)=true then f9.l4419 k x0 (i:Int) (n:Int) q k (g,0) else q g
 | 0,j,b,_,h => by omega
 | m+1,j,b,hj,h => by
   have hlen:=hl _ (in_getD (d:=dS) hi)
   rw [f9.l4392]
   simp only [Int.toNat_natCast]
   have ed:x0.getD i ((0:Int),(([]:List (Int × Int)),((⟨#[]⟩:ByteArray),((0:Int),(0:Int)))))=x0.getD i dS:=rfl
   have ep:∀ (l:List (Int × Int)) (u:Nat),l.getD u ((0:Int),(0:Int))=l.getD u dPt:=fun _ _ => rfl
   simp only [ed,ep]
   by_cases hlt:j < (x0.getD i dS).2.1.length
   ·rw [if_t (decide_eq_true (by omega)),if_t ⟨by omega,by omega⟩,Option.bind_some,ptOk_and,wrap_s (by omega),chk_i i hi g q m (j+1) _ (by omega) (by omega),rowOk_step hlt,Bool.and_assoc]
   ·rw [if_f (fun h => by have:=of_decide_eq_true h; omega),rowOk_end (by omega)]
    cases b <;> rfl
theorem stk_s:∀ (m i:Nat) (g:Pic),Pok n g→i≤x0.length→x0.length - i < m →
 f7.l2974 k x0 (n:Int) m (g,(i:Int))=f7.l5566 k (n:Int) (strokes n (x0.drop i) g) k ([],0)
 | 0,i,g,_,_,h => by omega
 | m+1,i,g,hg,hi,h => by
   rw [f7.l2974]
   simp only [Int.toNat_natCast]
   have ed:x0.getD i ((0:Int),(([]:List (Int × Int)),((⟨#[]⟩:ByteArray),((0:Int),(0:Int)))))=x0.getD i dS:=rfl
   simp only [ed]
   by_cases hlt:i < x0.length
   ·have hlen:=hl _ (in_getD (d:=dS) hlt)
    rw [if_t (by simpa using hlt),if_t ⟨by omega,by omega⟩,getD_drop' (d:=dS) hlt,strokes]
    cases hE:(ByteArray.toList (x0.getD i dS).2.2.1 == ByteArray.toList (⟨#[]⟩:ByteArray)) with
    | true =>
      have hok:stkOk (x0.getD i dS)=false:=by unfold stkOk; rw [hE]; rfl
      rw [if_f (by decide),Option.bind_some,if_t (by rfl),hok,if_f (by decide)]
      unfold f7.j5118
      rw [wrap_s (by omega)]
      exact stk_s m (i+1) g hg (by omega) (by omega)
    | false =>
      rw [if_t rfl,e29 k hk _ hlen,Option.bind_some]
      cases hr:rowOk (x0.getD i dS).2.1 0 with
      | false =>
        have hok:stkOk (x0.getD i dS)=false:=by unfold stkOk; rw [hr,Bool.and_false]
        rw [if_t (by rfl),hok,if_f (by decide)]
        unfold f7.j5118
        rw [wrap_s (by omega)]
        exact stk_s m (i+1) g hg (by omega) (by omega)
      | true =>
        have hok:stkOk (x0.getD i dS)=true:=by unfold stkOk; rw [hE,hr]; rfl
        have hs:=size_pos (s:=(x0.getD i dS).2.2.1) (by rw [hE]; rfl)
        rw [if_f (by decide),hok,if_t rfl]
        have:=pts_s k hk hn hn2 x0 i hs hlen (all_in hr) (f7.j5118 k (i:Int) ((f7.l2974 k x0 (n:Int)) m)) (x0.getD i dS).2.1.length k 0 g hg (by omega) (by omega)
        refine Eq.trans this ?_
        unfold f7.j5118
        rw [wrap_s (by omega)]
        exact stk_s m (i+1) _ (drawPs_ok k hk hn hn2 _ _ _ hg) (by omega) (by omega)
   ·rw [if_f (by simpa using hlt),List.drop_eq_nil_of_le (by omega),strokes]
theorem stk_i:∀ (m i:Nat) (g:Pic),Pok n g→i≤x0.length→x0.length - i < m →
 f9.l2410 k x0 (n:Int) m (g,(i:Int))=f9.l4774 k (strokes n (x0.drop i) g) k ((List.replicate n (⟨#[]⟩:ByteArray)),0)
 | 0,i,g,_,_,h => by omega
 | m+1,i,g,hg,hi,h => by
   rw [f9.l2410]
   simp only [Int.toNat_natCast]
   have ed:x0.getD i ((0:Int),(([]:List (Int × Int)),((⟨#[]⟩:ByteArray),((0:Int),(0:Int)))))=x0.getD i dS:=rfl
   simp only [ed]
   by_cases hlt:i < x0.length
   ·have hlen:=hl _ (in_getD (d:=dS) hlt)
    rw [if_t (by simpa using hlt),if_t ⟨by omega,by omega⟩,getD_drop' (d:=dS) hlt,strokes]
    have hc:=chk_i k hk hn hn2 x0 hx hl i hlt g (f9.j4364 k (i:Int) ((f9.l2410 k x0 (n:Int)) m)) k 0 (!(ByteArray.toList (x0.getD i dS).2.2.1 == ByteArray.toList (⟨#[]⟩:ByteArray))) (by omega) (by omega)
    refine Eq.trans hc ?_
    cases hok:stkOk (x0.getD i dS) with
    | false =>
      have hok':=hok
      unfold stkOk at hok'
      rw [hok',if_f (by decide),if_f (by decide)]
      unfold f9.j4364
      rw [wrap_s (by omega)]
      exact stk_i m (i+1) g hg (by omega) (by omega)
    | true =>
      have hok':=hok
      unfold stkOk at hok'
      rw [hok',if_t rfl,if_t rfl]
      rw [Bool.and_eq_true] at hok'
      have:=pts_i k hk hn hn2 x0 i (size_pos hok'.1) hlen (all_in hok'.2) (f9.j4364 k (i:Int) ((f9.l2410 k x0 (n:Int)) m)) (x0.getD i dS).2.1.length k 0 g hg (by omega) (by omega)
      refine Eq.trans this ?_
      unfold f9.j4364
      rw [wrap_s (by omega)]
      exact stk_i m (i+1) _ (drawPs_ok k hk hn hn2 _ _ _ hg) (by omega) (by omega)
   ·rw [if_f (by simpa using hlt),if_t ⟨by omega,by omega⟩,List.drop_eq_nil_of_le (by omega),strokes]
theorem strokes_ok:∀ (ss:List Stk) (g:Pic),Pok n g→Pok n (strokes n ss g)
 | [],g,h => h
 | s :: ss,g,h => by
   unfold strokes
   apply strokes_ok ss
   split
   ·exact drawPs_ok k hk hn hn2 _ _ _ h
   ·exact h
theorem out_s (g:Pic) (hg:Pok n g):∀ (m i:Nat) (acc:List ByteArray),acc = (g.take i).map strOfNums→i≤n→n - i < m→f7.l5566 k (n:Int) g m (acc,(i:Int))=some (g.map strOfNums)
 | 0,i,acc,_,_,h => by omega
 | m+1,i,acc,ha,hi,h => by
   have hgl:=hg.1
   rw [f7.l5566]
   by_cases hlt:i < n
   ·have hal:acc.length=i:=by rw [ha]; simp; omega
    rw [if_t (by simpa using hlt),if_t ⟨by omega,by omega⟩,if_t (by simp; omega),wrap_s (by omega),Int.toNat_natCast]
    refine out_s g hg m (i+1) _ ?_ (by omega) (by omega)
    rw [ha,List.take_succ_eq_append_getElem (by omega),List.map_append,List.getD_eq_getElem?_getD,List.getElem?_eq_getElem (by omega)]
    rfl
   ·rw [if_f (by simpa using hlt),ha,List.take_of_length_le (by omega)]
theorem out_i (g:Pic) (hg:Pok n g):∀ (m i:Nat) (acc:List ByteArray),acc.length=n→acc.take i = (g.take i).map strOfNums→i≤n→n - i < m→f9.l4774 k g m (acc,(i:Int))=some (g.map strOfNums)
 | 0,i,acc,_,_,_,h => by omega
 | m+1,i,acc,hal,ha,hi,h => by
   have hgl:=hg.1
   rw [f9.l4774]
   by_cases hlt:i < n
   ·rw [if_t (decide_eq_true (by omega)),if_t ⟨by omega,by omega⟩,if_t ⟨by omega,by omega⟩,wrap_s (by omega),Int.toNat_natCast]
    refine out_i g hg m (i+1) _ (by rw [List.length_set]; exact hal) ?_ (by omega) (by omega)
    rw [List.take_succ_eq_append_getElem (by rw [List.length_set]; omega),List.take_succ_eq_append_getElem (by omega),List.map_append,List.take_set_of_le (Nat.le_refl i),ha,List.getElem_set_self,List.getD_eq_getElem?_getD,List.getElem?_eq_getElem (by omega)]
    rfl
   ·rw [if_f (fun h => by have:=of_decide_eq_true h; omega)]
    rw [List.take_of_length_le (by omega),List.take_of_length_le (by omega)] at ha
    rw [ha]
end
end Go.Proofs.Ytgfekidehbancaa
end
section
set_option linter.unusedVariables false
set_option linter.unusedSimpArgs false
set_option linter.unusedSectionVars false
namespace Go.Proofs.Ytgfekidehbancaa
open Go Go.Vm Go.Proofs V
def base (n:Nat):Pic:=List.replicate n (List.replicate n (32:Int))
theorem base_ok (n:Nat):Pok n (base n):=⟨by simp [base],fun r hr => by rw [List.eq_of_mem_replicate hr]; simp⟩
theorem take_set_rep {α:Type} {l:List α} {i:Nat} {x:α} (hi:i < l.length) (h:l.take i=List.replicate i x):(l.set i x).take (i+1)=List.replicate (i+1) x:=by
 rw [List.take_succ_eq_append_getElem (by rw [List.length_set]; exact hi),List.take_set_of_le (Nat.le_refl i),h,List.getElem_set_self,List.replicate_succ']
theorem rep_nums (n:Nat):strNums (repB ⟨#[32]⟩ n)=List.replicate n (32:Int):=by
 unfold strNums repB
 simp only
 induction n with
 | zero => rfl
 | succ n ih =>
   rw [List.replicate_succ,← ih]
   rfl
section
variable (k:Nat) (hk:1048576 < k) {n:Nat} (hn:0 < n) (hn2:n≤256) (x0:List Stk) (hx:x0.length≤1048576) (hl:∀ s ∈ x0,s.2.1.length≤1048576)
include hk hn hn2 hx hl
theorem row_s (acc:Pic) (i:Nat) (hacc:acc.length≤1048576) (hi:i < 1048576) (q:(Pic × Int)→Option (List ByteArray)):∀ (m j:Nat) (row:List Int),row.length=n→row.take j=List.replicate j 32→j≤n→n - j < m →
 f7.l386 k (n:Int) acc (i:Int) q m (row,(j:Int))=q (acc ++ [List.replicate n 32],((i+1:Nat):Int))
 | 0,j,row,_,_,_,h => by omega
 | m+1,j,row,hr,ht,hj,h => by
   rw [f7.l386]
   by_cases hlt:j < n
   ·rw [if_t (by simpa using hlt),if_t ⟨by omega,by omega⟩,wrap_s (by omega),Int.toNat_natCast]
    exact row_s acc i hacc hi q m (j+1) _ (by rw [List.length_set]; exact hr) (take_set_rep (by omega) ht) (by omega) (by omega)
   ·have:j=n:=by omega
    rw [this,List.take_of_length_le (by omega)] at ht
    rw [if_f (by simpa using hlt),if_t (by simp; omega),ht,wrap_s (by omega)]
theorem base_s:∀ (m i:Nat) (acc:Pic),acc=List.replicate i (List.replicate n (32:Int))→i≤n→n - i < m→f7.l202 k (n:Int) x0 m (acc,(i:Int))=f7.l2974 k x0 (n:Int) k (base n,0)
 | 0,i,acc,_,_,h => by omega
 | m+1,i,acc,ha,hi,h => by
   rw [f7.l202]
   by_cases hlt:i < n
   ·rw [if_t (by simpa using hlt),if_t ⟨by omega,by omega⟩,Int.toNat_natCast]
    have:=row_s k hk hn hn2 x0 hx hl acc i (by rw [ha]; simp; omega) (by omega) (f7.l202 k (n:Int) x0 m) k 0 (List.replicate n 0) (by simp) (by simp) (by omega) (by omega)
    refine Eq.trans this ?_
    exact base_s m (i+1) _ (by rw [ha,List.replicate_succ']) (by omega) (by omega)
   ·have:i=n:=by omega
    rw [if_f (by simpa using hlt),ha,this]
    rfl
theorem base_i:∀ (m i:Nat) (acc:Pic),acc.length=n→acc.take i=List.replicate i (List.replicate n (32:Int))→i≤n→n - i < m→f9.l34 k (n:Int) x0 m (acc,(i:Int))=f9.l2410 k x0 (n:Int) k (base n,0)
 | 0,i,acc,_,_,_,h => by omega
 | m+1,i,acc,hal,ha,hi,h => by
   rw [f9.l34]
   simp only [Int.toNat_natCast,List.length_replicate]
   by_cases hlt:i < n
   ·have e34:f34 k (⟨#[32]⟩:ByteArray) (n:Int)=some (repB ⟨#[32]⟩ n):=by
     unfold f34
     rw [if_pos ⟨by omega,by omega,by show 1*n≤_; omega⟩]
     rfl
    have hsz:ByteArray.size (repB ⟨#[32]⟩ n)=n:=by rw [← strNums_len,rep_nums]; simp
    rw [if_t (by simpa using hlt),e34,Option.bind_some,if_t (by rw [hsz]; omega),if_t ⟨by omega,by omega⟩,wrap_s (by omega),rep_nums]
    exact base_i m (i+1) _ (by rw [List.length_set]; exact hal) (take_set_rep (by omega) ha) (by omega) (by omega)
   ·have:i=n:=by omega
    rw [this,List.take_of_length_le (by omega)] at ha
    rw [if_f (by simpa using hlt),ha]
    rfl
end
theorem pic_two (k:Nat) (hk:1048576 < k) (x0:List Stk) (hx:x0.length≤1048576) (hl:∀ s ∈ x0,s.2.1.length≤1048576) (x1:Int) :
 ∃ r:List ByteArray,f7 k x0 x1=some r∧f9 k x0 x1=some r∧r.length≤1048576∧∀ s ∈ r,s.size≤1048576:=by
 unfold f7 f9
 by_cases hc:(bif (bif (decide ((x1:Int) < (1:Int))) then true else (decide ((x1:Int) > (256:Int)))) then true else (decide (((List.length x0:Int):Int) > (2000:Int))))=true
 ·rw [if_t hc,if_t hc]
  exact ⟨[],rfl,rfl,by simp,fun s hs => by simp at hs⟩
 ·rw [if_f hc,if_f hc]
  have h1:1≤x1∧x1≤256:=by
   by_cases p1:x1 < 1 <;> by_cases p2:x1 > 256 <;> simp [p1,p2] at hc ⊢ <;> omega
  obtain ⟨n,rfl⟩:∃ n:Nat,x1 = (n:Int):=⟨x1.toNat,by omega⟩
  have hn:0 < n:=by omega
  have hn2:n≤256:=by omega
  have hg:=strokes_ok k hk hn hn2 x0 hx hl x0 (base n) (base_ok n)
  have s1:=base_s k hk hn hn2 x0 hx hl k 0 [] rfl (by omega) (by omega)
  have s2:=stk_s k hk hn hn2 x0 hx hl k 0 (base n) (base_ok n) (by omega) (by omega)
  have s3:=out_s k hk hn hn2 x0 hx hl (strokes n x0 (base n)) hg k 0 [] (by simp) (by omega) (by omega)
  have i1:=base_i k hk hn hn2 x0 hx hl k 0 (List.replicate n []) (by simp) (by simp) (by omega) (by omega)
  have i2:=stk_i k hk hn hn2 x0 hx hl k 0 (base n) (base_ok n) (by omega) (by omega)
  have i3:=out_i k hk hn hn2 x0 hx hl (strokes n x0 (base n)) hg k 0 (List.replicate n (⟨#[]⟩:ByteArray)) (by simp) (by simp) (by omega) (by omega)
  rw [List.drop_zero] at s2 i2
  refine ⟨(strokes n x0 (base n)).map strOfNums,(s1.trans s2).trans s3,?_,by rw [List.length_map,hg.1]; omega,fun s hs => ?_⟩
  ·rw [if_t ⟨by omega,by omega⟩]
   exact (i1.trans i2).trans i3
  ·obtain ⟨r,hr,rfl⟩:=List.mem_map.1 hs
   rw [strOfNums_size,hg.2 r hr]; omega
theorem law3 (x0:List Stk) (w0:Sh.wf (.sl false 58 (.st (.pair (.int .i64) (.pair (.sl false 137 (.st (.pair (.int .i64) (.int .i64)))) (.pair .str (.pair (.int .i64) (.int .i64))))))) x0) (x1:Int) (w1:Sh.wf (.int .i64) x1):∃ k,f3 k x0 x1=some true:=by
 refine ⟨1048577,?_⟩
 have hk:1048576 < 1048577:=by decide
 unfold f3
 obtain ⟨r,q1,q2,q3⟩:=sz6 1048577 hk x0 w0 1048576 (by decide) (by decide)
 have q1':f6 1048577 x0 1048576=some r:=q1
 rw [q1',Option.bind_some]
 by_cases hr:r < 0
 ·rw [if_t (by simpa using hr)]
 rw [if_f (by simpa using hr)]
 have hb:=q3 (by omega)
 obtain ⟨v,v1,v2,v3,v4⟩:=pic_two _ hk x0 hb.1 (fun s hs => (hb.2 s hs).2.1.1) x1
 have hbv:Sh.bd (.sl false 24 .str) v:=⟨v3,v4⟩
 obtain ⟨c,g',p1,_,p3,p4⟩:=mk12 1048577 hk x0 hb 1 (by decide) (by decide)
 have p1':f12 1048577 x0 1=some (c,g'):=p1
 obtain ⟨d,y,m1,m2,m3,m4⟩:=mk13 1048577 hk v hbv 1 (by decide) (by decide)
 have m1':f13 1048577 v 1=some (d,y):=m1
 have h1':f14 1048577 y 1=some d:=hd14 1048577 hk 1 y d (by decide) m3 (by omega) m2
 have c1:decide ((c:Int) < 0)=false:=by simp; omega
 have d1:decide ((d:Int) < 0)=false:=by simp; omega
 have e8:=to8 _ hk x0 hb
 have e10:=eq10 _ hk v hbv
 have e11:=eq11 _ hk x0 hb
 simp only [e8,v1,v2,e10,e11,p1',m1',h1',c1,d1,Option.bind_some]
 simp
end Go.Proofs.Ytgfekidehbancaa
end
