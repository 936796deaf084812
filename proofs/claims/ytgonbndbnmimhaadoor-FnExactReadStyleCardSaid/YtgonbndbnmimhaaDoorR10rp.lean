/-
  THE PLUMBING OF A LAW'S FUNCTIONS, PRINTED BY A PROGRAM OF THIS PROJECT (wip/gen/plumb.py).
-/
import Derived.Test.YtgonbndbnmimhaaDoorR10r
import Derived.Test.YtgonbndbnmimhaaDoorLawB
import Derived.Test.YtgonbndbnmimhaaDoorLawC
import Derived.Test.YtgonbndbnmimhaaDoorVmU
set_option linter.unusedVariables false
set_option linter.unusedSimpArgs false
open Go Go.Vm Go.Proofs
namespace Go.Proofs.YtgonbndbnmimhaaDoor.V
/- laws.eqTest -/
theorem eq55 (k:Nat) (hk:1048576 < k) (x:(ByteArray × (Int × ByteArray))) (h:Sh.bd (.st (.pair .str (.pair (.int .i64) .str))) x):f55 k x x=some true:=by
 unfold f55
 simp []
/- laws.eqTestS -/
theorem eq43 (k:Nat) (hk:1048576 < k) (x:(List (ByteArray × (Int × ByteArray)))) (h:Sh.bd (.sl false 53 (.st (.pair .str (.pair (.int .i64) .str)))) x):f43 k x x=some true:=by
 unfold f43
 exact eqRow (e:=fun a b => f55 k a b) hk (f43.l30 k x x) (fun _ _ => rfl) h.1 (fun y hy => eq55 k hk y (h.2 y hy))
/- laws.eqRule -/
theorem eq18 (k:Nat) (hk:1048576 < k) (x:(Int × (Int × ((List (ByteArray × (Int × ByteArray))) × (Bool × (ByteArray × (Int × Int))))))) (h:Sh.bd (.st (.pair (.int .i64) (.pair (.int .i64) (.pair (.sl false 53 (.st (.pair .str (.pair (.int .i64) .str)))) (.pair .bool (.pair .str (.pair (.int .i64) (.int .i64)))))))) x):f18 k x x=some true:=by
 unfold f18
 simp [eq43 k hk x.2.2.1 h.2.2.1]
/- laws.eqRuleS -/
theorem eq7 (k:Nat) (hk:1048576 < k) (x:(List (Int × (Int × ((List (ByteArray × (Int × ByteArray))) × (Bool × (ByteArray × (Int × Int)))))))) (h:Sh.bd (.sl false 37 (.st (.pair (.int .i64) (.pair (.int .i64) (.pair (.sl false 53 (.st (.pair .str (.pair (.int .i64) .str)))) (.pair .bool (.pair .str (.pair (.int .i64) (.int .i64))))))))) x):f7 k x x=some true:=by
 unfold f7
 exact eqRow (e:=fun a b => f18 k a b) hk (f7.l30 k x x) (fun _ _ => rfl) h.1 (fun y hy => eq18 k hk y (h.2 y hy))
/- laws.markText -/
theorem tx20_go (k:Nat):∀ (d m n:Nat) (s:ByteArray),n < 10 ^ d→d < m→n < 9223372036854775807→s.size+d≤1000→∃ t,f20.l19 k m ((n:Int),s)=some t
 | 0,m,n,s,h1,hm,h3,h2 => by
   obtain ⟨m,rfl⟩:∃ q,m=q+1:=⟨m - 1,by omega⟩
   obtain rfl:n=0:=by omega
   rw [f20.l19,if_f (by decide),if_t (by rw [show (⟨#[109]⟩:ByteArray).size=1 from rfl]; omega)]
   exact ⟨_,rfl⟩
 | d+1,m,n,s,h1,hm,h3,h2 => by
   obtain ⟨m,rfl⟩:∃ q,m=q+1:=⟨m - 1,by omega⟩
   rw [f20.l19]
   by_cases h0:(n:Int) > 0
   ·have e:Int.tdiv (n:Int) 10 = ((n / 10:Nat):Int):=by rw [Int.tdiv_eq_ediv_of_nonneg (by omega)]; omega
    have z:∀ n,(strOfNums [n]).size=1:=fun _ => rfl
    rw [if_t (by simpa using h0),if_t (by decide),if_t (by rw [z]; omega),if_t (by decide),e,wrap_in (by omega) (by omega)]
    exact tx20_go k d m (n / 10) _ (by rw [Nat.pow_succ] at h1; omega) (by omega) (by omega) (by rw [ByteArray.size_append,z]; omega)
   ·rw [if_f (by simpa using h0),if_t (by rw [show (⟨#[109]⟩:ByteArray).size=1 from rfl]; omega)]
    exact ⟨_,rfl⟩
theorem tx20 (k:Nat) (hk:1048576 < k) (x:Int) (h0:0≤x) (h1:x≤9223372036854775000):∃ t,f20 k x=some t:=by
 unfold f20
 by_cases h:x≤0
 ·rw [if_t (by simpa using h)]; exact ⟨_,rfl⟩
 ·rw [if_f (by simpa using h)]
  obtain ⟨n,rfl⟩:∃ n:Nat,x=n:=⟨x.toNat,by omega⟩
  exact tx20_go k 19 k n _ (by omega) (by omega) (by omega) (by decide)
def ETestS (k:Nat) (v:Int) (b:(ByteArray × (Int × ByteArray))) (c:Int):Prop:=(f20 k (v)=some b.1) ∧ (b.2.1=v+1) ∧ (f20 k (v+1+1)=some b.2.2)∧c=v+1+1+1
abbrev KTestS (k:Nat):Int → (List (ByteArray × (Int × ByteArray)))→Int→Prop:=RowR ((⟨#[]⟩:ByteArray),((0:Int),(⟨#[]⟩:ByteArray))) (ETestS k)
/- laws.markTestS -/
theorem mk19 (k:Nat) (hk:1048576 < k) (x:(List (ByteArray × (Int × ByteArray)))) (hx:Sh.bd (.sl false 53 (.st (.pair .str (.pair (.int .i64) .str)))) x):Mk (fun x v => f19 k x v) (KTestS k) 3145728 x:=by
 refine markRow (d:=((⟨#[]⟩:ByteArray),((0:Int),(⟨#[]⟩:ByteArray)))) (w:=3) hx.1 (L:=f19.l68 k) (by decide) (fun a ha v h0 h1 => ?_) (fun m xs v => by rw [f19.l68,if_f (by simp)]) hk (by decide)
 obtain ⟨t1,ht1⟩:=tx20 k hk (v) (by omega) (by omega)
 obtain ⟨t2,ht2⟩:=tx20 k hk (v+1+1) (by omega) (by omega)
 have z0:IntKind.i64.wrap (v+1)=v+1:=wrap_in (by omega) (by omega)
 have z1:IntKind.i64.wrap (v+1+1)=v+1+1:=wrap_in (by omega) (by omega)
 have z2:IntKind.i64.wrap (v+1+1+1)=v+1+1+1:=wrap_in (by omega) (by omega)
 refine ⟨v+1+1+1,(t1,v+1,t2),⟨ht1,rfl,ht2,rfl⟩,by omega,by omega,fun m i xs hi hl ha => ?_⟩
 have hc:decide ((i:Int) < (xs.length:Int))=true:=by simpa using hi
 have hb:(0:Int) ≤ (i:Int) ∧ (i:Int) < (xs.length:Int):=⟨by omega,by omega⟩
 have hxl:=hx.1
 have h3:((3:Int):Int)≠0:=by decide
 rw [f19.l68,if_t hc]
 simp only [if_t hb,if_t h3,List.length_set,Int.toNat_natCast,gd_set_eq,hi,List.set_set,Option.bind_some,ha,wrap_s (n:=i) (by omega),z0,z1,z2,ht1,ht2]
def ERuleS (k:Nat) (v:Int) (b:(Int × (Int × ((List (ByteArray × (Int × ByteArray))) × (Bool × (ByteArray × (Int × Int))))))) (c:Int):Prop:=∃ c1:Int,(b.1=v) ∧ (b.2.1=v+1) ∧ (KTestS k (v+1+1) b.2.2.1 c1∧v+1+1≤c1) ∧ (b.2.2.2.1 = ((Int.tmod (c1) (3:Int)) == (0:Int))) ∧ (f20 k (c1+1)=some b.2.2.2.2.1) ∧ (b.2.2.2.2.2.1=c1+1+1) ∧ (b.2.2.2.2.2.2=c1+1+1+1)∧c=c1+1+1+1+1
abbrev KRuleS (k:Nat):Int → (List (Int × (Int × ((List (ByteArray × (Int × ByteArray))) × (Bool × (ByteArray × (Int × Int)))))))→Int→Prop:=RowR ((0:Int),((0:Int),(([]:(List (ByteArray × (Int × ByteArray)))),(false,((⟨#[]⟩:ByteArray),((0:Int),(0:Int))))))) (ERuleS k)
/- laws.markRuleS -/
theorem mk8 (k:Nat) (hk:1048576 < k) (x:(List (Int × (Int × ((List (ByteArray × (Int × ByteArray))) × (Bool × (ByteArray × (Int × Int)))))))) (hx:Sh.bd (.sl false 37 (.st (.pair (.int .i64) (.pair (.int .i64) (.pair (.sl false 53 (.st (.pair .str (.pair (.int .i64) .str)))) (.pair .bool (.pair .str (.pair (.int .i64) (.int .i64))))))))) x):Mk (fun x v => f8 k x v) (KRuleS k) 3298541174784 x:=by
 refine markRow (d:=((0:Int),((0:Int),(([]:(List (ByteArray × (Int × ByteArray)))),(false,((⟨#[]⟩:ByteArray),((0:Int),(0:Int)))))))) (w:=3145734) hx.1 (L:=f8.l158 k) (by decide) (fun a ha v h0 h1 => ?_) (fun m xs v => by rw [f8.l158,if_f (by simp)]) hk (by decide)
 obtain ⟨c1,y1,q1,r1,l1,u1⟩:=mk19 k hk (a.2.2.1) (hx.2 a ha).2.2.1 (v+1+1) (by omega) (by omega)
 have p1:f19 k (a.2.2.1) (v+1+1)=some (c1,y1):=q1
 obtain ⟨t2,ht2⟩:=tx20 k hk (c1+1) (by omega) (by omega)
 have z0:IntKind.i64.wrap (v+1)=v+1:=wrap_in (by omega) (by omega)
 have z1:IntKind.i64.wrap (v+1+1)=v+1+1:=wrap_in (by omega) (by omega)
 have z2:IntKind.i64.wrap (c1+1)=c1+1:=wrap_in (by omega) (by omega)
 have z3:IntKind.i64.wrap (c1+1+1)=c1+1+1:=wrap_in (by omega) (by omega)
 have z4:IntKind.i64.wrap (c1+1+1+1)=c1+1+1+1:=wrap_in (by omega) (by omega)
 have z5:IntKind.i64.wrap (c1+1+1+1+1)=c1+1+1+1+1:=wrap_in (by omega) (by omega)
 refine ⟨c1+1+1+1+1,(v,v+1,y1,((Int.tmod (c1) (3:Int)) == (0:Int)),t2,c1+1+1,c1+1+1+1),⟨_,rfl,rfl,⟨r1,l1⟩,rfl,ht2,rfl,rfl,rfl⟩,by omega,by omega,fun m i xs hi hl ha => ?_⟩
 have hc:decide ((i:Int) < (xs.length:Int))=true:=by simpa using hi
 have hb:(0:Int) ≤ (i:Int) ∧ (i:Int) < (xs.length:Int):=⟨by omega,by omega⟩
 have hxl:=hx.1
 have h3:((3:Int):Int)≠0:=by decide
 rw [f8.l158,if_t hc]
 simp only [if_t hb,if_t h3,List.length_set,Int.toNat_natCast,gd_set_eq,hi,List.set_set,Option.bind_some,ha,wrap_s (n:=i) (by omega),z0,z1,z2,z3,z4,z5,ht2,p1]
/- laws.heldTestS -/
theorem hd21 (k:Nat) (hk:1048576 < k):Hd (fun y v => f21 k y v) (KTestS k):=by
 refine heldRow (d:=((⟨#[]⟩:ByteArray),((0:Int),(⟨#[]⟩:ByteArray)))) (L:=fun y => f21.l52 k y) (fun ys m i v c hi hl h0 h1 h2 hR => ?_) (fun ys m v => by rw [f21.l52,if_f (by simp)]) hk
 obtain ⟨e0,e1,e2,ec⟩:=hR
 have z0:IntKind.i64.wrap (v+1)=v+1:=wrap_in (by omega) (by omega)
 have z1:IntKind.i64.wrap (v+1+1)=v+1+1:=wrap_in (by omega) (by omega)
 have z2:IntKind.i64.wrap (v+1+1+1)=v+1+1+1:=wrap_in (by omega) (by omega)
 have hc:decide ((i:Int) < (ys.length:Int))=true:=by simpa using hi
 have hb:(0:Int) ≤ (i:Int) ∧ (i:Int) < (ys.length:Int):=⟨by omega,by omega⟩
 have h3:((3:Int):Int)≠0:=by decide
 subst ec
 rw [f21.l52,if_t hc]
 simp only [if_t hb,if_t h3,Int.toNat_natCast,Option.bind_some,z0,z1,z2,e0,e1,e2,wrap_s (n:=i) (by omega),bne_self_eq_false,beq_self_eq_true,Bool.not_true,Bool.false_eq_true,if_false]
/- laws.heldRuleS -/
theorem hd9 (k:Nat) (hk:1048576 < k):Hd (fun y v => f9 k y v) (KRuleS k):=by
 refine heldRow (d:=((0:Int),((0:Int),(([]:(List (ByteArray × (Int × ByteArray)))),(false,((⟨#[]⟩:ByteArray),((0:Int),(0:Int)))))))) (L:=fun y => f9.l82 k y) (fun ys m i v c hi hl h0 h1 h2 hR => ?_) (fun ys m v => by rw [f9.l82,if_f (by simp)]) hk
 obtain ⟨c1,e0,e1,k1,e3,e4,e5,e6,ec⟩:=hR
 have o1:=k1.2
 have z0:IntKind.i64.wrap (v+1)=v+1:=wrap_in (by omega) (by omega)
 have z1:IntKind.i64.wrap (v+1+1)=v+1+1:=wrap_in (by omega) (by omega)
 have z2:IntKind.i64.wrap (c1+1)=c1+1:=wrap_in (by omega) (by omega)
 have z3:IntKind.i64.wrap (c1+1+1)=c1+1+1:=wrap_in (by omega) (by omega)
 have z4:IntKind.i64.wrap (c1+1+1+1)=c1+1+1+1:=wrap_in (by omega) (by omega)
 have z5:IntKind.i64.wrap (c1+1+1+1+1)=c1+1+1+1+1:=wrap_in (by omega) (by omega)
 have r1:f21 k (List.getD ys i ((0:Int),((0:Int),(([]:(List (ByteArray × (Int × ByteArray)))),(false,((⟨#[]⟩:ByteArray),((0:Int),(0:Int)))))))).2.2.1 (v+1+1)=some c1:=hd21 k hk (v+1+1) _ c1 (by omega) (by omega) (by omega) k1.1
 have hh1:=k1.2
 have n1:¬ (decide ((c1:Int) < (0:Int))=true):=by simp; omega
 have hc:decide ((i:Int) < (ys.length:Int))=true:=by simpa using hi
 have hb:(0:Int) ≤ (i:Int) ∧ (i:Int) < (ys.length:Int):=⟨by omega,by omega⟩
 have h3:((3:Int):Int)≠0:=by decide
 subst ec
 rw [f9.l82,if_t hc]
 simp only [if_t hb,if_t h3,Int.toNat_natCast,Option.bind_some,z0,z1,z2,z3,z4,z5,e0,e1,e3,e4,e5,e6,r1,if_f n1,wrap_s (n:=i) (by omega),bne_self_eq_false,beq_self_eq_true,Bool.not_true,Bool.false_eq_true,if_false]
end Go.Proofs.YtgonbndbnmimhaaDoor.V
