/-
  Own texts of this project, joined. No condition.
-/
import Derived.Test.YtgfekidehbancaaR8r
import Derived.Test.YtgfekidehbancaaLawB
import Derived.Test.YtgfekidehbancaaLawC
import Derived.Test.YtgfekidehbancaaVmU
section
set_option linter.unusedVariables false
set_option linter.unusedSimpArgs false
open Go Go.Vm Go.Proofs
namespace Go.Proofs.Ytgfekidehbancaa.V
/- laws.toByteS -/
theorem to25 (k:Nat) (hk:1048576 < k) (x:(List Int)) (h:Sh.bd (.sl false 5 (.int .u8)) x):f25 k x=some x:=by
 unfold f25
 exact copyRow (g:=some) (z:=1) hk (f25.l22 k x) (fun _ _ _ => rfl) (by decide) h.1 (fun y hy => rfl)
/- laws.eqTile -/
theorem eq55 (k:Nat) (hk:1048576 < k) (x:(Int × (Int × Int))) (h:Sh.bd (.st (.pair (.int .i64) (.pair (.int .i64) (.int .i64)))) x):f55 k x x=some true:=by
 unfold f55
 simp []
/- laws.eqPoint -/
theorem eq95 (k:Nat) (hk:1048576 < k) (x:(Int × Int)) (h:Sh.bd (.st (.pair (.int .i64) (.int .i64))) x):f95 k x x=some true:=by
 unfold f95
 simp []
/- laws.eqPointS -/
theorem eq75 (k:Nat) (hk:1048576 < k) (x:(List (Int × Int))) (h:Sh.bd (.sl false 66 (.st (.pair (.int .i64) (.int .i64)))) x):f75 k x x=some true:=by
 unfold f75
 exact eqRow (e:=fun a b => f95 k a b) hk (f75.l30 k x x) (fun _ _ => rfl) h.1 (fun y hy => eq95 k hk y (h.2 y hy))
/- laws.eqTag -/
theorem eq105 (k:Nat) (hk:1048576 < k) (x:(ByteArray × ByteArray)) (h:Sh.bd (.st (.pair .str .str)) x):f105 k x x=some true:=by
 unfold f105
 simp []
/- laws.eqTagS -/
theorem eq100 (k:Nat) (hk:1048576 < k) (x:(List (ByteArray × ByteArray))) (h:Sh.bd (.sl false 128 (.st (.pair .str .str))) x):f100 k x x=some true:=by
 unfold f100
 exact eqRow (e:=fun a b => f105 k a b) hk (f100.l30 k x x) (fun _ _ => rfl) h.1 (fun y hy => eq105 k hk y (h.2 y hy))
/- laws.eqLine -/
theorem eq81 (k:Nat) (hk:1048576 < k) (x:(Int × ((List (Int × Int)) × (List (ByteArray × ByteArray))))) (h:Sh.bd (.st (.pair (.int .i64) (.pair (.sl false 66 (.st (.pair (.int .i64) (.int .i64)))) (.sl false 128 (.st (.pair .str .str)))))) x):f81 k x x=some true:=by
 unfold f81
 simp [eq75 k hk x.2.1 h.2.1,eq100 k hk x.2.2 h.2.2]
/- laws.eqLineS -/
theorem eq56 (k:Nat) (hk:1048576 < k) (x:(List (Int × ((List (Int × Int)) × (List (ByteArray × ByteArray)))))) (h:Sh.bd (.sl false 80 (.st (.pair (.int .i64) (.pair (.sl false 66 (.st (.pair (.int .i64) (.int .i64)))) (.sl false 128 (.st (.pair .str .str))))))) x):f56 k x x=some true:=by
 unfold f56
 exact eqRow (e:=fun a b => f81 k a b) hk (f56.l30 k x x) (fun _ _ => rfl) h.1 (fun y hy => eq81 k hk y (h.2 y hy))
/- laws.eqTileData -/
theorem eq20 (k:Nat) (hk:1048576 < k) (x:((Int × (Int × Int)) × (List (Int × ((List (Int × Int)) × (List (ByteArray × ByteArray))))))) (h:Sh.bd (.st (.pair (.st (.pair (.int .i64) (.pair (.int .i64) (.int .i64)))) (.sl false 80 (.st (.pair (.int .i64) (.pair (.sl false 66 (.st (.pair (.int .i64) (.int .i64)))) (.sl false 128 (.st (.pair .str .str))))))))) x):f20 k x x=some true:=by
 unfold f20
 simp [eq55 k hk x.1 h.1,eq56 k hk x.2 h.2]
/- laws.eqByteS -/
theorem eq19 (k:Nat) (hk:1048576 < k) (x:(List Int)) (h:Sh.bd (.sl false 5 (.int .u8)) x):f19 k x x=some true:=by
 unfold f19
 exact eqRow0 (ne:=fun (a b:Int) => a != b) hk (f19.l18 k x x) (fun _ _ => rfl) h.1 (fun y => by simp)
def EPointS (k:Nat) (v:Int) (b:(Int × Int)) (c:Int):Prop:=(b.1=v) ∧ (b.2=v+1)∧c=v+1+1
abbrev KPointS (k:Nat):Int → (List (Int × Int))→Int→Prop:=RowR ((0:Int),(0:Int)) (EPointS k)
/- laws.markPointS -/
theorem mk39 (k:Nat) (hk:1048576 < k) (x:(List (Int × Int))) (hx:Sh.bd (.sl false 66 (.st (.pair (.int .i64) (.int .i64)))) x):Mk (fun x v => f39 k x v) (KPointS k) 2097152 x:=by
 refine markRow (d:=((0:Int),(0:Int))) (w:=2) hx.1 (L:=f39.l26 k) (by decide) (fun a ha v h0 h1 => ?_) (fun m xs v => by rw [f39.l26,if_f (by simp)]) hk (by decide)
 have z0:IntKind.i64.wrap (v+1)=v+1:=wrap_in (by omega) (by omega)
 have z1:IntKind.i64.wrap (v+1+1)=v+1+1:=wrap_in (by omega) (by omega)
 refine ⟨v+1+1,(v,v+1),⟨rfl,rfl,rfl⟩,by omega,by omega,fun m i xs hi hl ha => ?_⟩
 have hc:decide ((i:Int) < (xs.length:Int))=true:=by simpa using hi
 have hb:(0:Int) ≤ (i:Int) ∧ (i:Int) < (xs.length:Int):=⟨by omega,by omega⟩
 have hxl:=hx.1
 have h3:((3:Int):Int)≠0:=by decide
 rw [f39.l26,if_t hc]
 simp only [if_t hb,if_t h3,List.length_set,Int.toNat_natCast,gd_set_eq,hi,List.set_set,Option.bind_some,ha,wrap_s (n:=i) (by omega),z0,z1]
/- laws.markText -/
theorem tx40_go (k:Nat):∀ (d m n:Nat) (s:ByteArray),n < 10 ^ d→d < m→n < 9223372036854775807→s.size+d≤1000→∃ t,f40.l19 k m ((n:Int),s)=some t
 | 0,m,n,s,h1,hm,h3,h2 => by
   obtain ⟨m,rfl⟩:∃ q,m=q+1:=⟨m - 1,by omega⟩
   obtain rfl:n=0:=by omega
   rw [f40.l19,if_f (by decide),if_t (by rw [show (⟨#[109]⟩:ByteArray).size=1 from rfl]; omega)]
   exact ⟨_,rfl⟩
 | d+1,m,n,s,h1,hm,h3,h2 => by
   obtain ⟨m,rfl⟩:∃ q,m=q+1:=⟨m - 1,by omega⟩
   rw [f40.l19]
   by_cases h0:(n:Int) > 0
   ·have e:Int.tdiv (n:Int) 10 = ((n / 10:Nat):Int):=by rw [Int.tdiv_eq_ediv_of_nonneg (by omega)]; omega
    have z:∀ n,(strOfNums [n]).size=1:=fun _ => rfl
    rw [if_t (by simpa using h0),if_t (by decide),if_t (by rw [z]; omega),if_t (by decide),e,wrap_in (by omega) (by omega)]
    exact tx40_go k d m (n / 10) _ (by rw [Nat.pow_succ] at h1; omega) (by omega) (by omega) (by rw [ByteArray.size_append,z]; omega)
   ·rw [if_f (by simpa using h0),if_t (by rw [show (⟨#[109]⟩:ByteArray).size=1 from rfl]; omega)]
    exact ⟨_,rfl⟩
theorem tx40 (k:Nat) (hk:1048576 < k) (x:Int) (h0:0≤x) (h1:x≤9223372036854775000):∃ t,f40 k x=some t:=by
 unfold f40
 by_cases h:x≤0
 ·rw [if_t (by simpa using h)]; exact ⟨_,rfl⟩
 ·rw [if_f (by simpa using h)]
  obtain ⟨n,rfl⟩:∃ n:Nat,x=n:=⟨x.toNat,by omega⟩
  exact tx40_go k 19 k n _ (by omega) (by omega) (by omega) (by decide)
def ETagS (k:Nat) (v:Int) (b:(ByteArray × ByteArray)) (c:Int):Prop:=(f40 k (v)=some b.1) ∧ (f40 k (v+1)=some b.2)∧c=v+1+1
abbrev KTagS (k:Nat):Int → (List (ByteArray × ByteArray))→Int→Prop:=RowR ((⟨#[]⟩:ByteArray),(⟨#[]⟩:ByteArray)) (ETagS k)
/- laws.markTagS -/
theorem mk82 (k:Nat) (hk:1048576 < k) (x:(List (ByteArray × ByteArray))) (hx:Sh.bd (.sl false 128 (.st (.pair .str .str))) x):Mk (fun x v => f82 k x v) (KTagS k) 2097152 x:=by
 refine markRow (d:=((⟨#[]⟩:ByteArray),(⟨#[]⟩:ByteArray))) (w:=2) hx.1 (L:=f82.l50 k) (by decide) (fun a ha v h0 h1 => ?_) (fun m xs v => by rw [f82.l50,if_f (by simp)]) hk (by decide)
 obtain ⟨t1,ht1⟩:=tx40 k hk (v) (by omega) (by omega)
 obtain ⟨t2,ht2⟩:=tx40 k hk (v+1) (by omega) (by omega)
 have z0:IntKind.i64.wrap (v+1)=v+1:=wrap_in (by omega) (by omega)
 have z1:IntKind.i64.wrap (v+1+1)=v+1+1:=wrap_in (by omega) (by omega)
 refine ⟨v+1+1,(t1,t2),⟨ht1,ht2,rfl⟩,by omega,by omega,fun m i xs hi hl ha => ?_⟩
 have hc:decide ((i:Int) < (xs.length:Int))=true:=by simpa using hi
 have hb:(0:Int) ≤ (i:Int) ∧ (i:Int) < (xs.length:Int):=⟨by omega,by omega⟩
 have hxl:=hx.1
 have h3:((3:Int):Int)≠0:=by decide
 rw [f82.l50,if_t hc]
 simp only [if_t hb,if_t h3,List.length_set,Int.toNat_natCast,gd_set_eq,hi,List.set_set,Option.bind_some,ha,wrap_s (n:=i) (by omega),z0,z1,ht1,ht2]
def ELineS (k:Nat) (v:Int) (b:(Int × ((List (Int × Int)) × (List (ByteArray × ByteArray))))) (c:Int):Prop:=∃ c1:Int,∃ c2:Int,(b.1=v) ∧ (KPointS k (v+1) b.2.1 c1∧v+1≤c1) ∧ (KTagS k (c1) b.2.2 c2∧c1≤c2)∧c=c2
abbrev KLineS (k:Nat):Int → (List (Int × ((List (Int × Int)) × (List (ByteArray × ByteArray)))))→Int→Prop:=RowR ((0:Int),(([]:(List (Int × Int))),([]:(List (ByteArray × ByteArray))))) (ELineS k)
/- laws.markLineS -/
theorem mk57 (k:Nat) (hk:1048576 < k) (x:(List (Int × ((List (Int × Int)) × (List (ByteArray × ByteArray)))))) (hx:Sh.bd (.sl false 80 (.st (.pair (.int .i64) (.pair (.sl false 66 (.st (.pair (.int .i64) (.int .i64)))) (.sl false 128 (.st (.pair .str .str))))))) x):Mk (fun x v => f57 k x v) (KLineS k) 4398047559680 x:=by
 refine markRow (d:=((0:Int),(([]:(List (Int × Int))),([]:(List (ByteArray × ByteArray)))))) (w:=4194305) hx.1 (L:=f57.l68 k) (by decide) (fun a ha v h0 h1 => ?_) (fun m xs v => by rw [f57.l68,if_f (by simp)]) hk (by decide)
 obtain ⟨c1,y1,q1,r1,l1,u1⟩:=mk39 k hk (a.2.1) (hx.2 a ha).2.1 (v+1) (by omega) (by omega)
 have p1:f39 k (a.2.1) (v+1)=some (c1,y1):=q1
 obtain ⟨c2,y2,q2,r2,l2,u2⟩:=mk82 k hk (a.2.2) (hx.2 a ha).2.2 (c1) (by omega) (by omega)
 have p2:f82 k (a.2.2) (c1)=some (c2,y2):=q2
 have z0:IntKind.i64.wrap (v+1)=v+1:=wrap_in (by omega) (by omega)
 refine ⟨c2,(v,y1,y2),⟨_,_,rfl,⟨r1,l1⟩,⟨r2,l2⟩,rfl⟩,by omega,by omega,fun m i xs hi hl ha => ?_⟩
 have hc:decide ((i:Int) < (xs.length:Int))=true:=by simpa using hi
 have hb:(0:Int) ≤ (i:Int) ∧ (i:Int) < (xs.length:Int):=⟨by omega,by omega⟩
 have hxl:=hx.1
 have h3:((3:Int):Int)≠0:=by decide
 rw [f57.l68,if_t hc]
 simp only [if_t hb,if_t h3,List.length_set,Int.toNat_natCast,gd_set_eq,hi,List.set_set,Option.bind_some,ha,wrap_s (n:=i) (by omega),z0,p1,p2]
def KTileData (k:Nat) (v:Int) (b:((Int × (Int × Int)) × (List (Int × ((List (Int × Int)) × (List (ByteArray × ByteArray))))))) (c:Int):Prop:=∃ c1:Int,(KLineS k v b.2 c1∧v≤c1)∧c=c1
/- laws.markTileData -/
theorem mk21 (k:Nat) (hk:1048576 < k) (x:((Int × (Int × Int)) × (List (Int × ((List (Int × Int)) × (List (ByteArray × ByteArray))))))) (hx:Sh.bd (.st (.pair (.st (.pair (.int .i64) (.pair (.int .i64) (.int .i64)))) (.sl false 80 (.st (.pair (.int .i64) (.pair (.sl false 66 (.st (.pair (.int .i64) (.int .i64)))) (.sl false 128 (.st (.pair .str .str))))))))) x):Mk (fun x v => f21 k x v) (KTileData k) 4398047559680 x:=by
 intro v h0 h1
 obtain ⟨c1,y1,q1,r1,l1,u1⟩:=mk57 k hk x.2 hx.2 v (by omega) (by omega)
 have p1:f57 k x.2 v=some (c1,y1):=q1
 refine ⟨c1,(x.1,y1),?_,⟨_,⟨r1,l1⟩,rfl⟩,by omega,by omega⟩
 show f21 k x v=_
 unfold f21
 simp only [p1,Option.bind_some]
/- laws.heldPointS -/
theorem hd87 (k:Nat) (hk:1048576 < k):Hd (fun y v => f87 k y v) (KPointS k):=by
 refine heldRow (d:=((0:Int),(0:Int))) (L:=fun y => f87.l22 k y) (fun ys m i v c hi hl h0 h1 h2 hR => ?_) (fun ys m v => by rw [f87.l22,if_f (by simp)]) hk
 obtain ⟨e0,e1,ec⟩:=hR
 have z0:IntKind.i64.wrap (v+1)=v+1:=wrap_in (by omega) (by omega)
 have z1:IntKind.i64.wrap (v+1+1)=v+1+1:=wrap_in (by omega) (by omega)
 have hc:decide ((i:Int) < (ys.length:Int))=true:=by simpa using hi
 have hb:(0:Int) ≤ (i:Int) ∧ (i:Int) < (ys.length:Int):=⟨by omega,by omega⟩
 have h3:((3:Int):Int)≠0:=by decide
 subst ec
 rw [f87.l22,if_t hc]
 simp only [if_t hb,if_t h3,Int.toNat_natCast,Option.bind_some,z0,z1,e0,e1,wrap_s (n:=i) (by omega),bne_self_eq_false,beq_self_eq_true,Bool.not_true,Bool.false_eq_true,if_false]
/- laws.heldTagS -/
theorem hd88 (k:Nat) (hk:1048576 < k):Hd (fun y v => f88 k y v) (KTagS k):=by
 refine heldRow (d:=((⟨#[]⟩:ByteArray),(⟨#[]⟩:ByteArray))) (L:=fun y => f88.l46 k y) (fun ys m i v c hi hl h0 h1 h2 hR => ?_) (fun ys m v => by rw [f88.l46,if_f (by simp)]) hk
 obtain ⟨e0,e1,ec⟩:=hR
 have z0:IntKind.i64.wrap (v+1)=v+1:=wrap_in (by omega) (by omega)
 have z1:IntKind.i64.wrap (v+1+1)=v+1+1:=wrap_in (by omega) (by omega)
 have hc:decide ((i:Int) < (ys.length:Int))=true:=by simpa using hi
 have hb:(0:Int) ≤ (i:Int) ∧ (i:Int) < (ys.length:Int):=⟨by omega,by omega⟩
 have h3:((3:Int):Int)≠0:=by decide
 subst ec
 rw [f88.l46,if_t hc]
 simp only [if_t hb,if_t h3,Int.toNat_natCast,Option.bind_some,z0,z1,e0,e1,wrap_s (n:=i) (by omega),bne_self_eq_false,beq_self_eq_true,Bool.not_true,Bool.false_eq_true,if_false]
/- laws.heldLineS -/
theorem hd66 (k:Nat) (hk:1048576 < k):Hd (fun y v => f66 k y v) (KLineS k):=by
 refine heldRow (d:=((0:Int),(([]:(List (Int × Int))),([]:(List (ByteArray × ByteArray)))))) (L:=fun y => f66.l52 k y) (fun ys m i v c hi hl h0 h1 h2 hR => ?_) (fun ys m v => by rw [f66.l52,if_f (by simp)]) hk
 obtain ⟨c1,c2,e0,k1,k2,ec⟩:=hR
 have o1:=k1.2
 have o2:=k2.2
 have z0:IntKind.i64.wrap (v+1)=v+1:=wrap_in (by omega) (by omega)
 have r1:f87 k (List.getD ys i ((0:Int),(([]:(List (Int × Int))),([]:(List (ByteArray × ByteArray)))))).2.1 (v+1)=some c1:=hd87 k hk (v+1) _ c1 (by omega) (by omega) (by omega) k1.1
 have hh1:=k1.2
 have n1:¬ (decide ((c1:Int) < (0:Int))=true):=by simp; omega
 have r2:f88 k (List.getD ys i ((0:Int),(([]:(List (Int × Int))),([]:(List (ByteArray × ByteArray)))))).2.2 (c1)=some c2:=hd88 k hk (c1) _ c2 (by omega) (by omega) (by omega) k2.1
 have hh2:=k2.2
 have n2:¬ (decide ((c2:Int) < (0:Int))=true):=by simp; omega
 have hc:decide ((i:Int) < (ys.length:Int))=true:=by simpa using hi
 have hb:(0:Int) ≤ (i:Int) ∧ (i:Int) < (ys.length:Int):=⟨by omega,by omega⟩
 have h3:((3:Int):Int)≠0:=by decide
 obtain rfl:=ec.symm
 rw [f66.l52,if_t hc]
 simp only [if_t hb,if_t h3,Int.toNat_natCast,Option.bind_some,z0,e0,r1,r2,if_f n1,if_f n2,wrap_s (n:=i) (by omega),bne_self_eq_false,beq_self_eq_true,Bool.not_true,Bool.false_eq_true,if_false]
/- laws.heldTileData -/
theorem hd27 (k:Nat) (hk:1048576 < k):Hd (fun y v => f27 k y v) (KTileData k):=by
 intro v y c h0 h1 h2 hR
 obtain ⟨c1,⟨k1,l1⟩,ec⟩:=hR
 obtain rfl:=ec.symm
 have p1:f66 k y.2 v=some c1:=hd66 k hk v _ c1 (by omega) (by omega) (by omega) k1
 have n1:¬ (decide ((c1:Int) < (0:Int))=true):=by simp; omega
 show f27 k y v=_
 unfold f27
 simp only [p1,if_f n1,Option.bind_some]
end Go.Proofs.Ytgfekidehbancaa.V
end
section
set_option linter.unusedVariables false
set_option linter.unusedSimpArgs false
namespace Go.Proofs.Ytgfekidehbancaa
open Go Go.Vm Go.Proofs V
theorem gt_not (a b:Int):decide (a > b)=!decide (a≤b):=by
 rw [← decide_not]; congr 1; apply propext; omega
theorem pos_succ (j:Nat):decide (((j+1:Nat):Int) > 0)=true:=by simp
abbrev Tags:=List (ByteArray × ByteArray)
abbrev dT:ByteArray × ByteArray:=((⟨#[]⟩:ByteArray),(⟨#[]⟩:ByteArray))
def chB (b:Int):Bool:=bif (bif (bif (bif (decide ((b:Int) ≥ (97:Int))) then (decide ((b:Int) ≤ (122:Int))) else false) then true else (bif (decide ((b:Int) ≥ (48:Int))) then (decide ((b:Int) ≤ (57:Int))) else false)) then true else ((b:Int) == (58:Int))) then true else ((b:Int) == (95:Int))
def vaB (b:Int):Bool:=!(bif (decide ((b:Int) < (32:Int))) then true else (decide ((b:Int) > (126:Int))))
def wordB (s:ByteArray):Bool:=(decide (1≤s.size) && decide (s.size≤40)) && allTo (fun i => chB (byteAt s (i:Int))) s.size
def valB (s:ByteArray):Bool:=(decide (1≤s.size) && decide (s.size≤100)) && allTo (fun i => vaB (byteAt s (i:Int))) s.size
theorem sz_ge (s:ByteArray):decide ((ByteArray.size s:Int) ≥ (1:Int))=decide (1≤s.size):=decide_eq_decide.2 (by omega)
theorem sz_lt (s:ByteArray):decide ((ByteArray.size s:Int) < (1:Int))=!decide (1≤s.size):=by
 rw [← decide_not]; exact decide_eq_decide.2 (by omega)
theorem sz_le (s:ByteArray) (n:Nat) (N:Int) (h:N = (n:Int)):decide ((ByteArray.size s:Int)≤N)=decide (s.size≤n):=by subst h; exact decide_eq_decide.2 (by omega)
theorem e97 (k:Nat) (hk:1048576 < k) (s:ByteArray) (hs:s.size≤1048576):f97 k s=some (wordB s):=by
 have q:=allLoop (L:=f97.l12 k s) (n:=s.size) (p:=fun i => chB (byteAt s (i:Int))) (fin:=some (bif (decide ((ByteArray.size s:Int) ≥ (1:Int))) then (decide ((ByteArray.size s:Int) ≤ (40:Int))) else false)) (fun m i hi => by
  have hb:(0:Int) ≤ (i:Int) ∧ (i:Int) < (ByteArray.size s:Int):=⟨by omega,by omega⟩
  have hc:decide ((i:Int) < (ByteArray.size s:Int))=true:=decide_eq_true hb.2
  rw [f97.l12,if_t hc,if_t hb,wrap_s (by omega)]
  show (if (!chB (byteAt s (i:Int)))=true then _ else _)=_
  cases chB (byteAt s (i:Int)) <;> rfl) (fun m => by rw [f97.l12,if_f (by simp)]) (k:=k) (by omega)
 unfold f97 wordB
 rw [q,sz_ge,sz_le s 40 40 rfl]
 generalize allTo (fun i => chB (byteAt s (i:Int))) s.size=A
 generalize decide (1≤s.size)=B
 generalize decide (s.size≤40)=C
 cases A <;> cases B <;> cases C <;> rfl
theorem e80 (k:Nat) (hk:1048576 < k) (s:ByteArray) (hs:s.size≤1048576):f80 k s=some (wordB s):=by
 have q:=allLoop (L:=f80.l12 k s) (n:=s.size) (p:=fun i => chB (byteAt s (i:Int))) (fin:=some true) (fun m i hi => by
  have hb:(0:Int) ≤ (i:Int) ∧ (i:Int) < (ByteArray.size s:Int):=⟨by omega,by omega⟩
  have hc:decide ((i:Int) < (ByteArray.size s:Int))=true:=decide_eq_true hb.2
  rw [f80.l12,if_t hc,if_t hb,wrap_s (by omega)]
  show (if (!chB (byteAt s (i:Int)))=true then _ else _)=_
  cases chB (byteAt s (i:Int)) <;> rfl) (fun m => by rw [f80.l12,if_f (by simp)]) (k:=k) (by omega)
 unfold f80 wordB
 rw [q,sz_lt,gt_not,sz_le s 40 40 rfl]
 generalize allTo (fun i => chB (byteAt s (i:Int))) s.size=A
 generalize decide (1≤s.size)=B
 generalize decide (s.size≤40)=C
 cases A <;> cases B <;> cases C <;> rfl
theorem e98 (k:Nat) (hk:1048576 < k) (s:ByteArray) (hs:s.size≤1048576):f98 k s=some (valB s):=by
 have q:=allLoop (L:=f98.l18 k s) (n:=s.size) (p:=fun i => vaB (byteAt s (i:Int))) (fin:=some (bif (decide ((ByteArray.size s:Int) ≥ (1:Int))) then (decide ((ByteArray.size s:Int) ≤ (100:Int))) else false)) (fun m i hi => by
  have hb:(0:Int) ≤ (i:Int) ∧ (i:Int) < (ByteArray.size s:Int):=⟨by omega,by omega⟩
  have hc:decide ((i:Int) < (ByteArray.size s:Int))=true:=decide_eq_true hb.2
  rw [f98.l18,if_t hc,if_t hb,if_t (fun _ => hb),wrap_s (by omega)]
  unfold vaB
  by_cases hA:(bif (decide ((byteAt s (i:Int):Int) < (32:Int))) then true else (decide ((byteAt s (i:Int):Int) > (126:Int))))=true
  ·rw [if_t hA,hA]; rfl
  ·rw [if_f hA,eq_false_of_ne_true hA]; rfl) (fun m => by rw [f98.l18,if_f (by simp)]) (k:=k) (by omega)
 unfold f98 valB
 rw [q,sz_ge,sz_le s 100 100 rfl]
 generalize allTo (fun i => vaB (byteAt s (i:Int))) s.size=A
 generalize decide (1≤s.size)=B
 generalize decide (s.size≤100)=C
 cases A <;> cases B <;> cases C <;> rfl
def ascT (ts:Tags) (i:Nat):Bool:=decide (i=0) || Op.bytesLess (ByteArray.toList (ts.getD (i - 1) dT).1) (ByteArray.toList (ts.getD i dT).1)
def okTag (ts:Tags) (i:Nat):Bool:=(wordB (ts.getD i dT).1 && valB (ts.getD i dT).2) && ascT ts i
def tagsOk (ts:Tags):Bool:=decide (ts.length≤30) && allTo (okTag ts) ts.length
def TSz (ts:Tags):Prop:=∀ t ∈ ts,t.1.size≤1048576∧t.2.size≤1048576
theorem in_getD {α:Type} {d:α} {l:List α} {i:Nat} (h:i < l.length):l.getD i d ∈ l:=by
 simp [List.getD_eq_getElem?_getD,h]
theorem e78 (k:Nat) (hk:1048576 < k) (ts:Tags) (hz:TSz ts):f78 k ts=some (tagsOk ts):=by
 unfold f78 tagsOk
 by_cases hl:ts.length≤30
 ·have hl':decide ((List.length ts:Int) ≤ (30:Int))=true:=decide_eq_true (by omega)
  have q:=allLoop (L:=f78.l54 k ts) (n:=ts.length) (p:=okTag ts) (fin:=some true) (fun m i hi => by
   have hb:(0:Int) ≤ (i:Int) ∧ (i:Int) < (ts.length:Int):=⟨by omega,by omega⟩
   have hc:decide ((i:Int) < (ts.length:Int))=true:=decide_eq_true hb.2
   have h1:=hz _ (in_getD (d:=dT) hi)
   rw [f78.l54,hc,cond_true,if_t hl',if_t hb,wrap_s (by omega)]
   simp only [Int.toNat_natCast,e97 k hk _ h1.1,e98 k hk _ h1.2,Option.bind_some]
   unfold okTag ascT
   generalize wordB (ts.getD i dT).1=A
   generalize valB (ts.getD i dT).2=B
   rcases i with _ | j
   ·have hne:¬ ts=[]:=fun h => by rw [h] at hi; simp at hi
    cases A <;> cases B <;> simp [hne]
   ·have hj:(0:Int) ≤ (j:Int) ∧ (j:Int) < (ts.length:Int):=⟨by omega,by omega⟩
    have hb':(0:Int) ≤ (j:Int)+1 ∧ (j:Int)+1 < (ts.length:Int):=⟨by omega,by omega⟩
    simp only [wrap_p j (by omega),pos_succ,Int.toNat_natCast,Nat.add_sub_cancel]
    generalize Op.bytesLess (ByteArray.toList (ts.getD j dT).1) (ByteArray.toList (ts.getD (j+1) dT).1)=C
    cases A <;> cases B <;> cases C <;> simp [hb',hj]) (fun m => by
   have hc:decide ((ts.length:Int) < (ts.length:Int))=false:=decide_eq_false (by omega)
   rw [f78.l54,hc,cond_false,if_f (by simp),hl']) (k:=k) (by omega)
  rw [q,decide_eq_true hl]
  cases allTo (okTag ts) ts.length <;> rfl
 ·have hl':decide ((List.length ts:Int) ≤ (30:Int))=false:=decide_eq_false (by omega)
  obtain ⟨k',rfl⟩:∃ q,k=q+1:=⟨k - 1,by omega⟩
  rw [f78.l54,hl',decide_eq_false hl]
  cases decide ((0:Int) < (List.length ts:Int)) <;> rfl
theorem e52 (k:Nat) (hk:1048576 < k) (ts:Tags) (hz:TSz ts):f52 k ts=some (tagsOk ts):=by
 unfold f52 tagsOk
 by_cases hl:ts.length≤30
 ·have hl':decide ((List.length ts:Int) > (30:Int))=false:=decide_eq_false (by omega)
  have q:=allLoop (L:=f52.l144 k ts) (n:=ts.length) (p:=okTag ts) (fin:=some true) (fun m i hi => by
   have hb:(0:Int) ≤ (i:Int) ∧ (i:Int) < (ts.length:Int):=⟨by omega,by omega⟩
   have hc:decide ((i:Int) < (ts.length:Int))=true:=decide_eq_true hb.2
   have h1:=hz _ (in_getD (d:=dT) hi)
   have inner:=allLoopI (L:=f52.l266 k ts (i:Int) (f52.l144 k ts m)) (n:=(ts.getD i dT).2.size) (p:=fun j => vaB (byteAt (ts.getD i dT).2 (j:Int))) (bad:=some false) (fin:=f52.l144 k ts m ((i+1:Nat):Int)) (fun m j hj => by
    have hbj:(0:Int) ≤ (j:Int) ∧ (j:Int) < (ByteArray.size (ts.getD i dT).2:Int):=⟨by omega,by omega⟩
    have hcj:decide ((j:Int) < (ByteArray.size (ts.getD i dT).2:Int))=true:=decide_eq_true hbj.2
    rw [f52.l266]
    simp only [Int.toNat_natCast]
    rw [if_t hcj,if_t hbj,if_t (fun _ => hbj),wrap_s (by omega)]
    unfold vaB
    by_cases hA:(bif (decide ((byteAt (ts.getD i dT).2 (j:Int):Int) < (32:Int))) then true else (decide ((byteAt (ts.getD i dT).2 (j:Int):Int) > (126:Int))))=true
    ·rw [if_t hA,hA]; rfl
    ·rw [if_f hA,eq_false_of_ne_true hA]; rfl) (fun m => by
    rw [f52.l266]
    simp only [Int.toNat_natCast]
    rw [if_f (by simp),wrap_s (by omega)]) (k:=k) (by omega)
   have z1:=sz_lt (ts.getD i dT).2
   have z2:decide ((ByteArray.size (ts.getD i dT).2:Int) > (100:Int))=!decide ((ts.getD i dT).2.size≤100):=by rw [gt_not,sz_le _ 100 100 rfl]
   rw [f52.l144,if_t hc,if_t hb]
   simp only [Int.toNat_natCast,e80 k hk _ h1.1,Option.bind_some,inner]
   rw [z1,z2]
   unfold okTag ascT valB
   generalize wordB (ts.getD i dT).1=A
   generalize decide (1 ≤ (ts.getD i dT).2.size)=B1
   generalize decide ((ts.getD i dT).2.size≤100)=B2
   generalize allTo (fun j => vaB (byteAt (ts.getD i dT).2 (j:Int))) (ts.getD i dT).2.size=B3
   rcases i with _ | j
   ·have hne:¬ ts=[]:=fun h => by rw [h] at hi; simp at hi
    cases A <;> cases B1 <;> cases B2 <;> cases B3 <;> simp [hne]
   ·have hj:(0:Int) ≤ (j:Int) ∧ (j:Int) < (ts.length:Int):=⟨by omega,by omega⟩
    have hb':(0:Int) ≤ (j:Int)+1 ∧ (j:Int)+1 < (ts.length:Int):=⟨by omega,by omega⟩
    simp only [wrap_p j (by omega),pos_succ,Int.toNat_natCast,Nat.add_sub_cancel]
    generalize Op.bytesLess (ByteArray.toList (ts.getD j dT).1) (ByteArray.toList (ts.getD (j+1) dT).1)=C
    cases A <;> cases B1 <;> cases B2 <;> cases B3 <;> cases C <;> simp [hb',hj]) (fun m => by rw [f52.l144,if_f (by simp)]) (k:=k) (by omega)
  rw [hl',if_f (by simp),q,decide_eq_true hl]
  cases allTo (okTag ts) ts.length <;> rfl
 ·have hl':decide ((List.length ts:Int) > (30:Int))=true:=decide_eq_true (by omega)
  rw [hl',if_t rfl,decide_eq_false hl]; rfl
end Go.Proofs.Ytgfekidehbancaa
end
section
set_option linter.unusedVariables false
set_option linter.unusedSimpArgs false
namespace Go.Proofs.Ytgfekidehbancaa
open Go Go.Vm Go.Proofs V
theorem u8_in {n:Int} (h1:0≤n) (h2:n≤255):IntKind.u8.wrap n=n:=by
 simp [IntKind.wrap,IntKind.signed,IntKind.bits]
 omega
theorem u64_in {n:Int} (h1:0≤n) (h2:n≤9223372036854775807):IntKind.u64.wrap n=n:=by
 simp [IntKind.wrap,IntKind.signed,IntKind.bits]
 omega
theorem or128:∀ x:Fin 256,Go.bits .or .u8 ((x.val:Nat):Int) 128 = ((x.val % 128+128:Nat):Int):=by decide +kernel
theorem u8_mod (n:Nat):IntKind.u8.wrap (n:Int) = ((n % 256:Nat):Int):=by
 simp [IntKind.wrap,IntKind.signed,IntKind.bits]
def encF:Nat→Nat→List Int
 | 0,n => [(n:Int)]
 | f+1,n => if n < 128 then [(n:Int)] else ((n % 128+128:Nat):Int) :: encF f (n / 128)
def enc (n:Nat):List Int:=encF 9 n
theorem encF_len:∀ f n,(encF f n).length≤f+1
 | 0,n => by simp [encF]
 | f+1,n => by
   unfold encF
   split
   ·simp
   ·have:=encF_len f (n / 128); simp; omega
theorem enc_len (n:Nat):(enc n).length≤10:=encF_len 9 n
theorem div_pow {f n:Nat} (h:n < 128 ^ (f+2)):n / 128 < 128 ^ (f+1):=by
 rw [Nat.pow_succ] at h
 exact Nat.div_lt_of_lt_mul (by rw [Nat.mul_comm]; exact h)
theorem num_s (k:Nat):∀ (f n m:Nat) (b:List Int),n < 128 ^ (f+1)→n < 9223372036854775808→f < m→b.length+f≤1099511627776→f43.l19 k m (b,(n:Int))=some (b ++ encF f n)
 | f,n,0,b,_,_,h,_ => by omega
 | 0,n,m+1,b,h1,h2,h,hb => by
   have hn:n < 128:=by simpa using h1
   rw [f43.l19,if_f (by simp; omega),if_t (by simp; omega),u8_in (by omega) (by omega)]
   rfl
 | f+1,n,m+1,b,h1,h2,h,hb => by
   rw [f43.l19]
   by_cases hn:n < 128
   ·rw [if_f (by simp; omega),if_t (by simp; omega),u8_in (by omega) (by omega)]
    unfold encF
    rw [if_pos hn]
   ·have ht:Int.tmod (n:Int) 128 = ((n % 128:Nat):Int):=by rw [Int.tmod_eq_emod_of_nonneg (by omega)]; rfl
    have hd:Int.tdiv (n:Int) 128 = ((n / 128:Nat):Int):=by rw [Int.tdiv_eq_ediv_of_nonneg (by omega)]; rfl
    have hz:((128:Int):Int)≠0:=by decide
    rw [if_t (by simp; omega),if_t hz,if_t (by simp; omega),if_t hz,ht,hd,wrap_in (by omega) (by omega),u8_in (by omega) (by omega),wrap_in (by omega) (by omega)]
    have e:((n % 128:Nat):Int)+128 = ((n % 128+128:Nat):Int):=by omega
    rw [e,num_s k f (n / 128) m _ (div_pow h1) (by omega) (by omega) (by simp; omega)]
    conv => rhs; unfold encF
    rw [if_neg hn]
    simp
theorem num_i (k:Nat):∀ (f n m:Nat) (b:List Int),n < 128 ^ (f+1)→n < 9223372036854775808→f < m→b.length+f≤1099511627776→f50.l16 k m ((b,()),(n:Int))=some (b ++ encF f n,())
 | f,n,0,b,_,_,h,_ => by omega
 | 0,n,m+1,b,h1,h2,h,hb => by
   have hn:n < 128:=by simpa using h1
   rw [f50.l16,if_f (by simp; omega),if_t (by simp; omega),u8_in (by omega) (by omega)]
   rfl
 | f+1,n,m+1,b,h1,h2,h,hb => by
   rw [f50.l16]
   by_cases hn:n < 128
   ·rw [if_f (by simp; omega),if_t (by simp; omega),u8_in (by omega) (by omega)]
    unfold encF
    rw [if_pos hn]
    rfl
   ·have hd:Int.fdiv (n:Int) (2 ^ (min (Int.toNat 7) IntKind.u64.bits)) = ((n / 128:Nat):Int):=by
     have:(2:Int) ^ (min (Int.toNat 7) IntKind.u64.bits)=128:=by decide
     rw [this,Int.fdiv_eq_ediv_of_nonneg _ (by omega)]; rfl
    have ho:Go.bits .or .u8 (IntKind.u8.wrap (n:Int)) 128 = ((n % 128+128:Nat):Int):=by
     have:=or128 ⟨n % 256,Nat.mod_lt _ (by omega)⟩
     simp only at this
     rw [u8_mod,this]
     congr 1
     omega
    rw [if_t (by simp; omega),if_t (by simp; omega),if_t (by decide),hd,ho]
    have ih:=num_i k f (n / 128) m (b ++ [((n % 128+128:Nat):Int)]) (div_pow h1) (by omega) (by omega) (by simp; omega)
    refine Eq.trans ih ?_
    conv => rhs; unfold encF
    rw [if_neg hn]
    simp
section
variable (k:Nat) (hk:1048576 < k)
include hk
theorem e43 (b:List Int) (hb:b.length≤549755813888) (n:Nat) (hn:n < 9223372036854775808):f43 k b (n:Int)=some (b ++ enc n):=num_s k 9 n k b (Nat.lt_trans hn (by decide)) hn (by omega) (by omega)
theorem e50 (b:List Int) (hb:b.length≤549755813888) (n:Nat) (hn:n < 9223372036854775808):f50 k (b,()) (n:Int)=some (b ++ enc n,()):=by
 unfold f50
 rw [u64_in (by omega) (by omega)]
 exact num_i k 9 n k b (Nat.lt_trans hn (by decide)) hn (by omega) (by omega)
end
def sgn (x:Int):Nat:=if x < 0 then (-2*x - 1).toNat else (2*x).toNat
section
variable (k:Nat) (hk:1048576 < k)
include hk
theorem e45 (b:List Int) (hb:b.length≤549755813888) (x:Int) (h1:-1000000≤x) (h2:x≤1000000):f45 k b x=some (b ++ enc (sgn x)):=by
 unfold f45 sgn
 by_cases hx:x < 0
 ·rw [if_t (by simpa using hx),if_pos hx,wrap_in (n:=-2*x) (by omega) (by omega),wrap_in (by omega) (by omega)]
  have e:(-2*x - 1:Int) = (((-2*x - 1).toNat:Nat):Int):=by omega
  rw [e,e43 k hk b hb _ (by omega)]
  rfl
 ·rw [if_f (by simpa using hx),if_neg hx,wrap_in (by omega) (by omega)]
  have e:(2*x:Int) = (((2*x).toNat:Nat):Int):=by omega
  rw [e,e43 k hk b hb _ (by omega)]
  rfl
theorem e53 (b:List Int) (hb:b.length≤549755813888) (x:Int) (h1:-1000000≤x) (h2:x≤1000000):f53 k (b,()) x=some (b ++ enc (sgn x),()):=by
 unfold f53 sgn
 by_cases hx:x < 0
 ·rw [if_t (by simpa using hx),if_pos hx,wrap_in (n:=-2*x) (by omega) (by omega),wrap_in (by omega) (by omega)]
  have e:(-2*x - 1:Int) = (((-2*x - 1).toNat:Nat):Int):=by omega
  rw [e,e50 k hk b hb _ (by omega)]
  rfl
 ·rw [if_f (by simpa using hx),if_neg hx,wrap_in (by omega) (by omega)]
  have e:(2*x:Int) = (((2*x).toNat:Nat):Int):=by omega
  rw [e,e50 k hk b hb _ (by omega)]
  rfl
end
end Go.Proofs.Ytgfekidehbancaa
end
section
set_option linter.unusedVariables false
set_option linter.unusedSimpArgs false
namespace Go.Proofs.Ytgfekidehbancaa
open Go Go.Vm Go.Proofs V
abbrev Pt:=Int × Int
abbrev dPt:Pt:=((0:Int),(0:Int))
abbrev Line:=Int × (List Pt × Tags)
abbrev Tile:=(Int × (Int × Int)) × List Line
def encTag (t:ByteArray × ByteArray):List Int:=enc t.1.size ++ (strNums t.1 ++ (enc t.2.size ++ strNums t.2))
def encTgs:Tags→List Int
 | [] => []
 | t :: ts => encTag t ++ encTgs ts
theorem getD_drop' {α:Type} {x:List α} {i:Nat} {d:α} (h:i < x.length):x.drop i=x.getD i d :: x.drop (i+1):=by
 rw [List.drop_eq_getElem_cons h,List.getD_eq_getElem?_getD,List.getElem?_eq_getElem h]; rfl
section
variable (k:Nat) (hk:1048576 < k) (ts:Tags) (hz:∀ t ∈ ts,t.1.size≤1048576∧t.2.size≤1048576) (hl:ts.length≤1048576)
include hk hz hl
theorem tag_s:∀ (m i:Nat) (b:List Int),i≤ts.length→ts.length - i < m→b.length + (ts.length - i)*2200000≤400000000000→f46.l71 k ts m (b,(i:Int))=some (b ++ encTgs (ts.drop i))∧f54.l2 k ts m ((b,()),(i:Int))=some (b ++ encTgs (ts.drop i),())
 | 0,i,b,_,h,_ => by omega
 | m+1,i,b,hi,h,hb => by
   rw [f46.l71,f54.l2]
   by_cases hlt:i < ts.length
   ·have hbd:(0:Int) ≤ (i:Int) ∧ (i:Int) < (ts.length:Int):=⟨by omega,by omega⟩
    have hc:decide ((i:Int) < (ts.length:Int))=true:=by simpa using hlt
    obtain ⟨z1,z2⟩:=hz (ts.getD i dT) (in_getD hlt)
    have l1:=enc_len (ts.getD i dT).1.size
    have l2:=enc_len (ts.getD i dT).2.size
    have n1:=strNums_len (ts.getD i dT).1
    have n2:=strNums_len (ts.getD i dT).2
    have hsub:(ts.length - i) = (ts.length - (i+1))+1:=by omega
    rw [hsub,Nat.add_mul] at hb
    have a1:=e43 k hk b (by omega) (ts.getD i dT).1.size (by omega)
    have a2:=e50 k hk b (by omega) (ts.getD i dT).1.size (by omega)
    have a3:=e43 k hk ((b ++ enc (ts.getD i dT).1.size) ++ strNums (ts.getD i dT).1) (by simp only [List.length_append]; omega) (ts.getD i dT).2.size (by omega)
    have a4:=e50 k hk ((b ++ enc (ts.getD i dT).1.size) ++ strNums (ts.getD i dT).1) (by simp only [List.length_append]; omega) (ts.getD i dT).2.size (by omega)
    obtain ⟨r1,r2⟩:=tag_s m (i+1) ((((b ++ enc (ts.getD i dT).1.size) ++ strNums (ts.getD i dT).1) ++ enc (ts.getD i dT).2.size) ++ strNums (ts.getD i dT).2) (by omega) (by omega) (by simp only [List.length_append]; omega)
    have hcat:(((((b ++ enc (ts.getD i dT).1.size) ++ strNums (ts.getD i dT).1) ++ enc (ts.getD i dT).2.size) ++ strNums (ts.getD i dT).2) ++ encTgs (ts.drop (i+1)))=b ++ encTgs (ts.drop i):=by
     rw [getD_drop' (d:=dT) hlt]
     simp [encTgs,encTag]
    rw [hcat] at r1 r2
    have s1:(b ++ enc (ts.getD i dT).1.size).length+ByteArray.size (ts.getD i dT).1≤140737488355328:=by simp only [List.length_append]; omega
    have s2:(((b ++ enc (ts.getD i dT).1.size) ++ strNums (ts.getD i dT).1) ++ enc (ts.getD i dT).2.size).length+ByteArray.size (ts.getD i dT).2≤140737488355328:=by simp only [List.length_append]; omega
    constructor
    ·rw [if_t hc,if_t hbd,Int.toNat_natCast,a1,Option.bind_some,if_t hbd,if_t s1,if_t hbd,a3,Option.bind_some,if_t hbd,if_t s2,wrap_s (by omega)]
     exact r1
    ·rw [if_t hc,if_t hbd,Int.toNat_natCast,a2,Option.bind_some,if_t s1]
     have a4':f50 k (List.append (b ++ enc (ts.getD i dT).1.size,()).1 (strNums (ts.getD i dT).1),(b ++ enc (ts.getD i dT).1.size,()).2) ((ts.getD i dT).2.size:Int)=_:=a4
     rw [a4',Option.bind_some,if_t s2,wrap_s (by omega)]
     exact r2
   ·have hc:¬ decide ((i:Int) < (ts.length:Int))=true:=by simpa using hlt
    rw [if_f hc,if_f hc,List.drop_eq_nil_of_le (by omega)]
    simp [encTgs]
def encTags (ts:Tags):List Int:=enc ts.length ++ encTgs ts
end
theorem tags_two (k:Nat) (hk:1048576 < k) (ts:Tags) (hz:∀ t ∈ ts,t.1.size≤1048576∧t.2.size≤1048576) (hl:ts.length≤30) (b:List Int) (hb:b.length≤300000000000):f46 k b ts=some (b ++ encTags ts)∧f54 k (b,()) ts=some (b ++ encTags ts,()):=by
 have l1:=enc_len ts.length
 obtain ⟨r1,r2⟩:=tag_s k hk ts hz (by omega) k 0 (b ++ enc ts.length) (by omega) (by omega) (by simp only [List.length_append]; omega)
 have a1:=e43 k hk b (by omega) ts.length (by omega)
 have a2:=e50 k hk b (by omega) ts.length (by omega)
 unfold f46 f54
 rw [a1,a2,Option.bind_some,Option.bind_some]
 constructor
 ·refine Eq.trans r1 ?_
  simp [encTags]
 ·refine Eq.trans r2 ?_
  simp [encTags]
def ptOk (p:Pt):Bool:=!(bif (bif (bif (decide (p.1 < 0)) then true else (decide (p.1 > 4096))) then true else (decide (p.2 < 0))) then true else (decide (p.2 > 4096)))
theorem ptOk_iff {p:Pt}:ptOk p=true ↔ (0≤p.1∧p.1≤4096)∧0≤p.2∧p.2≤4096:=by
 unfold ptOk
 by_cases h1:p.1 < 0 <;> by_cases h2:p.1 > 4096 <;> by_cases h3:p.2 < 0 <;> by_cases h4:p.2 > 4096 <;> simp [h1,h2,h3,h4] <;> omega
def rowOk (r:List Pt) (j:Nat):Bool:=(r.drop j).all ptOk
theorem nt {a b:Bool} (e:a=!b) (h:a=false):b=true:=by cases b <;> simp_all
theorem nf {a b:Bool} (e:a=!b) (h:a=true):¬ b=true:=by cases b <;> simp_all
theorem rowOk_step {r:List Pt} {j:Nat} (h:j < r.length):rowOk r j = (ptOk (r.getD j dPt) && rowOk r (j+1)):=by
 unfold rowOk
 rw [getD_drop' (d:=dPt) h,List.all_cons]
def encPts:Pt→List Pt→List Int
 | _,[] => []
 | a,p :: ps => enc (sgn (p.1 - a.1)) ++ (enc (sgn (p.2 - a.2)) ++ encPts p ps)
theorem encPts_len:∀ (a:Pt) (ps:List Pt),(encPts a ps).length≤20*ps.length
 | a,[] => by simp [encPts]
 | a,p :: ps => by
   have h1:=enc_len (sgn (p.1 - a.1))
   have h2:=enc_len (sgn (p.2 - a.2))
   have h3:=encPts_len p ps
   simp only [encPts,List.length_append,List.length_cons]
   omega
def lineOk (l:Line):Bool:=rowOk l.2.1 0 && ((decide (1≤l.1) && decide (l.1≤1000000000) && decide (l.2.1.length≤2000)) && tagsOk l.2.2)
def LSz (l:Line):Prop:=l.2.1.length≤1048576∧l.2.2.length≤1048576∧∀ t ∈ l.2.2,t.1.size≤1048576∧t.2.size≤1048576
def encLine (l:Line):List Int:=enc l.1.toNat ++ (enc l.2.1.length ++ (encPts (0,0) l.2.1 ++ encTags l.2.2))
theorem idq (x:Int):(bif (decide ((x:Int) ≥ (1:Int))) then (decide ((x:Int) ≤ (1000000000:Int))) else false) = (decide (1≤x) && decide (x≤1000000000)):=by
 by_cases h:1≤x
 ·rw [decide_eq_true h]; rfl
 ·rw [decide_eq_false h]; rfl
theorem e44 (k:Nat) (hk:1048576 < k) (l:Line) (hz:LSz l):f44 k l=some (lineOk l):=by
 have go:∀ (m j:Nat),j≤l.2.1.length→l.2.1.length - j < m→f44.l12 k l m (j:Int)=some (rowOk l.2.1 j && ((decide (1≤l.1) && decide (l.1≤1000000000) && decide (l.2.1.length≤2000)) && tagsOk l.2.2)):=by
  intro m
  induction m with
  | zero => intro j _ h; omega
  | succ m ih =>
    intro j hj h
    have hzl:=hz.1
    rw [f44.l12]
    by_cases hlt:j < l.2.1.length
    ·have hbd:(0:Int) ≤ (j:Int) ∧ (j:Int) < (l.2.1.length:Int):=⟨by omega,by omega⟩
     rw [if_t (by simpa using hlt),if_t hbd,Int.toNat_natCast,rowOk_step hlt]
     have e:ptOk (l.2.1.getD j dPt)=!(bif (bif (bif (decide ((l.2.1.getD j dPt).1 < 0)) then true else (decide ((l.2.1.getD j dPt).1 > 4096))) then true else (decide ((l.2.1.getD j dPt).2 < 0))) then true else (decide ((l.2.1.getD j dPt).2 > 4096))):=rfl
     cases hp:ptOk (l.2.1.getD j dPt) with
     | false =>
       rw [if_t (nt e hp)]
       simp
     | true =>
       rw [if_f (nf e hp),wrap_s (by omega),ih (j+1) (by omega) (by omega)]
       simp
    ·rw [if_f (by simpa using hlt)]
     have hr:rowOk l.2.1 j=true:=by unfold rowOk; rw [List.drop_eq_nil_of_le (by omega)]; rfl
     unfold f77
     rw [Option.bind_some,idq,hr,e78 k hk l.2.2 hz.2.2]
     have hlen:decide ((l.2.1.length:Int)≤2000)=decide (l.2.1.length≤2000):=decide_eq_decide.2 (by omega)
     rw [hlen]
     cases decide (1≤l.1) <;> cases decide (l.1≤1000000000) <;> cases decide (l.2.1.length≤2000) <;> simp
 have:=go k 0 (by omega) (by have:=hz.1; omega)
 exact this
theorem wr_sub {x y:Int} (h1:0≤x∧x≤4096) (h2:0≤y∧y≤4096):IntKind.i64.wrap (x - y)=x - y:=wrap_in (by omega) (by omega)
end Go.Proofs.Ytgfekidehbancaa
end
section
set_option linter.unusedVariables false
set_option linter.unusedSimpArgs false
namespace Go.Proofs.Ytgfekidehbancaa
open Go Go.Vm Go.Proofs V
theorem allTo_get {p:Nat→Bool} {n i:Nat} (h:allTo p n=true) (hi:i < n):p i=true:=allTo_iff.1 h i hi
theorem cfl {p1 p2 p3:Prop} [Decidable p1] [Decidable p2] [Decidable p3] (h:¬ ((p1∧p2)∧p3)):(bif !(decide p1 && decide p2) then true else !decide p3)=true:=by
 by_cases q1:p1 <;> by_cases q2:p2 <;> by_cases q3:p3 <;> simp_all
theorem tgs_len:∀ (ts:Tags),(∀ t ∈ ts,t.1.size≤40∧t.2.size≤100) → (encTgs ts).length≤160*ts.length
 | [],_ => by simp [encTgs]
 | t :: ts,h => by
   have h1:=tgs_len ts (fun t ht => h t (List.mem_cons_of_mem _ ht))
   have h2:=h t List.mem_cons_self
   have l1:=enc_len t.1.size
   have l2:=enc_len t.2.size
   have n1:=strNums_len t.1
   have n2:=strNums_len t.2
   simp only [encTgs,encTag,List.length_append,List.length_cons]
   omega
theorem tags_len {ts:Tags} (h:tagsOk ts=true):ts.length≤30 ∧ (encTags ts).length≤4810:=by
 unfold tagsOk at h
 rw [Bool.and_eq_true] at h
 have hl:=of_decide_eq_true h.1
 have:=tgs_len ts (fun t ht => by
  obtain ⟨i,hi,rfl⟩:=List.getElem_of_mem ht
  have h2:=allTo_get h.2 hi
  unfold okTag wordB valB at h2
  simp only [Bool.and_eq_true,decide_eq_true_eq] at h2
  have e:ts.getD i dT=ts[i]:=by simp [List.getD_eq_getElem?_getD,hi]
  rw [e] at h2
  exact ⟨h2.1.1.1.2,h2.1.2.1.2⟩)
 have l1:=enc_len ts.length
 refine ⟨hl,?_⟩
 simp only [encTags,List.length_append]
 omega
theorem lineOk_iff {l:Line}:lineOk l=true↔rowOk l.2.1 0=true ∧ (1≤l.1∧l.1≤1000000000∧l.2.1.length≤2000)∧tagsOk l.2.2=true:=by
 unfold lineOk
 simp only [Bool.and_eq_true,decide_eq_true_eq]
 constructor
 ·rintro ⟨h1,⟨⟨h2,h3⟩,h4⟩,h5⟩; exact ⟨h1,⟨h2,h3,h4⟩,h5⟩
 ·rintro ⟨h1,⟨h2,h3,h4⟩,h5⟩; exact ⟨h1,⟨⟨h2,h3⟩,h4⟩,h5⟩
theorem line_len {l:Line} (h:lineOk l=true):(encLine l).length≤50000:=by
 obtain ⟨_,⟨_,_,h1⟩,h2⟩:=lineOk_iff.1 h
 have l1:=enc_len l.1.toNat
 have l2:=enc_len l.2.1.length
 have l3:=encPts_len (0,0) l.2.1
 have l4:=(tags_len h2).2
 simp only [encLine,List.length_append]
 omega
abbrev dR:Line:=((0:Int),(([]:(List (Int × Int))),([]:(List (ByteArray × ByteArray)))))
def tailB (d:Tile) (i j:Nat) (a:Pt):List Int:=encPts a ((d.2.getD i dR).2.1.drop j) ++ encTags (d.2.getD i dR).2.2
section
variable (k:Nat) (hk:1048576 < k) (d:Tile) (i:Nat) (hi:i < 1048577) (hz:LSz (d.2.getD i dR)) (hT:tagsOk (d.2.getD i dR).2.2=true) (hR:(d.2.getD i dR).2.1.length≤2000)
include hk hi hz hT hR
theorem s1391 (q:(List Int × Int)→Option (List Int)):∀ (m j:Nat) (a:Pt) (b:List Int),j ≤ (d.2.getD i dR).2.1.length → (d.2.getD i dR).2.1.length - j < m → ((0≤a.1∧a.1≤4096)∧0≤a.2∧a.2≤4096)→rowOk (d.2.getD i dR).2.1 j=true→b.length + ((d.2.getD i dR).2.1.length - j)*20≤200000000000→f16.l1391 k d (i:Int) q m (b,a,(j:Int))=q (b ++ tailB d i j a,((i+1:Nat):Int))
 | 0,j,a,b,_,h,_,_,_ => by omega
 | m+1,j,a,b,hj,h,ha,hr,hb => by
   have ht:=(tags_len hT).1
   rw [f16.l1391]
   simp only [Int.toNat_natCast]
   have ed:d.2.getD i ((0:Int),(([]:(List (Int × Int))),([]:(List (ByteArray × ByteArray)))))=d.2.getD i dR:=rfl
   have ep:∀ x:List (Int × Int),x.getD j ((0:Int),(0:Int))=x.getD j dPt:=fun _ => rfl
   simp only [ed,ep]
   by_cases hlt:j < (d.2.getD i dR).2.1.length
   ·have hbd:(0:Int) ≤ (j:Int) ∧ (j:Int) < ((d.2.getD i dR).2.1.length:Int):=⟨by omega,by omega⟩
    have hc:decide ((j:Int) < ((d.2.getD i dR).2.1.length:Int))=true:=by simpa using hlt
    rw [rowOk_step hlt,Bool.and_eq_true] at hr
    have hp:=ptOk_iff.1 hr.1
    have hs:∃ n,(d.2.getD i dR).2.1.length - j=n+1 ∧ (d.2.getD i dR).2.1.length - (j+1)=n:=⟨_,by omega,rfl⟩
    obtain ⟨n,hn1,hn2⟩:=hs
    rw [hn1,Nat.add_mul] at hb
    have l1:=enc_len (sgn (((d.2.getD i dR).2.1.getD j dPt).1 - a.1))
    have l2:=enc_len (sgn (((d.2.getD i dR).2.1.getD j dPt).2 - a.2))
    have a1:=e45 k hk b (by omega) (((d.2.getD i dR).2.1.getD j dPt).1 - a.1) (by omega) (by omega)
    have a2:=e45 k hk (b ++ enc (sgn (((d.2.getD i dR).2.1.getD j dPt).1 - a.1))) (by simp only [List.length_append]; omega) (((d.2.getD i dR).2.1.getD j dPt).2 - a.2) (by omega) (by omega)
    rw [if_t hc,if_t hbd,wr_sub hp.1 ha.1,a1,Option.bind_some,if_t hbd,wr_sub hp.2 ha.2,a2,Option.bind_some,if_t hbd,wrap_s (by omega)]
    rw [s1391 q m (j+1) _ _ (by omega) (by omega) hp hr.2 (by simp only [List.length_append]; rw [hn2]; omega)]
    have e:tailB d i j a=enc (sgn (((d.2.getD i dR).2.1.getD j dPt).1 - a.1)) ++ (enc (sgn (((d.2.getD i dR).2.1.getD j dPt).2 - a.2)) ++ tailB d i (j+1) ((d.2.getD i dR).2.1.getD j dPt)):=by
     unfold tailB
     conv => lhs; rw [getD_drop' (d:=dPt) hlt]
     simp [encPts]
    rw [e,List.append_assoc,List.append_assoc]
   ·have hc:¬ decide ((j:Int) < ((d.2.getD i dR).2.1.length:Int))=true:=by simpa using hlt
    have a1:=(tags_two k hk (d.2.getD i dR).2.2 hz.2.2 ht b (by omega)).1
    rw [if_f hc,a1,Option.bind_some,wrap_s (by omega)]
    have e:tailB d i j a=encTags (d.2.getD i dR).2.2:=by
     unfold tailB
     rw [List.drop_eq_nil_of_le (by omega)]; rfl
    rw [e]
theorem i1414 (q:((List Int × Unit) × Int)→Option (List Int)):∀ (m j:Nat) (a:Pt) (b:List Int),j ≤ (d.2.getD i dR).2.1.length → (d.2.getD i dR).2.1.length - j < m → ((0≤a.1∧a.1≤4096)∧0≤a.2∧a.2≤4096)→b.length + ((d.2.getD i dR).2.1.length - j)*20≤200000000000→f18.l1414 k d (i:Int) q m ((b,()),a,(j:Int))=if rowOk (d.2.getD i dR).2.1 j=true then q ((b ++ tailB d i j a,()),((i+1:Nat):Int)) else some []
 | 0,j,a,b,_,h,_,_ => by omega
 | m+1,j,a,b,hj,h,ha,hb => by
   have ht:=(tags_len hT).1
   rw [f18.l1414]
   simp only [Int.toNat_natCast]
   have ed:d.2.getD i ((0:Int),(([]:(List (Int × Int))),([]:(List (ByteArray × ByteArray)))))=d.2.getD i dR:=rfl
   have ep:∀ x:List (Int × Int),x.getD j ((0:Int),(0:Int))=x.getD j dPt:=fun _ => rfl
   simp only [ed,ep]
   by_cases hlt:j < (d.2.getD i dR).2.1.length
   ·have hbd:(0:Int) ≤ (j:Int) ∧ (j:Int) < ((d.2.getD i dR).2.1.length:Int):=⟨by omega,by omega⟩
    have hc:decide ((j:Int) < ((d.2.getD i dR).2.1.length:Int))=true:=by simpa using hlt
    have hs:∃ n,(d.2.getD i dR).2.1.length - j=n+1 ∧ (d.2.getD i dR).2.1.length - (j+1)=n:=⟨_,by omega,rfl⟩
    obtain ⟨n,hn1,hn2⟩:=hs
    rw [hn1,Nat.add_mul] at hb
    have l1:=enc_len (sgn (((d.2.getD i dR).2.1.getD j dPt).1 - a.1))
    have l2:=enc_len (sgn (((d.2.getD i dR).2.1.getD j dPt).2 - a.2))
    have eP:ptOk ((d.2.getD i dR).2.1.getD j dPt)=!(bif (bif (bif (decide (((d.2.getD i dR).2.1.getD j dPt).1 < 0)) then true else (decide (((d.2.getD i dR).2.1.getD j dPt).1 > 4096))) then true else (decide (((d.2.getD i dR).2.1.getD j dPt).2 < 0))) then true else (decide (((d.2.getD i dR).2.1.getD j dPt).2 > 4096))):=rfl
    rw [if_t hc,if_t hbd,Option.bind_some,rowOk_step hlt]
    cases hpt:ptOk ((d.2.getD i dR).2.1.getD j dPt) with
    | false =>
      rw [if_t (nt eP hpt),if_f (by simp)]
    | true =>
      have hp:=ptOk_iff.1 hpt
      have a1:=e53 k hk b (by omega) (((d.2.getD i dR).2.1.getD j dPt).1 - a.1) (by omega) (by omega)
      have a2:=e53 k hk (b ++ enc (sgn (((d.2.getD i dR).2.1.getD j dPt).1 - a.1))) (by simp only [List.length_append]; omega) (((d.2.getD i dR).2.1.getD j dPt).2 - a.2) (by omega) (by omega)
      rw [if_f (nf eP hpt),wr_sub hp.1 ha.1,a1,Option.bind_some,wr_sub hp.2 ha.2,a2,Option.bind_some,wrap_s (by omega)]
      rw [i1414 q m (j+1) _ _ (by omega) (by omega) hp (by simp only [List.length_append]; rw [hn2]; omega)]
      have e:tailB d i j a=enc (sgn (((d.2.getD i dR).2.1.getD j dPt).1 - a.1)) ++ (enc (sgn (((d.2.getD i dR).2.1.getD j dPt).2 - a.2)) ++ tailB d i (j+1) ((d.2.getD i dR).2.1.getD j dPt)):=by
       unfold tailB
       conv => lhs; rw [getD_drop' (d:=dPt) hlt]
       simp [encPts]
      rw [e,List.append_assoc,List.append_assoc,Bool.true_and]
   ·have hc:¬ decide ((j:Int) < ((d.2.getD i dR).2.1.length:Int))=true:=by simpa using hlt
    have a1:=(tags_two k hk (d.2.getD i dR).2.2 hz.2.2 ht b (by omega)).2
    have hr:rowOk (d.2.getD i dR).2.1 j=true:=by unfold rowOk; rw [List.drop_eq_nil_of_le (by omega)]; rfl
    rw [if_f hc,a1,Option.bind_some,wrap_s (by omega),if_t hr]
    have e:tailB d i j a=encTags (d.2.getD i dR).2.2:=by
     unfold tailB
     rw [List.drop_eq_nil_of_le (by omega)]; rfl
    rw [e]
end
def encLines:List Line→List Int
 | [] => []
 | l :: ls => encLine l ++ encLines ls
def resL (ls:List Line) (b:List Int):List Int:=if ls.all lineOk=true then b ++ encLines ls else []
theorem resL_nil (b:List Int):resL [] b=b:=by simp [resL,encLines]
theorem resL_bad {l:Line} {ls:List Line} (b:List Int) (h:lineOk l=false):resL (l :: ls) b=[]:=by
 unfold resL; rw [if_neg (by simp [h])]
theorem resL_ok {l:Line} {ls:List Line} (b:List Int) (h:lineOk l=true):resL (l :: ls) b=resL ls (b ++ encLine l):=by
 unfold resL
 rw [List.all_cons,h,Bool.true_and,encLines,List.append_assoc]
section
variable (k:Nat) (hk:1048576 < k) (d:Tile) (hl:d.2.length≤1048576) (hz:∀ l ∈ d.2,LSz l)
include hk hl hz
theorem lines_s:∀ (m i:Nat) (b:List Int),i≤d.2.length→d.2.length - i < m→b.length + (d.2.length - i)*50000≤100000000000 →
 f16.l729 k d m (b,(i:Int))=some (resL (d.2.drop i) b)∧f18.l741 k d m ((b,()),(i:Int))=some (resL (d.2.drop i) b)
 | 0,i,b,_,h,_ => by omega
 | m+1,i,b,hi,h,hb => by
   rw [f16.l729,f18.l741]
   simp only [Int.toNat_natCast]
   have ed:d.2.getD i ((0:Int),(([]:(List (Int × Int))),([]:(List (ByteArray × ByteArray)))))=d.2.getD i dR:=rfl
   simp only [ed]
   by_cases hlt:i < d.2.length
   ·have hbd:(0:Int) ≤ (i:Int) ∧ (i:Int) < (d.2.length:Int):=⟨by omega,by omega⟩
    have hc:decide ((i:Int) < (d.2.length:Int))=true:=by simpa using hlt
    have z:=hz (d.2.getD i dR) (in_getD hlt)
    obtain ⟨n,hn1,hn2⟩:∃ n,d.2.length - i=n+1∧d.2.length - (i+1)=n:=⟨_,by omega,rfl⟩
    rw [hn1,Nat.add_mul] at hb
    rw [if_t hc,if_t hc,if_t hbd,if_t hbd,e44 k hk _ z,Option.bind_some,getD_drop' (d:=dR) hlt]
    have l1:=enc_len (d.2.getD i dR).1.toNat
    have l2:=enc_len (d.2.getD i dR).2.1.length
    have hid:f51 k (d.2.getD i dR).1=some (decide (1 ≤ (d.2.getD i dR).1) && decide ((d.2.getD i dR).1≤1000000000)):=by unfold f51; rw [idq]
    rw [hid,Option.bind_some]
    have hlen:decide (((d.2.getD i dR).2.1.length:Int) > 2000)=!decide ((d.2.getD i dR).2.1.length≤2000):=by
     rw [← decide_not]; exact decide_eq_decide.2 (by omega)
    rw [hlen]
    by_cases hA:(1 ≤ (d.2.getD i dR).1 ∧ (d.2.getD i dR).1≤1000000000) ∧ (d.2.getD i dR).2.1.length≤2000
    ·obtain ⟨⟨p1,p2⟩,p3⟩:=hA
     have t1:=decide_eq_true p1
     have t2:=decide_eq_true p2
     have t3:=decide_eq_true p3
     rw [t1,t2,t3]
     have cf:(bif !(true && true) then true else !true)=false:=rfl
     rw [if_t cf,cf,e52 k hk _ z.2.2,Option.bind_some]
     cases hT:tagsOk (d.2.getD i dR).2.2 with
     | false =>
       have hbad:lineOk (d.2.getD i dR)=false:=by unfold lineOk; rw [hT]; simp
       rw [hbad,resL_bad b hbad,if_t (by rfl),if_t (by rfl)]
       exact ⟨rfl,rfl⟩
     | true =>
       obtain ⟨nn,hnn⟩:∃ nn:Nat,(d.2.getD i dR).1 = (nn:Int):=⟨(d.2.getD i dR).1.toNat,by omega⟩
       rw [hnn] at p2
       have enn:(d.2.getD i dR).1.toNat=nn:=by rw [hnn]; rfl
       rw [enn] at l1
       have a1:=e43 k hk b (by omega) nn (by omega)
       have a2:=e50 k hk b (by omega) nn (by omega)
       have a3:=e43 k hk (b ++ enc nn) (by simp only [List.length_append]; omega) (d.2.getD i dR).2.1.length (by omega)
       have a4:=e50 k hk (b ++ enc nn) (by simp only [List.length_append]; omega) (d.2.getD i dR).2.1.length (by omega)
       have ee:((b ++ enc nn) ++ enc (d.2.getD i dR).2.1.length) ++ tailB d i 0 (0,0)=b ++ encLine (d.2.getD i dR):=by
        unfold tailB encLine
        rw [enn,List.drop_zero,List.append_assoc,List.append_assoc]
       have j1:=i1414 k hk d i (by omega) z hT p3 (f18.l741 k d m) k 0 (0,0) ((b ++ enc nn) ++ enc (d.2.getD i dR).2.1.length) (by omega) (by omega) (by decide) (by simp only [List.length_append]; omega)
       rw [ee] at j1
       have cf2:¬ (bif false then true else !true)=true:=by decide
       rw [if_f cf2,hnn,a1,a2,Option.bind_some,Option.bind_some,a3,a4,Option.bind_some,Option.bind_some]
       have j1':=j1
       rw [show ((0:Nat):Int)=0 from rfl] at j1'
       rw [j1']
       cases hR:rowOk (d.2.getD i dR).2.1 0 with
       | false =>
         have hbad:lineOk (d.2.getD i dR)=false:=by unfold lineOk; rw [hR]; rfl
         rw [hbad,resL_bad b hbad,if_t (by rfl),if_f (by simp)]
         exact ⟨rfl,rfl⟩
       | true =>
         have hok:lineOk (d.2.getD i dR)=true:=lineOk_iff.2 ⟨hR,⟨p1,by omega,p3⟩,hT⟩
         have hll:=line_len hok
         have i1:=s1391 k hk d i (by omega) z hT p3 (f16.l729 k d m) k 0 (0,0) ((b ++ enc nn) ++ enc (d.2.getD i dR).2.1.length) (by omega) (by omega) (by decide) hR (by simp only [List.length_append]; omega)
         rw [ee,show ((0:Nat):Int)=0 from rfl] at i1
         obtain ⟨g1,g2⟩:=lines_s m (i+1) (b ++ encLine (d.2.getD i dR)) (by omega) (by omega) (by simp only [List.length_append]; rw [hn2]; omega)
         rw [hok,resL_ok b hok,if_f (by simp),if_t rfl]
         exact ⟨i1.trans g1,g2⟩
    ·have hbad:lineOk (d.2.getD i dR)=false:=by
      cases hq:lineOk (d.2.getD i dR) with
      | false => rfl
      | true => exact absurd (let q:=(lineOk_iff.1 hq).2.1; ⟨⟨q.1,q.2.1⟩,q.2.2⟩) hA
     have cf:(bif !(decide (1 ≤ (d.2.getD i dR).1) && decide ((d.2.getD i dR).1≤1000000000)) then true else !decide ((d.2.getD i dR).2.1.length≤2000))=true:=cfl hA
     rw [cf,hbad,resL_bad b hbad,if_t (by rfl),if_f (by simp),Option.bind_some,if_t (by rfl)]
     exact ⟨rfl,rfl⟩
   ·have hc:¬ decide ((i:Int) < (d.2.length:Int))=true:=by simpa using hlt
    rw [if_f hc,if_f hc,List.drop_eq_nil_of_le (by omega),resL_nil]
    exact ⟨rfl,rfl⟩
end
end Go.Proofs.Ytgfekidehbancaa
end
section
set_option linter.unusedVariables false
set_option linter.unusedSimpArgs false
namespace Go.Proofs.Ytgfekidehbancaa
open Go Go.Vm Go.Proofs V
theorem e42 (k:Nat) (x:Int × (Int × Int)):f42 k x=f49 k x:=by
 unfold f42 f49
 by_cases h:(bif (decide ((x.1:Int) < (0:Int))) then true else (decide ((x.1:Int) > (10:Int))))=true
 ·rw [if_t h,if_t h]
 ·have h0:0≤x.1∧x.1≤10:=by
   by_cases p1:x.1 < 0 <;> by_cases p2:x.1 > 10 <;> simp [p1,p2] at h ⊢ <;> omega
  rw [if_f h,if_f h,u64_in h0.1 (by omega)]
theorem e49 (k:Nat) (x:Int × (Int × Int)):∃ ok:Bool,f49 k x=some ok ∧ (ok=true → (0≤x.1∧x.1≤10)∧0≤x.2.1∧0≤x.2.2):=by
 unfold f49
 by_cases h:(bif (decide ((x.1:Int) < (0:Int))) then true else (decide ((x.1:Int) > (10:Int))))=true
 ·rw [if_t h]; exact ⟨false,rfl,fun h => absurd h (by decide)⟩
 ·have h0:0≤x.1∧x.1≤10:=by
   by_cases p1:x.1 < 0 <;> by_cases p2:x.1 > 10 <;> simp [p1,p2] at h ⊢ <;> omega
  rw [if_f h,if_t h0.1]
  refine ⟨_,rfl,fun hq => ⟨h0,?_⟩⟩
  generalize decide (x.2.1 < IntKind.i64.wrap (1*2 ^ min x.1.toNat IntKind.i64.bits))=A at hq
  generalize decide (x.2.2 < IntKind.i64.wrap (1*2 ^ min x.1.toNat IntKind.i64.bits))=B at hq
  by_cases p1:x.2.1 ≥ 0 <;> by_cases p2:x.2.2 ≥ 0
  ·exact ⟨p1,p2⟩
  ·simp [p2] at hq
  ·simp [p1] at hq
  ·simp [p1] at hq
def magic:List Int:=[(87:Int),(77:Int),(84:Int),(49:Int)]
theorem resL_len (ls:List Line):∀ (b:List Int),(resL ls b).length≤b.length+50000*ls.length:=by
 induction ls with
 | nil => intro b; rw [resL_nil]; simp
 | cons l ls ih =>
   intro b
   cases h:lineOk l with
   | false => rw [resL_bad b h]; simp
   | true =>
     rw [resL_ok b h]
     have:=ih (b ++ encLine l)
     have:=line_len h
     simp only [List.length_append,List.length_cons] at *
     omega
theorem whole (k:Nat) (hk:1048576 < k) (d:Tile) (hl:d.2.length≤1048576) (hz:∀ l ∈ d.2,LSz l) (hx:d.1.2.1≤9223372036854775807) (hy:d.1.2.2≤9223372036854775807) :
 ∃ r:List Int,f16 k d=some r∧f18 k d=some r∧r.length≤1099511627775:=by
 unfold f16 f18
 rw [e42]
 obtain ⟨ok,h1,h2⟩:=e49 k d.1
 rw [h1,Option.bind_some,Option.bind_some]
 by_cases hc:(bif (!ok) then true else (decide (((List.length d.2:Int):Int) > (2000:Int))))=true
 ·rw [if_t hc,if_t hc]; exact ⟨[],rfl,rfl,by simp⟩
 ·rw [if_f hc,if_f hc]
  cases ok with
  | false => exact absurd rfl hc
  | true =>
    have hlen:d.2.length≤2000:=by
     have:¬ decide (((List.length d.2:Int):Int) > (2000:Int))=true:=hc
     simp at this
     omega
    obtain ⟨⟨z0,z1⟩,x0,y0⟩:=h2 rfl
    obtain ⟨z,hzz⟩:∃ n:Nat,d.1.1 = (n:Int):=⟨d.1.1.toNat,by omega⟩
    obtain ⟨x,hxx⟩:∃ n:Nat,d.1.2.1 = (n:Int):=⟨d.1.2.1.toNat,by omega⟩
    obtain ⟨y,hyy⟩:∃ n:Nat,d.1.2.2 = (n:Int):=⟨d.1.2.2.toNat,by omega⟩
    have e1:=enc_len z
    have e2:=enc_len x
    have e3:=enc_len y
    have e4:=enc_len d.2.length
    have m0:([(87:Int),(77:Int),(84:Int),(49:Int)]:List Int).length=4:=rfl
    have a1:=e43 k hk [(87:Int),(77:Int),(84:Int),(49:Int)] (by decide) z (by omega)
    have a2:=e43 k hk ([(87:Int),(77:Int),(84:Int),(49:Int)] ++ enc z) (by simp only [List.length_append]; omega) x (by omega)
    have a3:=e43 k hk (([(87:Int),(77:Int),(84:Int),(49:Int)] ++ enc z) ++ enc x) (by simp only [List.length_append]; omega) y (by omega)
    have a4:=e43 k hk ((([(87:Int),(77:Int),(84:Int),(49:Int)] ++ enc z) ++ enc x) ++ enc y) (by simp only [List.length_append]; omega) d.2.length (by omega)
    have b1:=e50 k hk [(87:Int),(77:Int),(84:Int),(49:Int)] (by decide) z (by omega)
    have b2:=e50 k hk ([(87:Int),(77:Int),(84:Int),(49:Int)] ++ enc z) (by simp only [List.length_append]; omega) x (by omega)
    have b3:=e50 k hk (([(87:Int),(77:Int),(84:Int),(49:Int)] ++ enc z) ++ enc x) (by simp only [List.length_append]; omega) y (by omega)
    have b4:=e50 k hk ((([(87:Int),(77:Int),(84:Int),(49:Int)] ++ enc z) ++ enc x) ++ enc y) (by simp only [List.length_append]; omega) d.2.length (by omega)
    rw [if_t (by decide),if_t (by decide),hzz,hxx,hyy,a1,b1,Option.bind_some,Option.bind_some,a2,b2,Option.bind_some,Option.bind_some,a3,b3,Option.bind_some,Option.bind_some,a4,b4,Option.bind_some,Option.bind_some]
    obtain ⟨g1,g2⟩:=lines_s k hk d hl hz k 0 (((([(87:Int),(77:Int),(84:Int),(49:Int)] ++ enc z) ++ enc x) ++ enc y) ++ enc d.2.length) (by omega) (by omega) (by simp only [List.length_append]; omega)
    refine ⟨_,g1,g2,?_⟩
    have:=resL_len (d.2.drop 0) (((([(87:Int),(77:Int),(84:Int),(49:Int)] ++ enc z) ++ enc x) ++ enc y) ++ enc d.2.length)
    rw [List.drop_zero] at this ⊢
    simp only [List.length_append] at this
    omega
section
variable (k:Nat)
theorem markB_go:∀ (m i:Nat) (y:List Int),y.length≤1099511627775→i≤y.length→y.length - i < m → (∀ j,j < i→y.getD j 0=IntKind.u8.wrap ((j+1:Nat):Int))→∃ y':List Int,f22.l20 k m (y,((i+1:Nat):Int),(i:Int))=some (((y.length+1:Nat):Int),y')∧y'.length=y.length∧∀ j,j < y'.length→y'.getD j 0=IntKind.u8.wrap ((j+1:Nat):Int)
 | 0,i,y,_,_,h,_ => by omega
 | m+1,i,y,hx,hi,h,hy => by
   rw [f22.l20]
   by_cases hlt:i < y.length
   ·have hb:(0:Int) ≤ (i:Int) ∧ (i:Int) < (y.length:Int):=⟨by omega,by omega⟩
    rw [if_t (by simpa using hlt),if_t hb,Int.toNat_natCast,wrap_s (by omega),wrap_s (by omega)]
    obtain ⟨y',q1,q2,q3⟩:=markB_go m (i+1) (y.set i (IntKind.u8.wrap ((i+1:Nat):Int))) (by simpa using hx) (by simp; omega) (by simp; omega) (fun j hj => by
     by_cases he:i=j
     ·subst he
      simp [hlt]
     ·have:=hy j (by omega)
      simp only [List.getD_eq_getElem?_getD] at this ⊢
      rw [List.getElem?_set_ne he]
      exact this)
    rw [List.length_set] at q1 q2
    exact ⟨y',q1,q2,q3⟩
   ·have:i=y.length:=by omega
    rw [if_f (by simpa using hlt),this]
    exact ⟨y,rfl,rfl,fun j hj => hy j (by omega)⟩
theorem markB (x:List Int) (hx:x.length≤1099511627775) (hk:x.length < k):∃ y:List Int,f22 k x 1=some (((x.length+1:Nat):Int),y):=by
 obtain ⟨y,q1,q2,q3⟩:=markB_go k k 0 x hx (by omega) (by omega) (fun j hj => by omega)
 exact ⟨y,q1⟩
end
end Go.Proofs.Ytgfekidehbancaa
end
section
set_option linter.unusedVariables false
set_option linter.unusedSimpArgs false
namespace Go.Proofs.Ytgfekidehbancaa
open Go Go.Vm Go.Proofs V
def BOk (x:List Int):Prop:=∀ b ∈ x,0≤b∧b≤255
theorem BOk.drop {x:List Int} (h:BOk x) (i:Nat):BOk (x.drop i):=fun b hb => h b (List.mem_of_mem_drop hb)
theorem and127:∀ x:Fin 256,Go.bits .and .u8 ((x.val:Nat):Int) 127 = ((x.val % 128:Nat):Int):=by decide +kernel
theorem and_b {b:Nat} (h:b≤255):Go.bits .and .u8 (b:Int) 127 = ((b % 128:Nat):Int):=and127 ⟨b,by omega⟩
theorem or_add {j x c:Nat} (hj:j≤49) (hx:x < 2 ^ j) (hc:c < 128):Go.bits .or .i64 (x:Int) ((c*2 ^ j:Nat):Int) = ((x+c*2 ^ j:Nat):Int):=by
 have hp:2 ^ j≤2 ^ 49:=Nat.pow_le_pow_right (by decide) hj
 have hb:c*2 ^ j < 2 ^ 56:=by
  have:=Nat.mul_le_mul (Nat.le_of_lt_succ hc) hp
  have e:(2:Nat) ^ 56=128*2 ^ 49:=by decide
  have p49:(2:Nat) ^ 49=562949953421312:=by decide
  omega
 have hx2:x < 2 ^ 49:=Nat.lt_of_lt_of_le hx hp
 have p56:(2:Nat) ^ 56=72057594037927936:=by decide
 have p49:(2:Nat) ^ 49=562949953421312:=by decide
 have e:x ||| c*2 ^ j=x+c*2 ^ j:=by
  have:=Nat.shiftLeft_add_eq_or_of_lt hx c
  rw [Nat.shiftLeft_eq] at this
  rw [Nat.or_comm,← this,Nat.add_comm]
 have b64:(2:Nat) ^ IntKind.i64.bits=18446744073709551616:=by decide
 have key:Go.bits .or .i64 (x:Int) ((c*2 ^ j:Nat):Int)=IntKind.i64.wrap ((x % 2 ^ IntKind.i64.bits ||| (c*2 ^ j) % 2 ^ IntKind.i64.bits:Nat):Int):=by
  simp only [Go.bits,BitVec.ofInt_natCast,BitVec.toNat_or,BitVec.toNat_ofNat]
 rw [key,b64,Nat.mod_eq_of_lt (by omega),Nat.mod_eq_of_lt (by omega),e]
 exact wrap_in (by omega) (by omega)
def rdN:Nat→List Int→Option (Nat × List Int)
 | 0,_ => none
 | _+1,[] => none
 | d+1,b :: t => if b < 128 then some (b.toNat,t) else (rdN d t).map fun r => (b.toNat % 128+128*r.1,r.2)
theorem rdN_len:∀ {d:Nat} {b:List Int} {n:Nat} {t:List Int},BOk b→rdN d b=some (n,t)→t.length < b.length∧n < 128 ^ d∧∃ i,t=b.drop i
 | 0,b,n,t,_,h => by simp [rdN] at h
 | d+1,[],n,t,_,h => by simp [rdN] at h
 | d+1,c :: b,n,t,hb,h => by
   have hc:=hb c List.mem_cons_self
   unfold rdN at h
   have hp:0 < 128 ^ d:=Nat.pow_pos (by decide)
   rw [Nat.pow_succ]
   by_cases h1:c < 128
   ·rw [if_pos h1] at h
    cases h
    exact ⟨by simp,by omega,1,rfl⟩
   ·rw [if_neg h1] at h
    cases h2:rdN d b with
    | none => rw [h2] at h; simp at h
    | some r =>
      rw [h2] at h
      cases h
      obtain ⟨q1,q2,i,q3⟩:=rdN_len (n:=r.1) (t:=r.2) (fun x hx => hb x (List.mem_cons_of_mem _ hx)) h2
      refine ⟨by simp; omega,by omega,i+1,q3⟩
theorem rdN_enc:∀ (d f n:Nat) (t:List Int),0 < d→n < 128 ^ d→d≤f+1→rdN d (encF f n ++ t)=some (n,t)
 | 0,f,n,t,h0,h,_ => by omega
 | d+1,0,n,t,h0,h,hd => by
   have:d=0:=by omega
   subst this
   have hn:n < 128:=by simpa using h
   simp [encF,rdN]
   omega
 | d+1,f+1,n,t,h0,h,hd => by
   unfold encF
   by_cases hn:n < 128
   ·rw [if_pos hn]
    simp [rdN]
    omega
   ·rw [if_neg hn]
    rw [List.cons_append]
    unfold rdN
    rw [if_neg (by omega)]
    have hd0:0 < d:=by
     rcases d with _ | d
     ·simp at h; omega
     ·omega
    have ih:=rdN_enc d f (n / 128) t hd0 (by rw [Nat.pow_succ] at h; omega) (by omega)
    rw [ih]
    simp
    omega
section
variable (k:Nat) (x:List Int) (hx:BOk x) (hl:x.length≤1048576)
include hx hl
theorem sNum_go:∀ (d j m i acc:Nat) (bad:Bool),d+j=5→acc < 2 ^ (7*j)→d < m→i≤x.length →
 (∀ n t,rdN d (x.drop i)=some (n,t)→f58.l26 k m ((x,((i:Int),bad)),(acc:Int),((7*j:Nat):Int))=some (((acc+2 ^ (7*j)*n:Nat):Int),(x,(((x.length - t.length:Nat):Int),bad)))) ∧
 (rdN d (x.drop i)=none→∃ i',i≤i'∧i'≤x.length∧f58.l26 k m ((x,((i:Int),bad)),(acc:Int),((7*j:Nat):Int))=some ((0:Int),(x,((i':Int),true))))
 | 0,j,0,i,acc,bad,_,_,h,_ => by omega
 | d+1,j,0,i,acc,bad,_,_,h,_ => by omega
 | 0,j,m+1,i,acc,bad,hj,ha,hm,hi => by
   refine ⟨fun n t h => by simp [rdN] at h,fun _ => ⟨i,Nat.le_refl _,hi,?_⟩⟩
   rw [f58.l26,if_f (by simp; omega)]
 | d+1,j,m+1,i,acc,bad,hj,ha,hm,hi => by
   have hc1:decide (((7*j:Nat):Int) < 35)=true:=by simp; omega
   by_cases hlt:i < x.length
   ·have hb:=hx (x.getD i 0) (in_getD hlt)
    obtain ⟨b,hbn⟩:∃ b:Nat,x.getD i 0 = (b:Int):=⟨(x.getD i 0).toNat,by omega⟩
    rw [hbn] at hb
    have hdrop:x.drop i = (b:Int) :: x.drop (i+1):=by rw [getD_drop' (d:=(0:Int)) hlt,hbn]
    have hc2:¬ decide ((i:Int) ≥ (x.length:Int))=true:=by simp; omega
    have hp:2 ^ (7*j)≤2 ^ 28:=Nat.pow_le_pow_right (by decide) (by omega)
    have p28:(2:Nat) ^ 28=268435456:=by decide
    have hmul:(b % 128)*2 ^ (7*j)≤127*268435456:=Nat.mul_le_mul (by omega) (by omega)
    have hmin:(min (Int.toNat ((7*j:Nat):Int)) IntKind.i64.bits)=7*j:=by
     have:IntKind.i64.bits=64:=rfl
     rw [Int.toNat_natCast,this]; omega
    have e1:IntKind.i64.wrap (IntKind.i64.wrap (Go.bits .and .u8 (b:Int) 127)*2 ^ (min (Int.toNat ((7*j:Nat):Int)) IntKind.i64.bits)) = (((b % 128)*2 ^ (7*j):Nat):Int):=by
     rw [and_b (by omega),wrap_in (n:=((b % 128:Nat):Int)) (by omega) (by omega),hmin]
     have:((b % 128:Nat):Int)*2 ^ (7*j) = (((b % 128)*2 ^ (7*j):Nat):Int):=by rw [Int.natCast_mul,Int.natCast_pow]; rfl
     rw [this]
     exact wrap_in (by omega) (by omega)
    have e2:IntKind.i64.wrap ((acc:Int) + (((b % 128)*2 ^ (7*j):Nat):Int)) = ((acc + (b % 128)*2 ^ (7*j):Nat):Int):=by
     rw [wrap_in (by omega) (by omega)]; omega
    have e3:IntKind.u64.wrap (((7*j:Nat):Int)+7) = ((7 * (j+1):Nat):Int):=by
     rw [u64_in (by omega) (by omega)]; omega
    have step:f58.l26 k (m+1) ((x,((i:Int),bad)),(acc:Int),((7*j:Nat):Int))=if decide ((b:Int) < 128) then some (((acc + (b % 128)*2 ^ (7*j):Nat):Int),(x,(((i+1:Nat):Int),bad))) else f58.l26 k m ((x,(((i+1:Nat):Int),bad)),((acc + (b % 128)*2 ^ (7*j):Nat):Int),((7 * (j+1):Nat):Int)):=by
     rw [f58.l26]
     simp only [Int.toNat_natCast]
     rw [Int.toNat_natCast] at e1
     rw [if_t hc1,if_f hc2,if_t ⟨by omega,by omega⟩,if_t (by omega),wrap_s (by omega)]
     simp only [hbn,e1,e2,e3]
    rw [step,hdrop]
    unfold rdN
    by_cases h128:b < 128
    ·rw [if_t (show decide ((b:Int) < 128)=true by simp; omega),if_pos (show (b:Int) < 128 by omega)]
     refine ⟨fun n t h => ?_,fun h => by cases h⟩
     simp only [Option.some.injEq,Prod.mk.injEq] at h
     obtain ⟨rfl,rfl⟩:=h
     have:(b:Int).toNat=b:=rfl
     rw [this,Nat.mod_eq_of_lt h128,Nat.mul_comm b,List.length_drop,show x.length - (x.length - (i+1))=i+1 by omega]
    ·rw [if_f (show ¬ decide ((b:Int) < 128)=true by simp; omega),if_neg (show ¬ (b:Int) < 128 by omega)]
     have hmul2:(b % 128)*2 ^ (7*j)+acc < 2 ^ (7 * (j+1)):=by
      have e7:2 ^ (7 * (j+1))=2 ^ (7*j)*128:=by rw [show 7 * (j+1)=7*j+7 by omega,Nat.pow_add]
      have:(b % 128)*2 ^ (7*j)≤127*2 ^ (7*j):=Nat.mul_le_mul_right _ (by omega)
      omega
     obtain ⟨g1,g2⟩:=sNum_go d (j+1) m (i+1) (acc + (b % 128)*2 ^ (7*j)) bad (by omega) (by omega) (by omega) (by omega)
     refine ⟨fun n t h => ?_,fun h => ?_⟩
     ·cases h2:rdN d (x.drop (i+1)) with
      | none => rw [h2] at h; cases h
      | some r =>
        rw [h2] at h
        simp only [Option.map_some,Option.some.injEq,Prod.mk.injEq] at h
        obtain ⟨rfl,rfl⟩:=h
        rw [g1 r.1 r.2 h2]
        have:(b:Int).toNat=b:=rfl
        have e7:2 ^ (7 * (j+1))=2 ^ (7*j)*128:=by rw [show 7 * (j+1)=7*j+7 by omega,Nat.pow_add]
        rw [this,e7,Nat.mul_add,Nat.mul_comm (b % 128),← Nat.mul_assoc (2 ^ (7*j)),Nat.add_assoc]
     ·cases h2:rdN d (x.drop (i+1)) with
      | none =>
        obtain ⟨i',q1,q2,q3⟩:=g2 h2
        exact ⟨i',by omega,q2,q3⟩
      | some r => rw [h2] at h; cases h
   ·have:i=x.length:=by omega
    rw [this,List.drop_length]
    refine ⟨fun n t h => by simp [rdN] at h,fun _ => ⟨x.length,Nat.le_refl _,Nat.le_refl _,?_⟩⟩
    rw [f58.l26,if_t hc1,if_t (by simp)]
end
theorem iNum_go (k:Nat):∀ (d j m acc:Nat) (x:List Int) (bad:Bool),BOk x→x.length≤1048576→d+j=8→acc < 2 ^ (7*j)→d < m →
 (∀ n t,rdN d x=some (n,t)→f62.l32 k m ((x,bad),(acc:Int),(j:Int))=some (((acc+2 ^ (7*j)*n:Nat):Int),(t,bad))) ∧
 (rdN d x=none→∃ (n:Nat) (t:List Int),n < 72057594037927936∧BOk t∧t.length≤x.length∧f62.l32 k m ((x,bad),(acc:Int),(j:Int))=some ((n:Int),(t,true)))
 | 0,j,0,acc,x,bad,_,_,_,_,h => by omega
 | d+1,j,0,acc,x,bad,_,_,_,_,h => by omega
 | 0,j,m+1,acc,x,bad,hx,hl,hj,ha,hm => by
   refine ⟨fun n t h => by simp [rdN] at h,fun _ => ⟨0,x,by decide,hx,Nat.le_refl _,?_⟩⟩
   rw [f62.l32,if_f (by simp; omega)]
   rfl
 | d+1,j,m+1,acc,[],bad,hx,hl,hj,ha,hm => by
   refine ⟨fun n t h => by simp [rdN] at h,fun _ => ⟨acc,[],?_,hx,Nat.le_refl _,?_⟩⟩
   ·have hp:2 ^ (7*j)≤2 ^ 49:=Nat.pow_le_pow_right (by decide) (by omega)
    have p49:(2:Nat) ^ 49=562949953421312:=by decide
    omega
   have e0:IntKind.i64.wrap (7 * (j:Int)) = ((7*j:Nat):Int):=by rw [wrap_in (by omega) (by omega)]; omega
   have ez:Go.bits .and .u8 0 127=0:=by decide
   have e2:IntKind.i64.wrap (0:Int)=0:=by decide
   have e3:=or_add (j:=7*j) (x:=acc) (c:=0) (by omega) ha (by decide)
   rw [Nat.zero_mul,Nat.add_zero] at e3
   have e85:f85 k ([],bad)=some ((0:Int),([],true)):=by unfold f85; rfl
   rw [f62.l32,if_t (by simp; omega),e85,Option.bind_some,e0,if_t (by omega),if_t (by decide),ez,e2,Int.zero_mul,e2]
   exact congrArg (fun z => some (z,([],true))) e3
 | d+1,j,m+1,acc,c :: x,bad,hx,hl,hj,ha,hm => by
   have hb:=hx c List.mem_cons_self
   obtain ⟨b,rfl⟩:∃ b:Nat,c = (b:Int):=⟨c.toNat,by omega⟩
   have hx':BOk x:=fun y hy => hx y (List.mem_cons_of_mem _ hy)
   have hl':x.length+1≤1048576:=hl
   have e0:IntKind.i64.wrap (7 * (j:Int)) = ((7*j:Nat):Int):=by rw [wrap_in (by omega) (by omega)]; omega
   have e85:f85 k ((b:Int) :: x,bad)=some ((b:Int),(x,bad)):=by
    unfold f85
    rw [if_f (by simp; omega),if_t ⟨by decide,by simp only [List.length_cons]; omega⟩,if_t ⟨by decide,trivial,by simp,by simp⟩]
    simp
   have hp:2 ^ (7*j)≤2 ^ 49:=Nat.pow_le_pow_right (by decide) (by omega)
   have p49:(2:Nat) ^ 49=562949953421312:=by decide
   have hmul:(b % 128)*2 ^ (7*j)≤127*562949953421312:=Nat.mul_le_mul (by omega) (by omega)
   have hmin:(min (7*j) IntKind.i64.bits)=7*j:=by
    have:IntKind.i64.bits=64:=rfl
    rw [this]; omega
   have e1:IntKind.i64.wrap (IntKind.i64.wrap (Go.bits .and .u8 (b:Int) 127)*2 ^ (min (7*j) IntKind.i64.bits)) = (((b % 128)*2 ^ (7*j):Nat):Int):=by
    rw [and_b (by omega),wrap_in (n:=((b % 128:Nat):Int)) (by omega) (by omega),hmin]
    have:((b % 128:Nat):Int)*2 ^ (7*j) = (((b % 128)*2 ^ (7*j):Nat):Int):=by rw [Int.natCast_mul,Int.natCast_pow]; rfl
    rw [this]
    exact wrap_in (by omega) (by omega)
   have e2:=or_add (j:=7*j) (x:=acc) (c:=b % 128) (by omega) ha (by omega)
   have step:f62.l32 k (m+1) (((b:Int) :: x,bad),(acc:Int),(j:Int))=if decide ((b:Int) < 128) then some (((acc + (b % 128)*2 ^ (7*j):Nat):Int),(x,bad)) else f62.l32 k m ((x,bad),((acc + (b % 128)*2 ^ (7*j):Nat):Int),((j+1:Nat):Int)):=by
    rw [f62.l32,if_t (by simp; omega),e85,Option.bind_some,e0,if_t (by omega),Int.toNat_natCast]
    simp only [e1,e2]
    rw [wrap_s (by omega)]
   rw [step]
   unfold rdN
   by_cases h128:b < 128
   ·rw [if_t (show decide ((b:Int) < 128)=true by simp; omega),if_pos (show (b:Int) < 128 by omega)]
    refine ⟨fun n t h => ?_,fun h => by cases h⟩
    simp only [Option.some.injEq,Prod.mk.injEq] at h
    obtain ⟨rfl,rfl⟩:=h
    have:(b:Int).toNat=b:=rfl
    rw [this,Nat.mod_eq_of_lt h128,Nat.mul_comm b]
   ·rw [if_f (show ¬ decide ((b:Int) < 128)=true by simp; omega),if_neg (show ¬ (b:Int) < 128 by omega)]
    have e7:2 ^ (7 * (j+1))=2 ^ (7*j)*128:=by rw [show 7 * (j+1)=7*j+7 by omega,Nat.pow_add]
    have hmul2:acc + (b % 128)*2 ^ (7*j) < 2 ^ (7 * (j+1)):=by
     have:(b % 128)*2 ^ (7*j)≤127*2 ^ (7*j):=Nat.mul_le_mul_right _ (by omega)
     omega
    obtain ⟨g1,g2⟩:=iNum_go k d (j+1) m (acc + (b % 128)*2 ^ (7*j)) x bad hx' (by omega) (by omega) hmul2 (by omega)
    refine ⟨fun n t h => ?_,fun h => ?_⟩
    ·cases h2:rdN d x with
     | none => rw [h2] at h; cases h
     | some r =>
       rw [h2] at h
       simp only [Option.map_some,Option.some.injEq,Prod.mk.injEq] at h
       obtain ⟨rfl,rfl⟩:=h
       rw [g1 r.1 r.2 h2]
       have:(b:Int).toNat=b:=rfl
       rw [this,e7,Nat.mul_add,Nat.mul_comm (b % 128),← Nat.mul_assoc (2 ^ (7*j)),Nat.add_assoc]
    ·cases h2:rdN d x with
     | none =>
       obtain ⟨n,t,q9,q0,q1,q2⟩:=g2 h2
       exact ⟨n,t,q9,q0,by simp; omega,q2⟩
     | some r => rw [h2] at h; cases h
end Go.Proofs.Ytgfekidehbancaa
end
section
set_option linter.unusedVariables false
set_option linter.unusedSimpArgs false
namespace Go.Proofs.Ytgfekidehbancaa
open Go Go.Vm Go.Proofs V
structure Rdr (σ:Type) where
 rest:σ→List Int
 bad:σ→Bool
 Inv:σ→Prop
def b01:Bool→Nat
 | true => 0
 | false => 1
theorem b01_t:b01 true=0:=rfl
theorem b01_f:b01 false=1:=rfl
theorem b01_le (b:Bool):b01 b≤1:=by cases b <;> simp [b01]
def Rdr.mu {σ:Type} (R:Rdr σ) (s:σ):Nat:=(R.rest s).length+b01 (R.bad s)
def Rdr.ext {σ:Type} (R:Rdr σ) (γ:Type):Rdr (σ × γ):=⟨fun s => R.rest s.1,fun s => R.bad s.1,fun s => R.Inv s.1⟩
theorem Rdr.ext_mu {σ:Type} (R:Rdr σ) (γ:Type) (s:σ × γ):(R.ext γ).mu s=R.mu s.1:=rfl
def Tot {σ α:Type} (R:Rdr σ) (act:σ→Option (α × σ)) (P:α→Prop):Prop :=
 ∀ s,R.Inv s→∃ a s',act s=some (a,s')∧R.Inv s'∧P a∧R.mu s'≤R.mu s ∧ (R.bad s=false→R.mu s' < R.mu s) ∧ (R.bad s=true→R.bad s'=true)
def Cmp {σ α:Type} (R:Rdr σ) (act:σ→Option (α × σ)) (a:α) (bs:List Int):Prop :=
 ∀ s u,R.Inv s→R.bad s=false→R.rest s=bs ++ u→∃ s',act s=some (a,s')∧R.Inv s'∧R.rest s'=u∧R.bad s'=false
section
variable {σ α β:Type} {R:Rdr σ} {L:Nat→σ→List α→Int→Option β} {fin:σ→List α→Option β} {N:Int} {B:Nat} {Q:α→Prop}
theorem loop_tot (hS:∀ m s acc c,R.Inv s→R.bad s=false→0 < c→c≤N→acc.length≤B→∃ a s',L (m+1) s acc c=L m s' (acc ++ [a]) (c - 1)∧R.Inv s'∧Q a∧R.mu s' < R.mu s)
 (hE:∀ m s acc c,¬ (0 < c∧R.bad s=false)→L (m+1) s acc c=fin s acc) :
 ∀ m s acc c,R.Inv s→c≤N→R.mu s < m→acc.length+R.mu s≤B → (∀ a ∈ acc,Q a) →
   ∃ acc' s',L m s acc c=fin s' acc'∧R.Inv s'∧R.mu s'≤R.mu s∧acc'.length+R.mu s'≤B ∧ (∀ a ∈ acc',Q a) ∧ (R.bad s=true→R.bad s'=true):=by
 intro m
 induction m with
 | zero => intro s acc c _ _ h; omega
 | succ m ih =>
   intro s acc c hi hc hm hb hq
   by_cases h:0 < c∧R.bad s=false
   ·obtain ⟨a,s',q1,q2,q3,q4⟩:=hS m s acc c hi h.2 h.1 hc (by omega)
    obtain ⟨acc',s2,g1,g2,g3,g4,g5,_⟩:=ih s' (acc ++ [a]) (c - 1) q2 (by omega) (by omega) (by simp; omega) (fun y hy => by
     rcases List.mem_append.1 hy with hy | hy
     ·exact hq y hy
     ·rw [List.mem_singleton] at hy; rw [hy]; exact q3)
    exact ⟨acc',s2,q1.trans g1,g2,by omega,g4,g5,fun hb => by rw [h.2] at hb; cases hb⟩
   ·exact ⟨acc,s,hE m s acc c h,hi,Nat.le_refl _,hb,hq,id⟩
variable {γ:Type} {g:σ→γ} {nx:α→γ} {Bt:γ→α→List Int} {Ok:γ→α→Prop}
def bl {α γ:Type} (nx:α→γ) (Bt:γ→α→List Int):γ→List α→List Int
 | _,[] => []
 | e,a :: ls => Bt e a ++ bl nx Bt (nx a) ls
def okl {α γ:Type} (nx:α→γ) (Ok:γ→α→Prop):γ→List α→Prop
 | _,[] => True
 | e,a :: ls => Ok e a∧okl nx Ok (nx a) ls
theorem loop_cmp (hC:∀ m s acc c a u,R.Inv s→R.bad s=false→0 < c→c≤N→acc.length≤B→Ok (g s) a→R.rest s=Bt (g s) a ++ u→∃ s',L (m+1) s acc c=L m s' (acc ++ [a]) (c - 1)∧R.Inv s'∧R.rest s'=u∧R.bad s'=false∧g s'=nx a)
 (hE:∀ m s acc c,¬ (0 < c∧R.bad s=false)→L (m+1) s acc c=fin s acc) :
 ∀ (ls:List α) m s acc u,R.Inv s→R.bad s=false→R.rest s=bl nx Bt (g s) ls ++ u→ls.length < m→acc.length+ls.length≤B → (ls.length:Int)≤N→okl nx Ok (g s) ls →
   ∃ s',L m s acc (ls.length:Int)=fin s' (acc ++ ls)∧R.Inv s'∧R.bad s'=false∧R.rest s'=u:=by
 intro ls
 induction ls with
 | nil =>
   intro m s acc u hi hb hr hm hB hN ho
   obtain ⟨m,rfl⟩:∃ n,m=n+1:=⟨m - 1,by simp at hm; omega⟩
   exact ⟨s,by rw [List.append_nil]; exact hE m s acc _ (fun h => by simp at h),hi,hb,by simpa [bl] using hr⟩
 | cons a ls ih =>
   intro m s acc u hi hb hr hm hB hN ho
   obtain ⟨m,rfl⟩:∃ n,m=n+1:=⟨m - 1,by omega⟩
   simp only [List.length_cons] at hm hB hN
   have hr':R.rest s=Bt (g s) a ++ (bl nx Bt (nx a) ls ++ u):=by rw [hr,bl,List.append_assoc]
   obtain ⟨s',q1,q2,q3,q4,q5⟩:=hC m s acc ((ls.length+1:Nat):Int) a _ hi hb (by omega) (by omega) (by omega) ho.1 hr'
   rw [← q5] at q3
   obtain ⟨s2,g1,g2,g3,g4⟩:=ih m s' (acc ++ [a]) u q2 q4 q3 (by omega) (by simp; omega) (by omega) (by rw [q5]; exact ho.2)
   refine ⟨s2,?_,g2,g3,g4⟩
   rw [List.length_cons,q1]
   have e:(((ls.length+1:Nat):Int) - 1) = (ls.length:Int):=by omega
   rw [e,g1,List.append_assoc]
   rfl
end
def sdec (z:Int):Int:=if ((Int.tmod z 2:Int) == 1)=true then IntKind.i64.wrap (Int.tdiv (IntKind.i64.wrap (0 - IntKind.i64.wrap (z+1))) 2) else IntKind.i64.wrap (Int.tdiv z 2)
theorem sdec_sgn {v:Int} (h1:-5000≤v) (h2:v≤5000):sdec (sgn v:Nat)=v:=by
 unfold sdec sgn
 by_cases hv:v < 0
 ·rw [if_pos hv]
  have e:(((-2*v - 1).toNat:Nat):Int) = -2*v - 1:=by omega
  rw [e,Int.tmod_eq_emod_of_nonneg (by omega)]
  rw [if_t (by simp; omega),wrap_in (n:=-2*v - 1+1) (by omega) (by omega),wrap_in (n:=0 - (-2*v - 1+1)) (by omega) (by omega)]
  have e2:(0 - (-2*v - 1+1):Int)=v*2:=by omega
  rw [e2,Int.mul_tdiv_cancel _ (by decide)]
  exact wrap_in (by omega) (by omega)
 ·rw [if_neg hv]
  have e:(((2*v).toNat:Nat):Int)=2*v:=by omega
  rw [e,Int.tmod_eq_emod_of_nonneg (by omega)]
  rw [if_f (by simp),Int.mul_comm,Int.mul_tdiv_cancel _ (by decide)]
  exact wrap_in (by omega) (by omega)
section
variable {σ:Type} {R:Rdr σ} {num sig:σ→Option (Int × σ)} (hs:∀ s,sig s = (num s).bind fun r => some (sdec r.1,r.2))
include hs
theorem sig_tot {P:Int→Prop} (h:Tot R num P):Tot R sig (fun _ => True):=fun s hi => by
 obtain ⟨a,s',q1,q2,q3,q4⟩:=h s hi
 exact ⟨sdec a,s',by rw [hs,q1]; rfl,q2,trivial,q4⟩
theorem sig_cmp {v:Int} (h1:-5000≤v) (h2:v≤5000) (h:Cmp R num (sgn v:Nat) (enc (sgn v))):Cmp R sig v (enc (sgn v)):=fun s u hi hb hr => by
 obtain ⟨s',q1,q2⟩:=h s u hi hb hr
 exact ⟨s',by rw [hs,q1,Option.bind_some,sdec_sgn h1 h2],q2⟩
end
theorem strOf_size (l:List Int):(strOfNums l).size=l.length:=by
 simp [strOfNums,ByteArray.size]
theorem strOf_str (t:ByteArray):strOfNums (strNums t)=t:=by
 unfold strOfNums strNums
 cases t with
 | mk d =>
   congr 1
   apply Array.ext'
   rw [List.map_map]
   refine (List.map_congr_left (g:=id) fun b _ => ?_).trans (List.map_id _)
   simp
end Go.Proofs.Ytgfekidehbancaa
end
section
set_option linter.unusedVariables false
set_option linter.unusedSimpArgs false
set_option linter.unusedSectionVars false
namespace Go.Proofs.Ytgfekidehbancaa
open Go Go.Vm Go.Proofs V
theorem drop_suffix {x t:List Int} {i:Nat} (h:t=x.drop i) (hi:i≤x.length):x.drop (x.length - t.length)=t:=by
 subst h
 rw [List.length_drop,show x.length - (x.length - i)=i by omega]
def NumP (n:Int):Prop:=0≤n∧n < 72057594037927936
def StrP (t:ByteArray):Prop:=t.size≤1048576
def TagsP (ts:Tags):Prop:=ts.length≤1048576∧∀ t ∈ ts,t.1.size≤1048576∧t.2.size≤1048576
def RS (x:List Int):Rdr (List Int × (Int × Bool)):=⟨fun s => s.1.drop s.2.1.toNat,fun s => s.2.2,fun s => s.1=x∧∃ i:Nat,s.2.1 = (i:Int)∧4≤i∧i≤x.length⟩
section
variable (k:Nat) (hk:1048576 < k) (x:List Int) (hx:BOk x) (hl:x.length≤1048576)
include hk hx hl
theorem sNum (i:Nat) (bad:Bool) (hi:i≤x.length) :
 (∀ n t,rdN 5 (x.drop i)=some (n,t)→f58 k (x,((i:Int),bad))=some ((n:Int),(x,(((x.length - t.length:Nat):Int),bad)))) ∧
 (rdN 5 (x.drop i)=none→∃ i',i≤i'∧i'≤x.length∧f58 k (x,((i:Int),bad))=some ((0:Int),(x,((i':Int),true)))):=by
 obtain ⟨h1,h2⟩:=sNum_go k x hx hl 5 0 k i 0 bad (by omega) (by decide) (by omega) hi
 refine ⟨fun n t h => ?_,fun h => h2 h⟩
 have:=h1 n t h
 simpa [f58] using this
theorem sNum_tot:Tot (RS x) (f58 k) NumP:=by
 rintro ⟨y,i0,bad⟩ ⟨hy,i,h1,h4,h2⟩
 have hy:y=x:=hy
 subst hy
 simp only at h1 h2
 subst h1
 obtain ⟨g1,g2⟩:=sNum k hk y hx hl i bad h2
 cases hr:rdN 5 (y.drop i) with
 | none =>
   obtain ⟨i',q1,q2,q3⟩:=g2 hr
   refine ⟨0,_,q3,⟨rfl,i',rfl,by omega,q2⟩,⟨by decide,by decide⟩,?_,?_,fun _ => rfl⟩
   ·simp only [Rdr.mu,RS,Int.toNat_natCast,List.length_drop,b01_t,b01_f]; omega
   ·intro hb
    have:bad=false:=hb
    subst this
    simp only [Rdr.mu,RS,Int.toNat_natCast,List.length_drop,b01_t,b01_f]; omega
 | some r =>
   obtain ⟨p1,p2,q,p3⟩:=rdN_len (n:=r.1) (t:=r.2) (hx.drop i) hr
   have p128:(128:Nat) ^ 5=34359738368:=by decide
   rw [List.length_drop] at p1
   refine ⟨_,_,g1 r.1 r.2 hr,⟨rfl,_,rfl,by omega,by omega⟩,⟨by omega,by omega⟩,?_,?_,id⟩
   ·simp only [Rdr.mu,RS,Int.toNat_natCast,List.length_drop]; omega
   ·intro _
    simp only [Rdr.mu,RS,Int.toNat_natCast,List.length_drop]; omega
theorem sNum_cmp (n:Nat) (hn:n < 34359738368):Cmp (RS x) (f58 k) (n:Int) (enc n):=by
 rintro ⟨y,i0,bad⟩ u ⟨hy,i,h1,h4,h2⟩ hb hr
 have hy:y=x:=hy
 subst hy
 simp only at h1 h2
 subst h1
 have hr':y.drop i=enc n ++ u:=hr
 have p128:(128:Nat) ^ 5=34359738368:=by decide
 have h5:=rdN_enc 5 9 n u (by decide) (by omega) (by decide)
 have h6:rdN 5 (y.drop i)=some (n,u):=by rw [hr']; exact h5
 obtain ⟨p1,p2,q,p3⟩:=rdN_len (hx.drop i) h6
 rw [List.length_drop] at p1
 obtain ⟨g1,_⟩:=sNum k hk y hx hl i bad h2
 refine ⟨_,g1 n u h6,⟨rfl,_,rfl,by omega,by omega⟩,?_,hb⟩
 show y.drop (Int.toNat _)=u
 rw [Int.toNat_natCast]
 have:u=y.drop (i+q):=by rw [p3,List.drop_drop]
 by_cases hle:i+q≤y.length
 ·exact drop_suffix this hle
 ·have hu:u=[]:=by rw [this,List.drop_eq_nil_of_le (by omega)]
  rw [hu]
  simp
theorem sSig_eq (s:List Int × (Int × Bool)):f59 k s = (f58 k s).bind fun r => some (sdec r.1,r.2):=by
 unfold f59 sdec
 congr 1
 funext r
 rw [if_t (by decide)]
 by_cases h:((Int.tmod r.1 2:Int) == 1)=true
 ·rw [if_t h,if_t (by decide),if_t h]
 ·rw [if_f h,if_t (by decide),if_f h]
theorem sSig_tot:Tot (RS x) (f59 k) (fun _ => True):=sig_tot (sSig_eq k hk x hx hl) (sNum_tot k hk x hx hl)
theorem sgn_lt {v:Int} (h1:-5000≤v) (h2:v≤5000):sgn v < 34359738368:=by
 unfold sgn; split <;> omega
theorem sSig_cmp {v:Int} (h1:-5000≤v) (h2:v≤5000):Cmp (RS x) (f59 k) v (enc (sgn v)):=sig_cmp (sSig_eq k hk x hx hl) h1 h2 (sNum_cmp k hk x hx hl _ (sgn_lt k hk x hx hl h1 h2))
theorem sTxt_tot:Tot (RS x) (f83 k) StrP:=by
 intro s hi
 obtain ⟨n,⟨y,i0,bad⟩,q1,⟨hy,i,hi1,hi4,hi2⟩,⟨n0,n1⟩,q4,q5,q6⟩:=sNum_tot k hk x hx hl s hi
 have hy:y=x:=hy
 subst hy
 simp only at hi1 hi2
 subst hi1
 obtain ⟨nn,rfl⟩:∃ nn:Nat,n = (nn:Int):=⟨n.toNat,by omega⟩
 unfold f83
 rw [q1,Option.bind_some]
 have hw:IntKind.i64.wrap ((y.length:Int) - (i:Int)) = ((y.length - i:Nat):Int):=by rw [wrap_in (by omega) (by omega)]; omega
 simp only [hw]
 simp only [Rdr.mu,RS,Int.toNat_natCast,List.length_drop] at q4 q5 q6
 by_cases hc:(bif bad then true else decide ((nn:Int) > ((y.length - i:Nat):Int)))=true
 ·rw [if_t hc]
  refine ⟨_,_,rfl,⟨rfl,i,rfl,hi4,hi2⟩,by simp [StrP,ByteArray.size],?_,?_,fun _ => rfl⟩
  ·simp only [Rdr.mu,RS,Int.toNat_natCast,List.length_drop,b01_t,b01_f]; omega
  ·intro hb
   have:=q5 hb
   simp only [Rdr.mu,RS,Int.toNat_natCast,List.length_drop,b01_t,b01_f]; omega
 ·rw [if_f hc]
  have hle:nn≤y.length - i:=by
   cases bad with
   | true => exact absurd rfl hc
   | false =>
     have:¬ decide ((nn:Int) > ((y.length - i:Nat):Int))=true:=hc
     simp only [decide_eq_true_eq] at this
     omega
  have hw1:IntKind.i64.wrap ((i:Int) + (nn:Int)) = ((i+nn:Nat):Int):=by rw [wrap_in (by omega) (by omega)]; omega
  have hw2:IntKind.i64.wrap (((i+nn:Nat):Int) - (nn:Int)) = (i:Int):=by rw [wrap_in (by omega) (by omega)]; omega
  simp only [hw1,hw2,Int.toNat_natCast]
  rw [if_t ⟨by omega,by omega,by omega,by omega⟩]
  refine ⟨_,_,rfl,⟨rfl,i+nn,rfl,by omega,by omega⟩,?_,?_,?_,q6⟩
  ·unfold StrP; rw [strOf_size]; simp only [List.length_drop,List.length_take]; omega
  ·simp only [Rdr.mu,RS,Int.toNat_natCast,List.length_drop]; omega
  ·intro hb
   have:=q5 hb
   simp only [Rdr.mu,RS,Int.toNat_natCast,List.length_drop]; omega
theorem sTxt_cmp (t:ByteArray) (ht:t.size≤1000):Cmp (RS x) (f83 k) t (enc t.size ++ strNums t):=by
 intro s u hi hb hr
 rw [List.append_assoc] at hr
 obtain ⟨⟨y,i0,bad⟩,q1,⟨hy,i,hi1,hi4,hi2⟩,q3,q4⟩:=sNum_cmp k hk x hx hl t.size (by omega) s _ hi hb hr
 have hy:y=x:=hy
 subst hy
 simp only at hi1 hi2
 subst hi1
 have hb4:bad=false:=q4
 subst hb4
 have q3':y.drop i=strNums t ++ u:=q3
 have hlen:y.length - i=t.size+u.length:=by
  have:=congrArg List.length q3'
  simpa [strNums_len] using this
 unfold f83
 rw [q1,Option.bind_some]
 have hw:IntKind.i64.wrap ((y.length:Int) - (i:Int)) = ((y.length - i:Nat):Int):=by rw [wrap_in (by omega) (by omega)]; omega
 have hw1:IntKind.i64.wrap ((i:Int) + (t.size:Int)) = ((i+t.size:Nat):Int):=by rw [wrap_in (by omega) (by omega)]; omega
 have hw2:IntKind.i64.wrap (((i+t.size:Nat):Int) - (t.size:Int)) = (i:Int):=by rw [wrap_in (by omega) (by omega)]; omega
 have hc:¬ (bif false then true else decide ((t.size:Int) > ((y.length - i:Nat):Int)))=true:=by simp; omega
 simp only [hw,hw1,hw2,Int.toNat_natCast]
 rw [if_f hc,if_t ⟨by omega,by omega,by omega,by omega⟩]
 have e:(y.take (i+t.size)).drop i=strNums t:=by
  rw [List.drop_take,q3',Nat.add_sub_cancel_left]
  exact List.take_left' (strNums_len t)
 refine ⟨_,by rw [e,strOf_str],⟨rfl,i+t.size,rfl,by omega,by omega⟩,?_,rfl⟩
 show y.drop (Int.toNat _)=u
 rw [Int.toNat_natCast,← List.drop_drop,q3']
 exact List.drop_left' (strNums_len t)
theorem sTags_tot:Tot (RS x) (f60 k) TagsP:=by
 intro s hi
 obtain ⟨n,s1,q1,q2,⟨n0,n1⟩,q4,q5,q6⟩:=sNum_tot k hk x hx hl s hi
 have hmu:(RS x).mu s1≤1048573:=by
  obtain ⟨e,i,h1,h4,h2⟩:=q2
  simp only [Rdr.mu,RS,e,h1,Int.toNat_natCast,List.length_drop]
  have:=b01_le s1.2.2
  omega
 obtain ⟨ts,s2,g1,g2,g3,g4,g5,g6⟩:=loop_tot (R:=RS x) (L:=fun m s acc c => f60.l45 k m (s,acc,c)) (fin:=fun s acc => some (acc,s)) (N:=72057594037927936) (B:=1048573) (Q:=fun t:ByteArray × ByteArray => t.1.size≤1048576∧t.2.size≤1048576)
  (fun m s acc c hi hb hc hN hB => by
   obtain ⟨a,sa,a1,a2,a3,a4,a5,a6⟩:=sTxt_tot k hk x hx hl s hi
   obtain ⟨b,sb,b1,b2,b3,b4,b5,b6⟩:=sTxt_tot k hk x hx hl sa a2
   refine ⟨(a,b),sb,?_,b2,⟨a3,b3⟩,Nat.lt_of_le_of_lt b4 (a5 hb)⟩
   have hb':s.2.2=false:=hb
   simp only [f60.l45]
   rw [if_t (by rw [hb']; simp; omega),a1,Option.bind_some,b1,Option.bind_some,if_t (by simp; omega),wrap_in (by omega) (by omega)])
  (fun m s acc c h => by
   simp only [f60.l45]
   rw [if_f (fun hh => h (by
    have hb':(RS x).bad s=s.2.2:=rfl
    rw [hb']
    cases hq:s.2.2 <;> rw [hq] at hh <;> by_cases hc:c > 0 <;> simp [hc] at hh ⊢ <;> omega))])
  k s1 [] n q2 (by omega) (by omega) (by simp; omega) (fun a h => by simp at h)
 refine ⟨ts,s2,?_,g2,⟨by omega,g5⟩,by omega,fun h => by have:=q5 h; omega,fun h => g6 (q6 h)⟩
 unfold f60
 rw [q1,Option.bind_some]
 exact g1
def tagB (_:Unit) (t:ByteArray × ByteArray):List Int:=(enc t.1.size ++ strNums t.1) ++ (enc t.2.size ++ strNums t.2)
def tagO (_:Unit) (t:ByteArray × ByteArray):Prop:=t.1.size≤1000∧t.2.size≤1000
end
theorem bl_tags:∀ (ts:Tags),bl (fun _ => ()) tagB () ts=encTgs ts
 | [] => rfl
 | t :: ts => by simp [bl,bl_tags ts,encTgs,encTag,tagB]
theorem ok_tags:∀ (ts:Tags),(∀ t ∈ ts,t.1.size≤40∧t.2.size≤100)→okl (fun _ => ()) tagO () ts
 | [],_ => trivial
 | t :: ts,h => ⟨by have:=h t List.mem_cons_self; exact ⟨by omega,by omega⟩,ok_tags ts (fun t ht => h t (List.mem_cons_of_mem _ ht))⟩
section
variable (k:Nat) (hk:1048576 < k) (x:List Int) (hx:BOk x) (hl:x.length≤1048576)
include hk hx hl
theorem sTags_cmp (ts:Tags) (hlen:ts.length≤30) (ht:∀ t ∈ ts,t.1.size≤40∧t.2.size≤100):Cmp (RS x) (f60 k) ts (encTags ts):=by
 intro s u hi hb hr
 unfold encTags at hr
 rw [List.append_assoc,← bl_tags] at hr
 obtain ⟨s1,q1,q2,q3,q4⟩:=sNum_cmp k hk x hx hl ts.length (by omega) s _ hi hb hr
 obtain ⟨s2,g1,g2,g3,g4⟩:=loop_cmp (R:=RS x) (L:=fun m s acc c => f60.l45 k m (s,acc,c)) (fin:=fun s acc => some (acc,s)) (N:=72057594037927936) (B:=2097152) (g:=fun _ => ()) (nx:=fun _ => ()) (Bt:=tagB) (Ok:=tagO)
  (fun m s acc c a u hi hb hc hN hB hO hr => by
   unfold tagB at hr
   rw [List.append_assoc] at hr
   obtain ⟨sa,a1,a2,a3,a4⟩:=sTxt_cmp k hk x hx hl a.1 hO.1 s _ hi hb hr
   obtain ⟨sb,b1,b2,b3,b4⟩:=sTxt_cmp k hk x hx hl a.2 hO.2 sa _ a2 a4 a3
   refine ⟨sb,?_,b2,b3,b4,rfl⟩
   have hb':s.2.2=false:=hb
   simp only [f60.l45]
   rw [if_t (by rw [hb']; simp; omega),a1,Option.bind_some,b1,Option.bind_some,if_t (by simp; omega),wrap_in (by omega) (by omega)])
  (fun m s acc c h => by
   simp only [f60.l45]
   rw [if_f (fun hh => h (by
    have hb':(RS x).bad s=s.2.2:=rfl
    rw [hb']
    cases hq:s.2.2 <;> rw [hq] at hh <;> by_cases hc:c > 0 <;> simp [hc] at hh ⊢ <;> omega))])
  ts k s1 [] u q2 q4 q3 (by omega) (by simp; omega) (by omega) (ok_tags ts ht)
 refine ⟨s2,?_,g2,g4,g3⟩
 unfold f60
 rw [q1,Option.bind_some]
 exact g1
end
end Go.Proofs.Ytgfekidehbancaa
end
section
set_option linter.unusedVariables false
set_option linter.unusedSimpArgs false
set_option linter.unusedSectionVars false
namespace Go.Proofs.Ytgfekidehbancaa
open Go Go.Vm Go.Proofs V
def ptB (a p:Pt):List Int:=enc (sgn (p.1 - a.1)) ++ enc (sgn (p.2 - a.2))
def ptO (a p:Pt):Prop:=((0≤a.1∧a.1≤4096)∧0≤a.2∧a.2≤4096) ∧ ((0≤p.1∧p.1≤4096)∧0≤p.2∧p.2≤4096)
theorem bl_pts:∀ (a:Pt) (ps:List Pt),bl id ptB a ps=encPts a ps
 | _,[] => rfl
 | a,p :: ps => by simp [bl,bl_pts p ps,encPts,ptB]
theorem ok_pts:∀ (a:Pt) (ps:List Pt),((0≤a.1∧a.1≤4096)∧0≤a.2∧a.2≤4096) → (∀ p ∈ ps,ptOk p=true)→okl id ptO a ps
 | _,[],_,_ => trivial
 | a,p :: ps,ha,h => by
   have hp:=ptOk_iff.1 (h p List.mem_cons_self)
   exact ⟨⟨ha,hp⟩,ok_pts p ps hp (fun q hq => h q (List.mem_cons_of_mem _ hq))⟩
theorem tags_small {ts:Tags} (h:tagsOk ts=true):ts.length≤30∧∀ t ∈ ts,t.1.size≤40∧t.2.size≤100:=by
 refine ⟨(tags_len h).1,fun t ht => ?_⟩
 unfold tagsOk at h
 rw [Bool.and_eq_true] at h
 obtain ⟨i,hi,rfl⟩:=List.getElem_of_mem ht
 have h2:=allTo_get h.2 hi
 unfold okTag wordB valB at h2
 simp only [Bool.and_eq_true,decide_eq_true_eq] at h2
 have e:ts.getD i dT=ts[i]:=by simp [List.getD_eq_getElem?_getD,hi]
 rw [e] at h2
 exact ⟨h2.1.1.1.2,h2.1.2.1.2⟩
theorem bl_lines:∀ (ls:List Line),bl (fun _ => ()) (fun (_:Unit) l => encLine l) () ls=encLines ls
 | [] => rfl
 | l :: ls => by simp [bl,bl_lines ls,encLines]
theorem ok_lines:∀ (ls:List Line),(∀ l ∈ ls,lineOk l=true)→okl (fun _ => ()) (fun (_:Unit) l => lineOk l=true) () ls
 | [],_ => trivial
 | l :: ls,h => ⟨h l List.mem_cons_self,ok_lines ls (fun l hl => h l (List.mem_cons_of_mem _ hl))⟩
section
variable {σ β:Type} {R:Rdr σ} {num sig:σ→Option (Int × σ)} {tags:σ→Option (Tags × σ)} {Ll:Nat→σ→List Line→Int→Option β} {fin2:σ→List Line→Option β}
 {PP:Nat→List Line → (Int × σ)→Int → (Int × σ)→Nat→σ→List Pt→Pt→Int→Option β} {k:Nat} {N2:Int}
 (hk:1048576 < k) (hmu:∀ s,R.Inv s→R.mu s≤1048573)
 (hP1:∀ m acc w c n j s row p d,R.bad s=false→0 < d→d≤n.1→n.1≤72057594037927936→row.length≤2097152→PP m acc w c n (j+1) s row p d = (sig s).bind fun a => (sig a.2).bind fun b => PP m acc w c n j b.2 (row ++ [(IntKind.i64.wrap (p.1+a.1),IntKind.i64.wrap (p.2+b.1))]) (IntKind.i64.wrap (p.1+a.1),IntKind.i64.wrap (p.2+b.1)) (d - 1))
 (hP2:∀ m acc w c n j s row p d,¬ (0 < d∧R.bad s=false)→0 < c→c≤N2→acc.length≤2097152→PP m acc w c n (j+1) s row p d = (tags s).bind fun r => Ll m r.2 (acc ++ [(w.1,(row,r.1))]) (c - 1))
 (hL1:∀ m s acc c,R.bad s=false→0 < c→c≤N2→acc.length≤2097152→Ll (m+1) s acc c = (num s).bind fun r0 => (num r0.2).bind fun r1 => PP m acc r0 c r1 k r1.2 [] (0,0) r1.1)
 (hL2:∀ m s acc c,¬ (0 < c∧R.bad s=false)→Ll (m+1) s acc c=fin2 s acc)
include hk hmu hP1 hP2 hL1 hL2
theorem lines_tot (hN:Tot R num NumP) (hG:Tot R sig (fun _ => True)) (hT:Tot R tags TagsP) (s:σ) (c:Int) (hi:R.Inv s) (hc:c≤N2) :
 ∃ acc' s',Ll k s [] c=fin2 s' acc'∧R.Inv s'∧acc'.length≤1048576 ∧ (∀ l ∈ acc',LSz l) ∧ (R.bad s=true→R.bad s'=true):=by
 have hm0:=hmu s hi
 obtain ⟨acc',s',g1,g2,g3,g4,g5,g6⟩:=loop_tot (R:=R) (L:=Ll) (fin:=fin2) (N:=N2) (B:=1048573) (Q:=LSz)
  (fun m s acc c hi hb hc hN2 hB => by
   obtain ⟨w,s1,a1,a2,a3,a4,a5,a6⟩:=hN s hi
   obtain ⟨n,s2,b1,b2,b3,b4,b5,b6⟩:=hN s1 a2
   have hm2:=hmu s2 b2
   obtain ⟨row,s3,c1,c2,c3,c4,c5,c6⟩:=loop_tot (R:=R.ext Pt) (L:=fun j s row d => PP m acc (w,s1) c (n,s2) j s.1 row s.2 d) (fin:=fun s row => (tags s.1).bind fun r => Ll m r.2 (acc ++ [(w,(row,r.1))]) (c - 1)) (N:=n) (B:=1048573) (Q:=fun _ => True)
    (fun j s row d hi hb hd hn hB => by
     obtain ⟨x,sa,e1,e2,e3,e4,e5,e6⟩:=hG s.1 hi
     obtain ⟨y,sb,f1,f2,f3,f4,f5,f6⟩:=hG sa e2
     refine ⟨(IntKind.i64.wrap (s.2.1+x),IntKind.i64.wrap (s.2.2+y)),(sb,(IntKind.i64.wrap (s.2.1+x),IntKind.i64.wrap (s.2.2+y))),?_,f2,trivial,Nat.lt_of_le_of_lt f4 (e5 hb)⟩
     rw [hP1 m acc (w,s1) c (n,s2) j s.1 row s.2 d hb hd hn (by have:=b3.2; simp only; omega) (by omega),e1,Option.bind_some,f1,Option.bind_some])
    (fun j s row d h => hP2 m acc (w,s1) c (n,s2) j s.1 row s.2 d h hc hN2 (by omega))
    k (s2,(0,0)) [] n b2 (Int.le_refl _) (by rw [Rdr.ext_mu]; simp only; omega) (by rw [Rdr.ext_mu]; simp only [List.length_nil]; omega) (fun a h => by simp at h)
   obtain ⟨ts,s4,d1,d2,d3,d4,d5,d6⟩:=hT s3.1 c2
   refine ⟨(w,(row,ts)),s4,?_,d2,⟨by simp only; omega,d3.1,d3.2⟩,?_⟩
   ·rw [hL1 m s acc c hb hc hN2 (by omega),a1,Option.bind_some,b1,Option.bind_some]
    refine c1.trans ?_
    rw [d1,Option.bind_some]
   ·have:=a5 hb
    rw [Rdr.ext_mu,Rdr.ext_mu] at c3
    have c3':R.mu s3.1≤R.mu s2:=c3
    omega)
  hL2 k s [] c hi hc (by omega) (by simp; omega) (fun a h => by simp at h)
 exact ⟨acc',s',g1,g2,by omega,g5,g6⟩
theorem lines_cmp (hN:∀ n:Nat,n < 34359738368→Cmp R num (n:Int) (enc n)) (hG:∀ v:Int,-5000≤v→v≤5000→Cmp R sig v (enc (sgn v)))
 (hT:∀ ts:Tags,ts.length≤30 → (∀ t ∈ ts,t.1.size≤40∧t.2.size≤100)→Cmp R tags ts (encTags ts)) (s:σ) (ls:List Line) (u:List Int) (hi:R.Inv s) (hb:R.bad s=false) (hr:R.rest s=encLines ls ++ u) (hlen:ls.length≤2000) (hc:(ls.length:Int)≤N2) (hok:∀ l ∈ ls,lineOk l=true) :
 ∃ s',Ll k s [] (ls.length:Int)=fin2 s' ls∧R.Inv s'∧R.bad s'=false∧R.rest s'=u:=by
 rw [← bl_lines] at hr
 obtain ⟨s',g1,g2,g3,g4⟩:=loop_cmp (R:=R) (L:=Ll) (fin:=fin2) (N:=N2) (B:=2097152) (g:=fun _ => ()) (nx:=fun _ => ()) (Bt:=fun (_:Unit) l => encLine l) (Ok:=fun (_:Unit) l => lineOk l=true)
  (fun m s acc c l u hi hb hc hN2 hB hO hr => by
   obtain ⟨ho1,⟨ho2,ho3,ho4⟩,ho5⟩:=lineOk_iff.1 hO
   obtain ⟨t1,t2⟩:=tags_small ho5
   obtain ⟨w,hw⟩:∃ w:Nat,l.1 = (w:Int):=⟨l.1.toNat,by omega⟩
   have hww:l.1.toNat=w:=by rw [hw]; rfl
   rw [encLine,hww,List.append_assoc,List.append_assoc,List.append_assoc] at hr
   obtain ⟨s1,a1,a2,a3,a4⟩:=hN w (by omega) s _ hi hb hr
   obtain ⟨s2,b1,b2,b3,b4⟩:=hN l.2.1.length (by omega) s1 _ a2 a4 a3
   rw [← bl_pts] at b3
   obtain ⟨s3,c1,c2,c3,c4⟩:=loop_cmp (R:=R.ext Pt) (L:=fun j s row d => PP m acc ((w:Int),s1) c ((l.2.1.length:Int),s2) j s.1 row s.2 d) (fin:=fun s row => (tags s.1).bind fun r => Ll m r.2 (acc ++ [((w:Int),(row,r.1))]) (c - 1)) (N:=(l.2.1.length:Int)) (B:=2097152) (g:=fun s => s.2) (nx:=id) (Bt:=ptB) (Ok:=ptO)
    (fun j s row d p u hi hb hd hn hB hO hr => by
     obtain ⟨o1,o2⟩:=hO
     have hr':R.rest s.1=enc (sgn (p.1 - s.2.1)) ++ (enc (sgn (p.2 - s.2.2)) ++ u):=by rw [← List.append_assoc]; exact hr
     obtain ⟨sa,e1,e2,e3,e4⟩:=hG (p.1 - s.2.1) (by omega) (by omega) s.1 _ hi hb hr'
     obtain ⟨sb,f1,f2,f3,f4⟩:=hG (p.2 - s.2.2) (by omega) (by omega) sa _ e2 e4 e3
     have z1:IntKind.i64.wrap (s.2.1 + (p.1 - s.2.1))=p.1:=by rw [wrap_in (by omega) (by omega)]; omega
     have z2:IntKind.i64.wrap (s.2.2 + (p.2 - s.2.2))=p.2:=by rw [wrap_in (by omega) (by omega)]; omega
     refine ⟨(sb,p),?_,f2,f3,f4,rfl⟩
     rw [hP1 m acc ((w:Int),s1) c ((l.2.1.length:Int),s2) j s.1 row s.2 d hb hd hn (by simp only; omega) (by omega),e1,Option.bind_some,f1,Option.bind_some,z1,z2])
    (fun j s row d h => hP2 m acc ((w:Int),s1) c ((l.2.1.length:Int),s2) j s.1 row s.2 d h hc hN2 (by omega))
    l.2.1 k (s2,(0,0)) [] (encTags l.2.2 ++ u) b2 b4 b3 (by omega) (by simp; omega) (Int.le_refl _) (ok_pts _ _ (show ((0:Int)≤0 ∧ (0:Int)≤4096) ∧ (0:Int)≤0 ∧ (0:Int)≤4096 by decide) (fun p hp => by
     unfold rowOk at ho1
     rw [List.drop_zero,List.all_eq_true] at ho1
     exact ho1 p hp))
   obtain ⟨s4,d1,d2,d3,d4⟩:=hT l.2.2 t1 t2 s3.1 _ c2 c3 c4
   refine ⟨s4,?_,d2,d3,d4,rfl⟩
   rw [hL1 m s acc c hb hc hN2 (by omega),a1,Option.bind_some,b1,Option.bind_some]
   refine c1.trans ?_
   simp only [List.nil_append]
   rw [d1,Option.bind_some,← hw])
  hL2 ls k s [] u hi hb hr (by omega) (by simp; omega) hc (ok_lines ls hok)
 exact ⟨s',by simpa using g1,g2,g3,g4⟩
end
end Go.Proofs.Ytgfekidehbancaa
end
section
set_option linter.unusedVariables false
set_option linter.unusedSimpArgs false
set_option linter.unusedSectionVars false
namespace Go.Proofs.Ytgfekidehbancaa
open Go Go.Vm Go.Proofs V
def valid (k:Nat) (d:Tile):Prop:=f49 k d.1=some true∧d.2.length≤2000∧∀ l ∈ d.2,lineOk l=true
def encH (d:Tile):List Int:=enc d.1.1.toNat ++ (enc d.1.2.1.toNat ++ (enc d.1.2.2.toNat ++ (enc d.2.length ++ encLines d.2)))
def encW (d:Tile):List Int:=magic ++ encH d
theorem wrap11:∀ z:Fin 11,IntKind.i64.wrap (1*2 ^ (min z.val IntKind.i64.bits))≤1024:=by decide
theorem e49_up {k:Nat} {x:Int × (Int × Int)} (h:f49 k x=some true):∃ a b c:Nat,x = ((a:Int),((b:Int),(c:Int)))∧a≤10∧b≤1024∧c≤1024:=by
 obtain ⟨ok,h1,h2⟩:=e49 k x
 rw [h] at h1
 cases h1
 obtain ⟨⟨z0,z1⟩,x0,y0⟩:=h2 rfl
 obtain ⟨z,x1,y1⟩:=x
 simp only at z0 z1 x0 y0
 obtain ⟨a,rfl⟩:∃ n:Nat,z = (n:Int):=⟨z.toNat,by omega⟩
 obtain ⟨b,rfl⟩:∃ n:Nat,x1 = (n:Int):=⟨x1.toNat,by omega⟩
 obtain ⟨c,rfl⟩:∃ n:Nat,y1 = (n:Int):=⟨y1.toNat,by omega⟩
 refine ⟨a,b,c,rfl,by omega,?_⟩
 unfold f49 at h
 have hc:¬ (bif (decide (((a:Int):Int) < (0:Int))) then true else (decide ((a:Int) > (10:Int))))=true:=by
  have p1:¬ ((a:Int) < 0):=by omega
  have p2:¬ ((a:Int) > 10):=by omega
  simp [p1,p2]
 rw [if_f hc,if_t z0] at h
 have hw:=wrap11 ⟨a,by omega⟩
 simp only [Int.toNat_natCast] at h hw
 obtain ⟨W,hW⟩:∃ W,IntKind.i64.wrap (1*2 ^ min a IntKind.i64.bits)=W:=⟨_,rfl⟩
 simp only [hW] at h hw
 by_cases p1:((b:Int) ≥ 0) <;> by_cases p2:((b:Int) < W) <;> by_cases p3:((c:Int) ≥ 0) <;> by_cases p4:((c:Int) < W)
 ·omega
 all_goals simp [p1,p2,p3,p4] at h
theorem encH_eq (d:Tile) (b:List Int):b ++ encH d = ((((b ++ enc d.1.1.toNat) ++ enc d.1.2.1.toNat) ++ enc d.1.2.2.toNat) ++ enc d.2.length) ++ encLines d.2:=by
 unfold encH; simp
theorem whole2 (k:Nat) (hk:1048576 < k) (d:Tile) (hl:d.2.length≤1048576) (hz:∀ l ∈ d.2,LSz l) :
 (valid k d→f16 k d=some (encW d)∧f18 k d=some (encW d)) ∧ (¬ valid k d→f16 k d=some []∧f18 k d=some []):=by
 unfold f16 f18
 rw [e42]
 obtain ⟨ok,h1,h2⟩:=e49 k d.1
 rw [h1,Option.bind_some,Option.bind_some]
 by_cases hc:(bif (!ok) then true else (decide (((List.length d.2:Int):Int) > (2000:Int))))=true
 ·rw [if_t hc,if_t hc]
  refine ⟨fun hv => ?_,fun _ => ⟨rfl,rfl⟩⟩
  obtain ⟨v1,v2,_⟩:=hv
  rw [h1] at v1
  cases v1
  have:decide (((List.length d.2:Int):Int) > (2000:Int))=true:=hc
  simp at this
  omega
 ·rw [if_f hc,if_f hc]
  cases ok with
  | false => exact absurd rfl hc
  | true =>
    have hlen:d.2.length≤2000:=by
     have:¬ decide (((List.length d.2:Int):Int) > (2000:Int))=true:=hc
     simp at this
     omega
    obtain ⟨z,x,y,hd1,z1,x1,y1⟩:=e49_up h1
    have e1:=enc_len z
    have e2:=enc_len x
    have e3:=enc_len y
    have e4:=enc_len d.2.length
    have m0:([(87:Int),(77:Int),(84:Int),(49:Int)]:List Int).length=4:=rfl
    have a1:=e43 k hk [(87:Int),(77:Int),(84:Int),(49:Int)] (by decide) z (by omega)
    have a2:=e43 k hk ([(87:Int),(77:Int),(84:Int),(49:Int)] ++ enc z) (by simp only [List.length_append]; omega) x (by omega)
    have a3:=e43 k hk (([(87:Int),(77:Int),(84:Int),(49:Int)] ++ enc z) ++ enc x) (by simp only [List.length_append]; omega) y (by omega)
    have a4:=e43 k hk ((([(87:Int),(77:Int),(84:Int),(49:Int)] ++ enc z) ++ enc x) ++ enc y) (by simp only [List.length_append]; omega) d.2.length (by omega)
    have b1:=e50 k hk [(87:Int),(77:Int),(84:Int),(49:Int)] (by decide) z (by omega)
    have b2:=e50 k hk ([(87:Int),(77:Int),(84:Int),(49:Int)] ++ enc z) (by simp only [List.length_append]; omega) x (by omega)
    have b3:=e50 k hk (([(87:Int),(77:Int),(84:Int),(49:Int)] ++ enc z) ++ enc x) (by simp only [List.length_append]; omega) y (by omega)
    have b4:=e50 k hk ((([(87:Int),(77:Int),(84:Int),(49:Int)] ++ enc z) ++ enc x) ++ enc y) (by simp only [List.length_append]; omega) d.2.length (by omega)
    obtain ⟨g1,g2⟩:=lines_s k hk d hl hz k 0 (((([(87:Int),(77:Int),(84:Int),(49:Int)] ++ enc z) ++ enc x) ++ enc y) ++ enc d.2.length) (by omega) (by omega) (by simp only [List.length_append]; omega)
    rw [List.drop_zero] at g1 g2
    have key:f16.l729 k d k (((((([(87:Int),(77:Int),(84:Int),(49:Int)] ++ enc z) ++ enc x) ++ enc y) ++ enc d.2.length)),(0:Int))=_:=g1
    have key2:f18.l741 k d k ((((((([(87:Int),(77:Int),(84:Int),(49:Int)] ++ enc z) ++ enc x) ++ enc y) ++ enc d.2.length)),()),(0:Int))=_:=g2
    have d11:d.1.1 = (z:Int):=by rw [hd1]
    have d12:d.1.2.1 = (x:Int):=by rw [hd1]
    have d13:d.1.2.2 = (y:Int):=by rw [hd1]
    rw [if_t (by decide),if_t (by decide),d11,d12,d13,a1,b1,Option.bind_some,Option.bind_some,a2,b2,Option.bind_some,Option.bind_some,a3,b3,Option.bind_some,Option.bind_some,a4,b4,Option.bind_some,Option.bind_some,key,key2]
    have hE:encW d = ((((([(87:Int),(77:Int),(84:Int),(49:Int)] ++ enc z) ++ enc x) ++ enc y) ++ enc d.2.length) ++ encLines d.2):=by
     unfold encW magic
     rw [encH_eq,d11,d12,d13]
     simp only [Int.toNat_natCast]
    constructor
    ·intro hv
     have:resL d.2 (((([(87:Int),(77:Int),(84:Int),(49:Int)] ++ enc z) ++ enc x) ++ enc y) ++ enc d.2.length)=encW d:=by
      unfold resL
      rw [if_pos (List.all_eq_true.2 hv.2.2),hE]
     rw [this]
     exact ⟨rfl,rfl⟩
    ·intro hv
     have:resL d.2 (((([(87:Int),(77:Int),(84:Int),(49:Int)] ++ enc z) ++ enc x) ++ enc y) ++ enc d.2.length)=[]:=by
      unfold resL
      rw [if_neg (fun h => hv ⟨h1,hlen,List.all_eq_true.1 h⟩)]
     rw [this]
     exact ⟨rfl,rfl⟩
theorem tl_eq {x y:ByteArray}:(ByteArray.toList x == ByteArray.toList y)=true↔x=y:=⟨toList_inj,fun h => by rw [h]; simp⟩
abbrev dTl:Tile:=(((0:Int),((0:Int),(0:Int))),([]:(List (Int × ((List (Int × Int)) × (List (ByteArray × ByteArray)))))))
theorem cnd {d:Int} {b:Bool} (h1:b=false) (h2:0 < d):(bif (decide (d > 0)) then (!b) else false)=true:=by rw [h1,decide_eq_true h2]; rfl
theorem cnd' {d:Int} {b:Bool} (h:¬ (0 < d∧b=false)):¬ (bif (decide (d > 0)) then (!b) else false)=true:=by
 by_cases h2:0 < d
 ·rw [decide_eq_true h2]
  cases b
  ·exact absurd ⟨h2,rfl⟩ h
  ·decide
 ·rw [decide_eq_false h2]; simp
section
variable (k:Nat) (hk:1048576 < k) (x:List Int) (hx:BOk x) (hl:x.length≤1048576)
include hk hx hl
theorem RS_mu (s) (hi:(RS x).Inv s):(RS x).mu s≤1048573:=by
 obtain ⟨e,i,h1,h4,h2⟩:=hi
 simp only [Rdr.mu,RS,e,h1,Int.toNat_natCast,List.length_drop]
 have:=b01_le s.2.2
 omega
def sPP (k:Nat) (r1 r2 r3:Int × (List Int × (Int × Bool))) (x:List Int) (m:Nat) (acc:List Line) (r0:Int × (List Int × (Int × Bool))) (c:Int) (_:Int × (List Int × (Int × Bool))) (j:Nat) (s:List Int × (Int × Bool)) (row:List Pt) (p:Pt) (d:Int):=f24.l1283 k acc r0 c (f24.l672 k r1 r2 r3 x m) j (s,row,p.1,p.2,d)
def sLl (k:Nat) (r1 r2 r3:Int × (List Int × (Int × Bool))) (x:List Int) (m:Nat) (s:List Int × (Int × Bool)) (acc:List Line) (c:Int):=f24.l672 k r1 r2 r3 x m (s,acc,c)
def sFin (k:Nat) (r1 r2 r3:Int × (List Int × (Int × Bool))) (x:List Int) (s:List Int × (Int × Bool)) (acc:List Line):Option (Tile × Bool):=(if (s.2.2=false) then f16 k ((r1.1,(r2.1,r3.1)),acc) else some default).bind fun r1339 => (if (bif s.2.2 then true else (!(ByteArray.toList (strOfNums r1339) == ByteArray.toList (strOfNums x)))) then (some (dTl,false)) else (some (((r1.1,(r2.1,r3.1)),acc),true)))
section
variable (r1 r2 r3:Int × (List Int × (Int × Bool)))
theorem sP1:∀ (m:Nat) (acc:List Line) (w:Int × (List Int × (Int × Bool))) (c:Int) (n:Int × (List Int × (Int × Bool))) (j:Nat) (s:List Int × (Int × Bool)) (row:List Pt) (p:Pt) (d:Int),(RS x).bad s=false→0 < d→d≤n.1→n.1≤72057594037927936→row.length≤2097152 →
 sPP k r1 r2 r3 x m acc w c n (j+1) s row p d = (f59 k s).bind fun a => (f59 k a.2).bind fun b => sPP k r1 r2 r3 x m acc w c n j b.2 (row ++ [(IntKind.i64.wrap (p.1+a.1),IntKind.i64.wrap (p.2+b.1))]) (IntKind.i64.wrap (p.1+a.1),IntKind.i64.wrap (p.2+b.1)) (d - 1):=by
 intro m acc w c n j s row p d hb hd hdn hn hr
 unfold sPP
 rw [f24.l1283,if_t (cnd (b:=s.2.2) hb hd)]
 congr 1
 funext a
 congr 1
 funext b
 rw [if_t (by simp; omega),wrap_in (n:=d - 1) (by omega) (by omega)]
 rfl
theorem sP2:∀ (m:Nat) (acc:List Line) (w:Int × (List Int × (Int × Bool))) (c:Int) (n:Int × (List Int × (Int × Bool))) (j:Nat) (s:List Int × (Int × Bool)) (row:List Pt) (p:Pt) (d:Int),¬ (0 < d ∧ (RS x).bad s=false)→0 < c→c≤72057594037927936→acc.length≤2097152 →
 sPP k r1 r2 r3 x m acc w c n (j+1) s row p d = (f60 k s).bind fun r => sLl k r1 r2 r3 x m r.2 (acc ++ [(w.1,(row,r.1))]) (c - 1):=by
 intro m acc w c n j s row p d h hc hc2 ha
 unfold sPP sLl
 rw [f24.l1283,if_f (cnd' (b:=s.2.2) h)]
 congr 1
 funext r
 rw [if_t (by simp; omega),wrap_in (n:=c - 1) (by omega) (by omega)]
theorem sL1:∀ (m:Nat) (s:List Int × (Int × Bool)) (acc:List Line) (c:Int),(RS x).bad s=false→0 < c→c≤72057594037927936→acc.length≤2097152 →
 sLl k r1 r2 r3 x (m+1) s acc c = (f58 k s).bind fun r0 => (f58 k r0.2).bind fun r => sPP k r1 r2 r3 x m acc r0 c r k r.2 [] (0,0) r.1:=by
 intro m s acc c hb hc hc2 ha
 unfold sLl sPP
 rw [f24.l672,if_t (cnd (b:=s.2.2) hb hc)]
theorem sL2:∀ (m:Nat) (s:List Int × (Int × Bool)) (acc:List Line) (c:Int),¬ (0 < c ∧ (RS x).bad s=false)→sLl k r1 r2 r3 x (m+1) s acc c=sFin k r1 r2 r3 x s acc:=by
 intro m s acc c h
 unfold sLl sFin
 rw [f24.l672,if_f (cnd' (b:=s.2.2) h)]
end
theorem s_tot:∃ r,f24 k x=some r ∧ (r = (dTl,false)∨∃ d:Tile,r = (d,true) ∧ (d.2.length≤1048576∧∀ l ∈ d.2,LSz l)∧∃ v,f16 k d=some v∧strOfNums v=strOfNums x):=by
 unfold f24
 have h0:((decide (((List.length x:Int):Int) < (4:Int)))=false) → (True ∧ ((0:Int) ≤ (4:Int))∧0 ≤ (Int.toNat (4:Int)) ∧ (Int.toNat (4:Int)) ≤ (List.length x)):=fun h => ⟨trivial,by decide,by decide,by
  have:=of_decide_eq_false h
  show 4≤x.length
  omega⟩
 rw [if_t h0]
 by_cases hc:(bif (decide (((List.length x:Int):Int) < (4:Int))) then true else (!(ByteArray.toList (strOfNums (List.drop 0 (List.take (Int.toNat (4:Int)) x))) == ByteArray.toList (⟨#[87,77,84,49]⟩:ByteArray))))=true
 ·rw [if_t hc]; exact ⟨_,rfl,.inl rfl⟩
 ·rw [if_f hc]
  have h4:4≤x.length:=by
   by_cases h:(x.length:Int) < 4
   ·rw [decide_eq_true h] at hc; exact absurd rfl hc
   ·omega
  obtain ⟨z,s1,a1,a2,a3,_⟩:=sNum_tot k hk x hx hl (x,((4:Int),false)) ⟨rfl,4,rfl,Nat.le_refl _,h4⟩
  obtain ⟨x1,s2,b1,b2,b3,_⟩:=sNum_tot k hk x hx hl s1 a2
  obtain ⟨y1,s3,c1,c2,c3,_⟩:=sNum_tot k hk x hx hl s2 b2
  obtain ⟨n,s4,d1,d2,d3,_⟩:=sNum_tot k hk x hx hl s3 c2
  rw [a1,Option.bind_some,b1,Option.bind_some,c1,Option.bind_some,d1,Option.bind_some]
  obtain ⟨ls,s5,g1,g2,g3,g4,_⟩:=lines_tot (R:=RS x) (k:=k) (N2:=72057594037927936) (num:=f58 k) (sig:=f59 k) (tags:=f60 k) hk (RS_mu k hk x hx hl) (sP1 k hk x hx hl (z,s1) (x1,s2) (y1,s3)) (sP2 k hk x hx hl (z,s1) (x1,s2) (y1,s3)) (sL1 k hk x hx hl (z,s1) (x1,s2) (y1,s3)) (sL2 k hk x hx hl (z,s1) (x1,s2) (y1,s3)) (sNum_tot k hk x hx hl) (sSig_tot k hk x hx hl) (sTags_tot k hk x hx hl) s4 n d2 (by have:=d3.2; omega)
  have g1':f24.l672 k (z,s1) (x1,s2) (y1,s3) x k (s4,[],n)=sFin k (z,s1) (x1,s2) (y1,s3) x s5 ls:=g1
  rw [g1']
  unfold sFin
  cases hb:s5.2.2 with
  | true => exact ⟨_,rfl,.inl rfl⟩
  | false =>
    rw [if_t rfl]
    obtain ⟨v1,v2⟩:=whole2 k hk ((z,(x1,y1)),ls) g3 g4
    have:∃ v,f16 k ((z,(x1,y1)),ls)=some v:=by
     rcases Classical.em (valid k ((z,(x1,y1)),ls)) with hv | hv
     ·exact ⟨_,(v1 hv).1⟩
     ·exact ⟨_,(v2 hv).1⟩
    obtain ⟨v,hv⟩:=this
    rw [hv,Option.bind_some]
    by_cases he:strOfNums v=strOfNums x
    ·rw [if_f (by rw [tl_eq.2 he]; decide)]
     exact ⟨_,rfl,.inr ⟨_,rfl,⟨g3,g4⟩,v,hv,he⟩⟩
    ·rw [if_t (by
      cases hq:(ByteArray.toList (strOfNums v) == ByteArray.toList (strOfNums x)) with
      | true => exact absurd (tl_eq.1 hq) he
      | false => rfl)]
     exact ⟨_,rfl,.inl rfl⟩
theorem s_cmp (d:Tile) (hv:valid k d) (hz:d.2.length≤1048576∧∀ l ∈ d.2,LSz l) (he:x=encW d):f24 k x=some (d,true):=by
 obtain ⟨zz,xx,yy,hd1,hz1,hx1,hy1⟩:=e49_up hv.1
 obtain ⟨t,ls⟩:=d
 simp only at hd1
 subst hd1
 have hmag:x=magic ++ (enc zz ++ (enc xx ++ (enc yy ++ (enc ls.length ++ encLines ls)))):=he
 have h4:4≤x.length:=by rw [hmag]; simp [magic]
 have hdrop:x.drop 4=enc zz ++ (enc xx ++ (enc yy ++ (enc ls.length ++ encLines ls))):=by rw [hmag]; rfl
 have htake:x.take 4=magic:=by rw [hmag]; rfl
 unfold f24
 have h0:((decide (((List.length x:Int):Int) < (4:Int)))=false) → (True ∧ ((0:Int) ≤ (4:Int))∧0 ≤ (Int.toNat (4:Int)) ∧ (Int.toNat (4:Int)) ≤ (List.length x)):=fun h => ⟨trivial,by decide,by decide,h4⟩
 rw [if_t h0]
 have hc:¬ (bif (decide (((List.length x:Int):Int) < (4:Int))) then true else (!(ByteArray.toList (strOfNums (List.drop 0 (List.take (Int.toNat (4:Int)) x))) == ByteArray.toList (⟨#[87,77,84,49]⟩:ByteArray))))=true:=by
  rw [decide_eq_false (by omega),List.drop_zero,show Int.toNat 4=4 from rfl,htake]
  have:strOfNums magic = (⟨#[87,77,84,49]⟩:ByteArray):=rfl
  rw [this,tl_eq.2 rfl]
  decide
 rw [if_f hc]
 have hbx:(RS x).bad (x,((4:Int),false))=false:=rfl
 obtain ⟨s1,a1,a2,a3,a4⟩:=sNum_cmp k hk x hx hl zz (by omega) (x,((4:Int),false)) _ ⟨rfl,4,rfl,Nat.le_refl _,h4⟩ rfl hdrop
 obtain ⟨s2,b1,b2,b3,b4⟩:=sNum_cmp k hk x hx hl xx (by omega) s1 _ a2 a4 a3
 obtain ⟨s3,c1,c2,c3,c4⟩:=sNum_cmp k hk x hx hl yy (by omega) s2 _ b2 b4 b3
 obtain ⟨s4,d1,d2,d3,d4⟩:=sNum_cmp k hk x hx hl ls.length (by have:=hv.2.1; simp only at this; omega) s3 _ c2 c4 c3
 rw [a1,Option.bind_some,b1,Option.bind_some,c1,Option.bind_some,d1,Option.bind_some]
 obtain ⟨s5,g1,g2,g3,g4⟩:=lines_cmp (R:=RS x) (k:=k) (N2:=72057594037927936) (num:=f58 k) (sig:=f59 k) (tags:=f60 k) hk (RS_mu k hk x hx hl) (sP1 k hk x hx hl ((zz:Int),s1) ((xx:Int),s2) ((yy:Int),s3)) (sP2 k hk x hx hl ((zz:Int),s1) ((xx:Int),s2) ((yy:Int),s3)) (sL1 k hk x hx hl ((zz:Int),s1) ((xx:Int),s2) ((yy:Int),s3)) (sL2 k hk x hx hl ((zz:Int),s1) ((xx:Int),s2) ((yy:Int),s3)) (sNum_cmp k hk x hx hl) (fun v h1 h2 => sSig_cmp k hk x hx hl h1 h2) (sTags_cmp k hk x hx hl) s4 ls [] d2 d4 (by rw [List.append_nil]; exact d3) hv.2.1 (by have:=hv.2.1; simp only at this; omega) hv.2.2
 have g1':f24.l672 k ((zz:Int),s1) ((xx:Int),s2) ((yy:Int),s3) x k (s4,[],(ls.length:Int))=sFin k ((zz:Int),s1) ((xx:Int),s2) ((yy:Int),s3) x s5 ls:=g1
 rw [g1']
 unfold sFin
 have hb:s5.2.2=false:=g3
 have hw:=((whole2 k hk (((zz:Int),((xx:Int),(yy:Int))),ls) hz.1 hz.2).1 hv).1
 rw [if_t hb,hb,hw,Option.bind_some,← he,if_f (by rw [tl_eq.2 rfl]; decide)]
end
end Go.Proofs.Ytgfekidehbancaa
end
section
set_option linter.unusedVariables false
set_option linter.unusedSimpArgs false
set_option linter.unusedSectionVars false
namespace Go.Proofs.Ytgfekidehbancaa
open Go Go.Vm Go.Proofs V
def RI:Rdr (List Int × Bool):=⟨fun s => s.1,fun s => s.2,fun s => BOk s.1∧s.1.length≤1048572⟩
theorem RI_mu (s) (hi:RI.Inv s):RI.mu s≤1048573:=by
 have h:=hi.2
 have:=b01_le s.2
 simp only [Rdr.mu,RI]
 omega
section
variable (k:Nat) (hk:1048576 < k)
include hk
theorem iNum (x:List Int) (bad:Bool) (hx:BOk x) (hl:x.length≤1048576) :
 (∀ n t,rdN 8 x=some (n,t)→f62 k (x,bad)=some ((n:Int),(t,bad))) ∧
 (rdN 8 x=none→∃ (n:Nat) (t:List Int),n < 72057594037927936∧BOk t∧t.length≤x.length∧f62 k (x,bad)=some ((n:Int),(t,true))):=by
 obtain ⟨h1,h2⟩:=iNum_go k 8 0 k 0 x bad hx hl (by omega) (by decide) (by omega)
 refine ⟨fun n t h => ?_,fun h => h2 h⟩
 have:=h1 n t h
 simpa [f62] using this
theorem iNum_tot:Tot RI (f62 k) NumP:=by
 rintro ⟨y,bad⟩ ⟨hx,hl⟩
 simp only at hx hl
 obtain ⟨g1,g2⟩:=iNum k hk y bad hx (by omega)
 cases hr:rdN 8 y with
 | none =>
   obtain ⟨n,t,q0,q1,q2,q3⟩:=g2 hr
   refine ⟨_,_,q3,⟨q1,by simp only; omega⟩,⟨by omega,by omega⟩,?_,?_,fun _ => rfl⟩
   ·simp only [Rdr.mu,RI,b01_t]; omega
   ·intro hb
    have:bad=false:=hb
    subst this
    simp only [Rdr.mu,RI,b01_t,b01_f]; omega
 | some r =>
   obtain ⟨p1,p2,q,p3⟩:=rdN_len (n:=r.1) (t:=r.2) hx hr
   have p128:(128:Nat) ^ 8=72057594037927936:=by decide
   refine ⟨_,_,g1 r.1 r.2 hr,⟨by simp only; rw [p3]; exact hx.drop q,by simp only; omega⟩,⟨by omega,by omega⟩,?_,?_,id⟩
   ·simp only [Rdr.mu,RI]; omega
   ·intro _
    simp only [Rdr.mu,RI]; omega
theorem iNum_cmp (n:Nat) (hn:n < 34359738368):Cmp RI (f62 k) (n:Int) (enc n):=by
 rintro ⟨y,bad⟩ u ⟨hx,hl⟩ hb hr
 simp only at hx hl
 have hr':y=enc n ++ u:=hr
 have p128:(128:Nat) ^ 8=72057594037927936:=by decide
 have h5:=rdN_enc 8 9 n u (by decide) (by omega) (by decide)
 have h6:rdN 8 y=some (n,u):=by rw [hr']; exact h5
 obtain ⟨p1,p2,q,p3⟩:=rdN_len hx h6
 obtain ⟨g1,_⟩:=iNum k hk y bad hx (by omega)
 exact ⟨_,g1 n u h6,⟨by simp only; rw [p3]; exact hx.drop q,by simp only; omega⟩,rfl,hb⟩
theorem iSig_eq (s:List Int × Bool):f63 k s = (f62 k s).bind fun r => some (sdec r.1,r.2):=by
 unfold f63 sdec
 congr 1
 funext r
 rw [if_t (by decide)]
 by_cases h:((Int.tmod r.1 2:Int) == 1)=true
 ·rw [if_t h,if_t (by decide),if_t h]
 ·rw [if_f h,if_t (by decide),if_f h]
theorem iSig_tot:Tot RI (f63 k) (fun _ => True):=sig_tot (iSig_eq k hk) (iNum_tot k hk)
theorem sgn_lti {v:Int} (h1:-5000≤v) (h2:v≤5000):sgn v < 34359738368:=by
 unfold sgn; split <;> omega
theorem iSig_cmp {v:Int} (h1:-5000≤v) (h2:v≤5000):Cmp RI (f63 k) v (enc (sgn v)):=sig_cmp (iSig_eq k hk) h1 h2 (iNum_cmp k hk _ (sgn_lti k hk h1 h2))
theorem iTxt_tot:Tot RI (f86 k) StrP:=by
 intro s hi
 obtain ⟨n,⟨y,bad⟩,q1,⟨hx,hl⟩,⟨n0,n1⟩,q4,q5,q6⟩:=iNum_tot k hk s hi
 simp only at hx hl
 obtain ⟨nn,rfl⟩:∃ nn:Nat,n = (nn:Int):=⟨n.toNat,by omega⟩
 unfold f86
 rw [q1,Option.bind_some]
 simp only
 simp only [Rdr.mu,RI] at q4 q5 q6
 by_cases hc:(bif bad then true else decide ((nn:Int) > (y.length:Int)))=true
 ·rw [if_t hc]
  refine ⟨_,_,rfl,⟨hx,hl⟩,by simp [StrP,ByteArray.size],?_,?_,fun _ => rfl⟩
  ·simp only [Rdr.mu,RI,b01_t]; omega
  ·intro hb
   have:=q5 hb
   simp only [Rdr.mu,RI,b01_t]; omega
 ·rw [if_f hc]
  have hle:nn≤y.length:=by
   cases bad with
   | true => exact absurd rfl hc
   | false =>
     have:¬ decide ((nn:Int) > (y.length:Int))=true:=hc
     simp only [decide_eq_true_eq] at this
     omega
  simp only [Int.toNat_natCast]
  rw [if_t ⟨trivial,by omega,by omega,hle⟩,if_t ⟨by omega,trivial,hle,Nat.le_refl _⟩,List.take_length]
  refine ⟨_,_,rfl,⟨hx.drop nn,by simp only [List.length_drop]; omega⟩,?_,?_,?_,q6⟩
  ·unfold StrP; rw [strOf_size]; simp only [List.length_drop,List.length_take]; omega
  ·simp only [Rdr.mu,RI,List.length_drop]; omega
  ·intro hb
   have:=q5 hb
   simp only [Rdr.mu,RI,List.length_drop]; omega
theorem iTxt_cmp (t:ByteArray) (ht:t.size≤1000):Cmp RI (f86 k) t (enc t.size ++ strNums t):=by
 intro s u hi hb hr
 rw [List.append_assoc] at hr
 obtain ⟨⟨y,bad⟩,q1,⟨hx,hl⟩,q3,q4⟩:=iNum_cmp k hk t.size (by omega) s _ hi hb hr
 simp only at hx hl
 have hb4:bad=false:=q4
 subst hb4
 have q3':y=strNums t ++ u:=q3
 have hlen:y.length=t.size+u.length:=by
  have:=congrArg List.length q3'
  simpa [strNums_len] using this
 unfold f86
 rw [q1,Option.bind_some]
 have hc:¬ (bif false then true else decide ((t.size:Int) > (y.length:Int)))=true:=by simp; omega
 simp only [Int.toNat_natCast]
 rw [if_f hc,if_t ⟨trivial,by omega,by omega,by omega⟩,if_t ⟨by omega,trivial,by omega,Nat.le_refl _⟩,List.take_length,List.drop_zero]
 have e:y.take t.size=strNums t:=by rw [q3']; exact List.take_left' (strNums_len t)
 have e2:y.drop t.size=u:=by rw [q3']; exact List.drop_left' (strNums_len t)
 rw [e,strOf_str,e2]
 exact ⟨_,rfl,⟨by have:=hx.drop t.size; rw [e2] at this; exact this,by simp only; omega⟩,rfl,rfl⟩
theorem icnd {d n:Int} {b:Bool} (h1:b=false) (h2:0 < d):(bif (decide (n - d < n)) then (!b) else false)=true:=by rw [h1,decide_eq_true (by omega)]; rfl
theorem icnd' {d n:Int} {b:Bool} (h:¬ (0 < d∧b=false)):¬ (bif (decide (n - d < n)) then (!b) else false)=true:=by
 by_cases h2:0 < d
 ·rw [decide_eq_true (by omega)]
  cases b
  ·exact absurd ⟨h2,rfl⟩ h
  ·decide
 ·rw [decide_eq_false (by omega)]; simp
theorem iTags_tot:Tot RI (f64 k) TagsP:=by
 intro s hi
 obtain ⟨n,s1,q1,q2,⟨n0,n1⟩,q4,q5,q6⟩:=iNum_tot k hk s hi
 have hmu:=RI_mu s1 q2
 obtain ⟨ts,s2,g1,g2,g3,g4,g5,g6⟩:=loop_tot (R:=RI) (L:=fun m s acc c => f64.l45 k (n,s1) m (s,acc,n - c)) (fin:=fun s acc => some (acc,s)) (N:=n) (B:=1048573) (Q:=fun t:ByteArray × ByteArray => t.1.size≤1048576∧t.2.size≤1048576)
  (fun m s acc c hi hb hc hN hB => by
   obtain ⟨a,sa,a1,a2,a3,a4,a5,a6⟩:=iTxt_tot k hk s hi
   obtain ⟨b,sb,b1,b2,b3,b4,b5,b6⟩:=iTxt_tot k hk sa a2
   refine ⟨(a,b),sb,?_,b2,⟨a3,b3⟩,Nat.lt_of_le_of_lt b4 (a5 hb)⟩
   simp only [f64.l45]
   rw [if_t (icnd k hk (b:=s.2) hb hc),a1,Option.bind_some,b1,Option.bind_some,if_t (by simp; omega),wrap_in (by omega) (by omega),show n - c+1=n - (c - 1) by omega])
  (fun m s acc c h => by
   simp only [f64.l45]
   rw [if_f (icnd' k hk (b:=s.2) h)])
  k s1 [] n q2 (Int.le_refl _) (by omega) (by simp; omega) (fun a h => by simp at h)
 refine ⟨ts,s2,?_,g2,⟨by omega,g5⟩,by omega,fun h => by have:=q5 h; omega,fun h => g6 (q6 h)⟩
 unfold f64
 rw [q1,Option.bind_some]
 have g1':f64.l45 k (n,s1) k (s1,[],n - n)=some (ts,s2):=g1
 rw [Int.sub_self] at g1'
 exact g1'
theorem iTags_cmp (ts:Tags) (hlen:ts.length≤30) (ht:∀ t ∈ ts,t.1.size≤40∧t.2.size≤100):Cmp RI (f64 k) ts (encTags ts):=by
 intro s u hi hb hr
 unfold encTags at hr
 rw [List.append_assoc,← bl_tags] at hr
 obtain ⟨s1,q1,q2,q3,q4⟩:=iNum_cmp k hk ts.length (by omega) s _ hi hb hr
 obtain ⟨s2,g1,g2,g3,g4⟩:=loop_cmp (R:=RI) (L:=fun m s acc c => f64.l45 k ((ts.length:Int),s1) m (s,acc,(ts.length:Int) - c)) (fin:=fun s acc => some (acc,s)) (N:=(ts.length:Int)) (B:=2097152) (g:=fun _ => ()) (nx:=fun _ => ()) (Bt:=tagB) (Ok:=tagO)
  (fun m s acc c a u hi hb hc hN hB hO hr => by
   unfold tagB at hr
   rw [List.append_assoc] at hr
   obtain ⟨sa,a1,a2,a3,a4⟩:=iTxt_cmp k hk a.1 hO.1 s _ hi hb hr
   obtain ⟨sb,b1,b2,b3,b4⟩:=iTxt_cmp k hk a.2 hO.2 sa _ a2 a4 a3
   refine ⟨sb,?_,b2,b3,b4,rfl⟩
   simp only [f64.l45]
   rw [if_t (icnd k hk (b:=s.2) hb hc),a1,Option.bind_some,b1,Option.bind_some,if_t (by simp; omega),wrap_in (by omega) (by omega),show (ts.length:Int) - c+1 = (ts.length:Int) - (c - 1) by omega])
  (fun m s acc c h => by
   simp only [f64.l45]
   rw [if_f (icnd' k hk (b:=s.2) h)])
  ts k s1 [] u q2 q4 q3 (by omega) (by simp; omega) (Int.le_refl _) (ok_tags ts ht)
 refine ⟨s2,?_,g2,g4,g3⟩
 unfold f64
 rw [q1,Option.bind_some]
 have g1':f64.l45 k ((ts.length:Int),s1) k (s1,[],(ts.length:Int) - (ts.length:Int))=some (ts,s2):=g1
 rw [Int.sub_self] at g1'
 exact g1'
end
abbrev IS:=Int × (List Int × Bool)
def iPP (k:Nat) (r5 r2 r3 r4:IS) (x:List Int) (m:Nat) (acc:List Line) (r0:IS) (c:Int) (r1:IS) (j:Nat) (s:List Int × Bool) (row:List Pt) (p:Pt) (d:Int):=f26.l1284 k r1 acc r0 (r5.1 - c) (f26.l673 k r5 r2 r3 r4 x m) j (s,row,p.1,p.2,r1.1 - d)
def iLl (k:Nat) (r5 r2 r3 r4:IS) (x:List Int) (m:Nat) (s:List Int × Bool) (acc:List Line) (c:Int):=f26.l673 k r5 r2 r3 r4 x m (s,acc,r5.1 - c)
def iFin (k:Nat) (r2 r3 r4:IS) (x:List Int) (s:List Int × Bool) (acc:List Line):Option (Tile × Bool):=(if ((bif s.2 then true else (decide (((List.length s.1:Int):Int) > (0:Int))))=false) then f18 k ((r2.1,(r3.1,r4.1)),acc) else some default).bind fun r1340 => ((if ((bif s.2 then true else (decide (((List.length s.1:Int):Int) > (0:Int))))=false) then f65 k r1340 x else some default).bind fun r1341 => (if (bif (bif s.2 then true else (decide (((List.length s.1:Int):Int) > (0:Int)))) then true else (!r1341)) then (some (dTl,false)) else (some (((r2.1,(r3.1,r4.1)),acc),true))))
section
variable (k:Nat) (hk:1048576 < k) (x:List Int) (r5 r2 r3 r4:IS) (h5:r5.1≤72057594037927936)
include hk h5
theorem iP1:∀ (m:Nat) (acc:List Line) (w:IS) (c:Int) (n:IS) (j:Nat) (s:List Int × Bool) (row:List Pt) (p:Pt) (d:Int),RI.bad s=false→0 < d→d≤n.1→n.1≤72057594037927936→row.length≤2097152 →
 iPP k r5 r2 r3 r4 x m acc w c n (j+1) s row p d = (f63 k s).bind fun a => (f63 k a.2).bind fun b => iPP k r5 r2 r3 r4 x m acc w c n j b.2 (row ++ [(IntKind.i64.wrap (p.1+a.1),IntKind.i64.wrap (p.2+b.1))]) (IntKind.i64.wrap (p.1+a.1),IntKind.i64.wrap (p.2+b.1)) (d - 1):=by
 intro m acc w c n j s row p d hb hd hdn hn hr
 unfold iPP
 rw [f26.l1284,if_t (icnd k hk (b:=s.2) hb hd)]
 congr 1
 funext a
 congr 1
 funext b
 rw [if_t (by simp; omega),wrap_in (n:=n.1 - d+1) (by omega) (by omega),show n.1 - d+1=n.1 - (d - 1) by omega]
 rfl
theorem iP2:∀ (m:Nat) (acc:List Line) (w:IS) (c:Int) (n:IS) (j:Nat) (s:List Int × Bool) (row:List Pt) (p:Pt) (d:Int),¬ (0 < d∧RI.bad s=false)→0 < c→c≤r5.1→acc.length≤2097152 →
 iPP k r5 r2 r3 r4 x m acc w c n (j+1) s row p d = (f64 k s).bind fun r => iLl k r5 r2 r3 r4 x m r.2 (acc ++ [(w.1,(row,r.1))]) (c - 1):=by
 intro m acc w c n j s row p d h hc hc2 ha
 unfold iPP iLl
 rw [f26.l1284,if_f (icnd' k hk (b:=s.2) h)]
 congr 1
 funext r
 rw [if_t (by simp; omega),wrap_in (n:=r5.1 - c+1) (by omega) (by omega),show r5.1 - c+1=r5.1 - (c - 1) by omega]
theorem iL1:∀ (m:Nat) (s:List Int × Bool) (acc:List Line) (c:Int),RI.bad s=false→0 < c→c≤r5.1→acc.length≤2097152 →
 iLl k r5 r2 r3 r4 x (m+1) s acc c = (f62 k s).bind fun r0 => (f62 k r0.2).bind fun r => iPP k r5 r2 r3 r4 x m acc r0 c r k r.2 [] (0,0) r.1:=by
 intro m s acc c hb hc hc2 ha
 unfold iLl iPP
 rw [f26.l673,if_t (icnd k hk (b:=s.2) hb hc)]
 congr 1
 funext r0
 congr 1
 funext r
 rw [Int.sub_self]
theorem iL2:∀ (m:Nat) (s:List Int × Bool) (acc:List Line) (c:Int),¬ (0 < c∧RI.bad s=false)→iLl k r5 r2 r3 r4 x (m+1) s acc c=iFin k r2 r3 r4 x s acc:=by
 intro m s acc c h
 unfold iLl iFin
 rw [f26.l673,if_f (icnd' k hk (b:=s.2) h)]
end
end Go.Proofs.Ytgfekidehbancaa
end
section
set_option linter.unusedVariables false
set_option linter.unusedSimpArgs false
set_option linter.unusedSectionVars false
namespace Go.Proofs.Ytgfekidehbancaa
open Go Go.Vm Go.Proofs V
abbrev Wm:ByteArray:=(⟨#[87,77,84,49]⟩:ByteArray)
theorem wm_nums:strNums Wm=magic:=rfl
theorem wm_size:Wm.size=4:=rfl
theorem e84 (k:Nat) (x:List Int):∃ b:Bool,f84 k x magic=some b ∧ (b=true→4≤x.length) ∧ (x.take 4=magic→b=true):=by
 have ml:magic.length=4:=rfl
 unfold f84
 by_cases h4:4≤x.length
 ·have hc:decide (((List.length x:Int):Int) ≥ (List.length magic:Int))=true:=by rw [ml]; exact decide_eq_true (by omega)
  rw [hc,if_t (fun _ => ⟨trivial,by omega,by omega,by rw [ml]; exact h4⟩),if_t rfl]
  unfold f65
  rw [Option.bind_some,cond_true,List.drop_zero,ml,show Int.toNat ((4:Nat):Int)=4 from rfl]
  exact ⟨_,rfl,fun _ => h4,fun h => by rw [h,tl_eq.2 rfl]⟩
 ·have hc:decide (((List.length x:Int):Int) ≥ (List.length magic:Int))=false:=by rw [ml]; exact decide_eq_false (by omega)
  rw [hc,if_t (fun h => by cases h),if_f (by decide),Option.bind_some,cond_false]
  refine ⟨false,rfl,(fun h => by cases h),fun h => ?_⟩
  have:=congrArg List.length h
  rw [List.length_take,ml] at this
  omega
theorem e61 (k:Nat) (x:List Int):∃ b:Bool,f61 k x Wm=some (if b=true then (x.drop 4,false) else ([],true)) ∧ (b=true→4≤x.length) ∧ (x.take 4=magic→b=true):=by
 obtain ⟨b,h1,h2,h3⟩:=e84 k x
 refine ⟨b,?_,h2,h3⟩
 unfold f61
 rw [if_t (by rw [wm_size]; decide),wm_nums,h1,Option.bind_some]
 cases b with
 | false => rfl
 | true =>
   have h4:=h2 rfl
   rw [if_f (by decide),if_t ⟨by rw [wm_size]; decide,trivial,by rw [wm_size]; exact h4,Nat.le_refl _⟩,wm_size,List.take_length]
   rfl
section
variable (k:Nat) (hk:1048576 < k) (x:List Int) (hx:BOk x) (hl:x.length≤1048576)
include hk hx hl
theorem i_tot:∃ r,f26 k x=some r ∧ (r = (dTl,false)∨∃ d:Tile,r = (d,true) ∧ (d.2.length≤1048576∧∀ l ∈ d.2,LSz l)∧4≤x.length∧∃ v,f18 k d=some v∧strOfNums v=strOfNums x):=by
 unfold f26
 obtain ⟨b,h1,h2,_⟩:=e61 k x
 rw [h1,Option.bind_some]
 have hinv:RI.Inv (if b=true then (x.drop 4,false) else ([],true)):=by
  cases b with
  | false => exact ⟨fun y hy => by simp at hy,by simp⟩
  | true => exact ⟨hx.drop 4,by simp only [if_true,List.length_drop]; omega⟩
 have hbad:b=false→RI.bad (if b=true then (x.drop 4,false) else ([],true))=true:=fun h => by rw [h]; rfl
 generalize (if b=true then (x.drop 4,false) else ([],true))=s0 at hinv hbad
 obtain ⟨z,s1,a1,a2,a3,_,_,a6⟩:=iNum_tot k hk s0 hinv
 obtain ⟨x1,s2,b1,b2,b3,_,_,b6⟩:=iNum_tot k hk s1 a2
 obtain ⟨y1,s3,c1,c2,c3,_,_,c6⟩:=iNum_tot k hk s2 b2
 obtain ⟨n,s4,d1,d2,d3,_,_,d6⟩:=iNum_tot k hk s3 c2
 rw [a1,Option.bind_some,b1,Option.bind_some,c1,Option.bind_some,d1,Option.bind_some]
 have hn:n≤72057594037927936:=by have:=d3.2; omega
 obtain ⟨ls,s5,g1,g2,g3,g4,g6⟩:=lines_tot (R:=RI) (k:=k) (N2:=n) (num:=f62 k) (sig:=f63 k) (tags:=f64 k) hk RI_mu (iP1 k hk x (n,s4) (z,s1) (x1,s2) (y1,s3) hn) (iP2 k hk x (n,s4) (z,s1) (x1,s2) (y1,s3) hn) (iL1 k hk x (n,s4) (z,s1) (x1,s2) (y1,s3) hn) (iL2 k hk x (n,s4) (z,s1) (x1,s2) (y1,s3) hn) (iNum_tot k hk) (iSig_tot k hk) (iTags_tot k hk) s4 n d2 (Int.le_refl _)
 have g1':f26.l673 k (n,s4) (z,s1) (x1,s2) (y1,s3) x k (s4,[],n - n)=iFin k (z,s1) (x1,s2) (y1,s3) x s5 ls:=g1
 rw [Int.sub_self] at g1'
 rw [g1']
 unfold iFin
 by_cases hb:(bif s5.2 then true else (decide (((List.length s5.1:Int):Int) > (0:Int))))=true
 ·rw [hb,if_f (by decide),Option.bind_some,if_f (by decide)]
  exact ⟨_,rfl,.inl rfl⟩
 ·have hb':=eq_false_of_ne_true hb
  rw [hb',if_t rfl]
  have hbt:b=true:=by
   cases hbb:b with
   | true => rfl
   | false =>
     have h5:RI.bad s5=true:=g6 (d6 (c6 (b6 (a6 (hbad hbb)))))
     have h5':s5.2=true:=h5
     rw [h5'] at hb'
     cases hb'
  obtain ⟨v1,v2⟩:=whole2 k hk ((z,(x1,y1)),ls) g3 g4
  have:∃ v,f18 k ((z,(x1,y1)),ls)=some v:=by
   rcases Classical.em (valid k ((z,(x1,y1)),ls)) with hv | hv
   ·exact ⟨_,(v1 hv).2⟩
   ·exact ⟨_,(v2 hv).2⟩
  obtain ⟨v,hv⟩:=this
  rw [hv,Option.bind_some,if_t rfl]
  unfold f65
  rw [Option.bind_some,cond_false]
  by_cases he:strOfNums v=strOfNums x
  ·rw [if_f (by rw [tl_eq.2 he]; decide)]
   exact ⟨_,rfl,.inr ⟨_,rfl,⟨g3,g4⟩,h2 hbt,v,hv,he⟩⟩
  ·rw [if_t (by
    cases hq:(ByteArray.toList (strOfNums v) == ByteArray.toList (strOfNums x)) with
    | true => exact absurd (tl_eq.1 hq) he
    | false => rfl)]
   exact ⟨_,rfl,.inl rfl⟩
theorem i_cmp (d:Tile) (hv:valid k d) (hz:d.2.length≤1048576∧∀ l ∈ d.2,LSz l) (he:x=encW d):f26 k x=some (d,true):=by
 obtain ⟨zz,xx,yy,hd1,hz1,hx1,hy1⟩:=e49_up hv.1
 obtain ⟨t,ls⟩:=d
 simp only at hd1
 subst hd1
 have hmag:x=magic ++ (enc zz ++ (enc xx ++ (enc yy ++ (enc ls.length ++ encLines ls)))):=he
 have h4:4≤x.length:=by rw [hmag]; simp [magic]
 have hdrop:x.drop 4=enc zz ++ (enc xx ++ (enc yy ++ (enc ls.length ++ encLines ls))):=by rw [hmag]; rfl
 have htake:x.take 4=magic:=by rw [hmag]; rfl
 have hlen:ls.length≤2000:=hv.2.1
 unfold f26
 obtain ⟨b,q1,_,q3⟩:=e61 k x
 rw [q1,Option.bind_some,q3 htake,if_t rfl]
 obtain ⟨s1,a1,a2,a3,a4⟩:=iNum_cmp k hk zz (by omega) (x.drop 4,false) _ ⟨hx.drop 4,by simp only [List.length_drop]; omega⟩ rfl hdrop
 obtain ⟨s2,b1,b2,b3,b4⟩:=iNum_cmp k hk xx (by omega) s1 _ a2 a4 a3
 obtain ⟨s3,c1,c2,c3,c4⟩:=iNum_cmp k hk yy (by omega) s2 _ b2 b4 b3
 obtain ⟨s4,d1,d2,d3,d4⟩:=iNum_cmp k hk ls.length (by omega) s3 _ c2 c4 c3
 rw [a1,Option.bind_some,b1,Option.bind_some,c1,Option.bind_some,d1,Option.bind_some]
 have hn:(ls.length:Int)≤72057594037927936:=by omega
 obtain ⟨s5,g1,g2,g3,g4⟩:=lines_cmp (R:=RI) (k:=k) (N2:=(ls.length:Int)) (num:=f62 k) (sig:=f63 k) (tags:=f64 k) hk RI_mu (iP1 k hk x ((ls.length:Int),s4) ((zz:Int),s1) ((xx:Int),s2) ((yy:Int),s3) hn) (iP2 k hk x ((ls.length:Int),s4) ((zz:Int),s1) ((xx:Int),s2) ((yy:Int),s3) hn) (iL1 k hk x ((ls.length:Int),s4) ((zz:Int),s1) ((xx:Int),s2) ((yy:Int),s3) hn) (iL2 k hk x ((ls.length:Int),s4) ((zz:Int),s1) ((xx:Int),s2) ((yy:Int),s3) hn) (iNum_cmp k hk) (fun v h1 h2 => iSig_cmp k hk h1 h2) (iTags_cmp k hk) s4 ls [] d2 d4 (by rw [List.append_nil]; exact d3) hlen (Int.le_refl _) hv.2.2
 have g1':f26.l673 k ((ls.length:Int),s4) ((zz:Int),s1) ((xx:Int),s2) ((yy:Int),s3) x k (s4,[],(ls.length:Int) - (ls.length:Int))=iFin k ((zz:Int),s1) ((xx:Int),s2) ((yy:Int),s3) x s5 ls:=g1
 rw [Int.sub_self] at g1'
 rw [g1']
 unfold iFin
 have hb:s5.2=false:=g3
 have hr:s5.1=[]:=g4
 have hcc:(bif s5.2 then true else (decide (((List.length s5.1:Int):Int) > (0:Int))))=false:=by rw [hb,hr]; rfl
 have hw:=((whole2 k hk (((zz:Int),((xx:Int),(yy:Int))),ls) hz.1 hz.2).1 hv).2
 rw [hcc,if_t rfl,hw,Option.bind_some,if_t rfl,← he]
 unfold f65
 rw [Option.bind_some,tl_eq.2 rfl,if_f (by decide)]
end
theorem encF_ok:∀ (f n:Nat),n < 128 ^ (f+1)→BOk (encF f n)
 | 0,n,h => by
   intro b hb
   simp [encF] at hb
   have:n < 128:=by simpa using h
   omega
 | f+1,n,h => by
   unfold encF
   split
   ·intro b hb
    simp at hb
    omega
   ·intro b hb
    rcases List.mem_cons.1 hb with rfl | hb
    ·omega
    ·exact encF_ok f (n / 128) (by rw [Nat.pow_succ] at h; omega) b hb
theorem enc_ok {n:Nat} (h:n < 1180591620717411303424):BOk (enc n):=encF_ok 9 n (Nat.lt_of_lt_of_le h (by decide))
theorem BOk.app {x y:List Int} (h1:BOk x) (h2:BOk y):BOk (x ++ y):=fun b hb => by
 rcases List.mem_append.1 hb with hb | hb
 ·exact h1 b hb
 ·exact h2 b hb
theorem str_ok (s:ByteArray):BOk (strNums s):=fun b hb => by
 simp only [strNums,List.mem_map] at hb
 obtain ⟨c,_,rfl⟩:=hb
 have:=c.toNat_lt
 omega
theorem strOf_inj:∀ {x y:List Int},BOk x→BOk y→strOfNums x=strOfNums y→x=y:=by
 intro x y hx hy h
 have h1:∀ {z:List Int},BOk z→strNums (strOfNums z)=z:=fun {z} hz => by
  unfold strNums strOfNums
  simp only [List.map_map]
  refine (List.map_congr_left (g:=id) fun b hb => ?_).trans (List.map_id _)
  have:=hz b hb
  simp only [Function.comp,id,UInt8.toNat_ofNat']
  omega
 rw [← h1 hx,← h1 hy,h]
theorem tgs_ok:∀ (ts:Tags),(∀ t ∈ ts,t.1.size≤40∧t.2.size≤100)→BOk (encTgs ts)
 | [],_ => fun b hb => by simp [encTgs] at hb
 | t :: ts,h => by
   have h2:=h t List.mem_cons_self
   unfold encTgs encTag
   exact ((enc_ok (by omega)).app ((str_ok _).app ((enc_ok (by omega)).app (str_ok _)))).app (tgs_ok ts (fun t ht => h t (List.mem_cons_of_mem _ ht)))
theorem pts_ok:∀ (a:Pt) (ps:List Pt),((0≤a.1∧a.1≤4096)∧0≤a.2∧a.2≤4096) → (∀ p ∈ ps,ptOk p=true)→BOk (encPts a ps)
 | _,[],_,_ => fun b hb => by simp [encPts] at hb
 | a,p :: ps,ha,h => by
   have hp:=ptOk_iff.1 (h p List.mem_cons_self)
   unfold encPts
   have s1:sgn (p.1 - a.1) < 1180591620717411303424:=by unfold sgn; split <;> omega
   have s2:sgn (p.2 - a.2) < 1180591620717411303424:=by unfold sgn; split <;> omega
   exact (enc_ok s1).app ((enc_ok s2).app (pts_ok p ps hp (fun q hq => h q (List.mem_cons_of_mem _ hq))))
theorem lines_ok:∀ (ls:List Line),(∀ l ∈ ls,lineOk l=true)→BOk (encLines ls)
 | [],_ => fun b hb => by simp [encLines] at hb
 | l :: ls,h => by
   obtain ⟨ho1,⟨ho2,ho3,ho4⟩,ho5⟩:=lineOk_iff.1 (h l List.mem_cons_self)
   obtain ⟨t1,t2⟩:=tags_small ho5
   unfold encLines encLine encTags
   refine ((enc_ok (by omega)).app ((enc_ok (by omega)).app ((pts_ok _ _ (by decide) ?_).app ((enc_ok (by omega)).app (tgs_ok _ t2))))).app (lines_ok ls (fun l hl => h l (List.mem_cons_of_mem _ hl)))
   intro p hp
   unfold rowOk at ho1
   rw [List.drop_zero,List.all_eq_true] at ho1
   exact ho1 p hp
theorem encW_ok {k:Nat} {d:Tile} (hv:valid k d):BOk (encW d):=by
 obtain ⟨zz,xx,yy,hd1,hz1,hx1,hy1⟩:=e49_up hv.1
 have hlen:=hv.2.1
 unfold encW encH
 have hm:BOk magic:=by unfold BOk magic; decide
 refine hm.app ((enc_ok (by rw [hd1]; simp only [Int.toNat_natCast]; omega)).app ((enc_ok (by rw [hd1]; simp only [Int.toNat_natCast]; omega)).app ((enc_ok (by rw [hd1]; simp only [Int.toNat_natCast]; omega)).app ((enc_ok (by omega)).app (lines_ok _ hv.2.2)))))
section
variable (k:Nat) (hk:1048576 < k) (x:List Int) (hx:BOk x) (hl:x.length≤1048576)
include hk hx hl
theorem is_enc {d:Tile} {v:List Int} (hz:d.2.length≤1048576∧∀ l ∈ d.2,LSz l) (h4:0 < x.length) (hv:f16 k d=some v∨f18 k d=some v) (he:strOfNums v=strOfNums x):valid k d∧x=encW d:=by
 obtain ⟨w1,w2⟩:=whole2 k hk d hz.1 hz.2
 rcases Classical.em (valid k d) with hvd | hvd
 ·have:v=encW d:=by
   rcases hv with hv | hv
   ·rw [(w1 hvd).1] at hv; exact (Option.some.inj hv).symm
   ·rw [(w1 hvd).2] at hv; exact (Option.some.inj hv).symm
  rw [this] at he
  exact ⟨hvd,(strOf_inj (encW_ok hvd) hx he).symm⟩
 ·have:v=[]:=by
   rcases hv with hv | hv
   ·rw [(w2 hvd).1] at hv; exact (Option.some.inj hv).symm
   ·rw [(w2 hvd).2] at hv; exact (Option.some.inj hv).symm
  rw [this] at he
  have:=congrArg ByteArray.size he
  rw [strOf_size,strOf_size] at this
  simp at this
  omega
theorem same_read:∃ r,f24 k x=some r∧f26 k x=some r ∧ (r = (dTl,false)∨∃ d:Tile,r = (d,true)∧valid k d):=by
 obtain ⟨rs,s1,s2⟩:=s_tot k hk x hx hl
 obtain ⟨ri,i1,i2⟩:=i_tot k hk x hx hl
 rcases s2 with s2 | ⟨d,s2,sz,v,sv,se⟩
 ·rcases i2 with i2 | ⟨d,i2,iz,i4,v,iv,ie⟩
  ·exact ⟨_,s1,by rw [i1,i2,s2],.inl s2⟩
  ·obtain ⟨p1,p2⟩:=is_enc k hk x hx hl iz (by omega) (.inr iv) ie
   have:=s_cmp k hk x hx hl d p1 iz p2
   exact ⟨_,this,by rw [i1,i2],.inr ⟨d,rfl,p1⟩⟩
 ·have hpos:0 < x.length:=by
   rcases Nat.eq_zero_or_pos x.length with h | h
   ·exfalso
    have hx0:x=[]:=List.eq_nil_of_length_eq_zero h
    rw [s2,hx0] at s1
    unfold f24 at s1
    rw [if_t (fun h => by cases h),if_t (by rfl)] at s1
    cases s1
   ·exact h
  obtain ⟨p1,p2⟩:=is_enc k hk x hx hl sz hpos (.inl sv) se
  have:=i_cmp k hk x hx hl d p1 sz p2
  exact ⟨_,s1,by rw [this,s2],.inr ⟨d,s2,p1⟩⟩
end
end Go.Proofs.Ytgfekidehbancaa
end
section
set_option linter.unusedVariables false
set_option linter.unusedSimpArgs false
namespace Go.Proofs.Ytgfekidehbancaa
open Go Go.Vm Go.Proofs V
theorem bd_of {k:Nat} {d:Tile} (hv:valid k d):Sh.bd (.st (.pair (.st (.pair (.int .i64) (.pair (.int .i64) (.int .i64)))) (.sl false 80 (.st (.pair (.int .i64) (.pair (.sl false 66 (.st (.pair (.int .i64) (.int .i64)))) (.sl false 128 (.st (.pair .str .str))))))))) d:=by
 have h2:=hv.2.1
 refine ⟨⟨trivial,trivial,trivial⟩,by show d.2.length≤1048576; omega,fun l hl => ?_⟩
 obtain ⟨_,⟨_,_,ho4⟩,ho5⟩:=lineOk_iff.1 (hv.2.2 l hl)
 obtain ⟨t1,t2⟩:=tags_small ho5
 refine ⟨trivial,⟨by show l.2.1.length≤1048576; omega,fun _ _ => ⟨trivial,trivial⟩⟩,by show l.2.2.length≤1048576; omega,fun t ht => ?_⟩
 obtain ⟨u1,u2⟩:=t2 t ht
 exact ⟨by show t.1.size≤1048576; omega,by show t.2.size≤1048576; omega⟩
theorem bd_nil:Sh.bd (.st (.pair (.st (.pair (.int .i64) (.pair (.int .i64) (.int .i64)))) (.sl false 80 (.st (.pair (.int .i64) (.pair (.sl false 66 (.st (.pair (.int .i64) (.int .i64)))) (.sl false 128 (.st (.pair .str .str))))))))) dTl:=⟨⟨trivial,trivial,trivial⟩,by show (0:Nat)≤1048576; omega,fun l hl => by simp at hl⟩
theorem law5 (x0:List Int) (w0:Sh.wf (.sl false 5 (.int .u8)) x0):∃ k,f5 k x0=some true:=by
 refine ⟨1099511627777,?_⟩
 have hk:1048576 < 1099511627777:=by decide
 unfold f5
 by_cases hbig:(x0.length:Int) > 1048576
 ·rw [if_t (by simpa using hbig)]
 rw [if_f (by simpa using hbig)]
 have hl:x0.length≤1048576:=by omega
 have hx:BOk x0:=fun b hb => by
  have h:IntKind.u8.min≤b∧b≤IntKind.u8.max:=w0.2 b hb
  have e1:IntKind.u8.min=0:=by decide
  have e2:IntKind.u8.max=255:=by decide
  rw [e1,e2] at h
  exact h
 have hb0:Sh.bd (.sl false 5 (.int .u8)) x0:=⟨hl,fun _ _ => trivial⟩
 obtain ⟨r,s1,i1,hr⟩:=same_read 1099511627777 hk x0 hx hl
 have hbd:Sh.bd (.st (.pair (.st (.pair (.int .i64) (.pair (.int .i64) (.int .i64)))) (.sl false 80 (.st (.pair (.int .i64) (.pair (.sl false 66 (.st (.pair (.int .i64) (.int .i64)))) (.sl false 128 (.st (.pair .str .str))))))))) r.1:=by
  rcases hr with hr | ⟨d,hr,hv⟩
  ·rw [hr]; exact bd_nil
  ·rw [hr]; exact bd_of hv
 obtain ⟨y,m1⟩:=markB 1099511627777 x0 (by omega) (by omega)
 obtain ⟨c,g',p1,p2,p3,p4⟩:=mk21 1099511627777 hk r.1 hbd 1 (by decide) (by decide)
 have p1':f21 1099511627777 r.1 1=some (c,g'):=p1
 have h1':f27 1099511627777 g' 1=some c:=hd27 1099511627777 hk 1 g' c (by decide) p3 (by omega) p2
 have c1:decide ((c:Int) < 0)=false:=by simp; omega
 have d1:decide (((x0.length+1:Nat):Int) < 0)=false:=by simp; omega
 have e25:=to25 1099511627777 hk x0 hb0
 have e19:=eq19 1099511627777 hk x0 hb0
 have e20:=eq20 1099511627777 hk r.1 hbd
 simp only [e25,s1,i1,e20,e19,m1,p1',h1',c1,d1,Option.bind_some]
 simp
end Go.Proofs.Ytgfekidehbancaa
end
