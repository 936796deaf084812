/-
  THE PLUMBING OF A LAW'S FUNCTIONS, PRINTED BY A PROGRAM OF THIS PROJECT (wip/gen/plumb.py).
-/
import Derived.Test.YtnpaokckkbhdjaaR7u
import Derived.Test.YtnpaokckkbhdjaaLawB
import Derived.Test.YtnpaokckkbhdjaaLawC
import Derived.Test.YtnpaokckkbhdjaaVmU
set_option linter.unusedVariables false
set_option linter.unusedSimpArgs false
open Go Go.Vm Go.Proofs
namespace Go.Proofs.Ytnpaokckkbhdjaa.V
/- laws.szLabelS -/
theorem sz11 (k:Nat) (hk:1048576 < k) (x:(List (Int × ((Int × Int) × (Int × (Int × Int)))))) (hw:Sh.wf (.sl false 110 (.st (.pair (.int .i64) (.pair (.st (.pair (.int .i64) (.int .i64))) (.pair (.int .i64) (.pair (.int .i64) (.int .i64))))))) x):Sz (fun v => f11 k x v) (Sh.bd (.sl false 110 (.st (.pair (.int .i64) (.pair (.st (.pair (.int .i64) (.int .i64))) (.pair (.int .i64) (.pair (.int .i64) (.int .i64))))))) x) :=
 Sz.imp (Sz.len hw.1 (fun _ => Sz.done)) (fun h => ⟨h.1,fun y _ => ⟨trivial,⟨trivial,trivial⟩,trivial,trivial,trivial⟩⟩)
/- laws.szLabelSS -/
theorem sz21 (k:Nat) (hk:1048576 < k) (x:(List (List (Int × ((Int × Int) × (Int × (Int × Int))))))) (hw:Sh.wf (.sl false 22 (.sl false 110 (.st (.pair (.int .i64) (.pair (.st (.pair (.int .i64) (.int .i64))) (.pair (.int .i64) (.pair (.int .i64) (.int .i64)))))))) x):Sz (fun v => f21 k x v) (Sh.bd (.sl false 22 (.sl false 110 (.st (.pair (.int .i64) (.pair (.st (.pair (.int .i64) (.int .i64))) (.pair (.int .i64) (.pair (.int .i64) (.int .i64)))))))) x) :=
 Sz.len hw.1 (fun h => Sz.loop hk (s:=fun y v => f11 k y v) (f21.l28 k x) (fun _ _ _ => rfl) h (fun y hy => sz11 k hk y (hw.2 y hy)))
/- laws.toPoint -/
theorem to137 (k:Nat) (hk:1048576 < k) (x:(Int × Int)) (h:Sh.bd (.st (.pair (.int .i64) (.int .i64))) x):f137 k x=some x:=by
 unfold f137
 all_goals rfl
/- laws.toLabel -/
theorem to71 (k:Nat) (hk:1048576 < k) (x:(Int × ((Int × Int) × (Int × (Int × Int))))) (h:Sh.bd (.st (.pair (.int .i64) (.pair (.st (.pair (.int .i64) (.int .i64))) (.pair (.int .i64) (.pair (.int .i64) (.int .i64)))))) x):f71 k x=some x:=by
 unfold f71
 simp only [to137 k hk x.2.1 h.2.1,Option.bind_some]
 all_goals rfl
/- laws.toLabelS -/
theorem to13 (k:Nat) (hk:1048576 < k) (x:(List (Int × ((Int × Int) × (Int × (Int × Int)))))) (h:Sh.bd (.sl false 110 (.st (.pair (.int .i64) (.pair (.st (.pair (.int .i64) (.int .i64))) (.pair (.int .i64) (.pair (.int .i64) (.int .i64))))))) x):f13 k x=some x:=by
 unfold f13
 exact copyRow (g:=fun y => f71 k y) (z:=48) hk (f13.l34 k x) (fun _ _ _ => rfl) (by decide) h.1 (fun y hy => to71 k hk y (h.2 y hy))
/- laws.toLabelSS -/
theorem to23 (k:Nat) (hk:1048576 < k) (x:(List (List (Int × ((Int × Int) × (Int × (Int × Int))))))) (h:Sh.bd (.sl false 22 (.sl false 110 (.st (.pair (.int .i64) (.pair (.st (.pair (.int .i64) (.int .i64))) (.pair (.int .i64) (.pair (.int .i64) (.int .i64)))))))) x):f23 k x=some x:=by
 unfold f23
 exact copyRow (g:=fun y => f13 k y) (z:=24) hk (f23.l34 k x) (fun _ _ _ => rfl) (by decide) h.1 (fun y hy => to13 k hk y (h.2 y hy))
/- laws.eqInt64S -/
theorem eq16 (k:Nat) (hk:1048576 < k) (x:(List Int)) (h:Sh.bd (.sl false 2 (.int .i64)) x):f16 k x x=some true:=by
 unfold f16
 exact eqRow0 (ne:=fun (a b:Int) => a != b) hk (f16.l18 k x x) (fun _ _ => rfl) h.1 (fun y => by simp)
/- laws.eqInt64SS -/
theorem eq25 (k:Nat) (hk:1048576 < k) (x:(List (List Int))) (h:Sh.bd (.sl false 23 (.sl false 2 (.int .i64))) x):f25 k x x=some true:=by
 unfold f25
 exact eqRow (e:=fun a b => f16 k a b) hk (f25.l30 k x x) (fun _ _ => rfl) h.1 (fun y hy => eq16 k hk y (h.2 y hy))
/- laws.eqPoint -/
theorem eq143 (k:Nat) (hk:1048576 < k) (x:(Int × Int)) (h:Sh.bd (.st (.pair (.int .i64) (.int .i64))) x):f143 k x x=some true:=by
 unfold f143
 simp []
/- laws.eqLabel -/
theorem eq77 (k:Nat) (hk:1048576 < k) (x:(Int × ((Int × Int) × (Int × (Int × Int))))) (h:Sh.bd (.st (.pair (.int .i64) (.pair (.st (.pair (.int .i64) (.int .i64))) (.pair (.int .i64) (.pair (.int .i64) (.int .i64)))))) x):f77 k x x=some true:=by
 unfold f77
 simp [eq143 k hk x.2.1 h.2.1]
/- laws.eqLabelS -/
theorem eq17 (k:Nat) (hk:1048576 < k) (x:(List (Int × ((Int × Int) × (Int × (Int × Int)))))) (h:Sh.bd (.sl false 54 (.st (.pair (.int .i64) (.pair (.st (.pair (.int .i64) (.int .i64))) (.pair (.int .i64) (.pair (.int .i64) (.int .i64))))))) x):f17 k x x=some true:=by
 unfold f17
 exact eqRow (e:=fun a b => f77 k a b) hk (f17.l30 k x x) (fun _ _ => rfl) h.1 (fun y hy => eq77 k hk y (h.2 y hy))
/- laws.eqLabelSS -/
theorem eq26 (k:Nat) (hk:1048576 < k) (x:(List (List (Int × ((Int × Int) × (Int × (Int × Int))))))) (h:Sh.bd (.sl false 26 (.sl false 54 (.st (.pair (.int .i64) (.pair (.st (.pair (.int .i64) (.int .i64))) (.pair (.int .i64) (.pair (.int .i64) (.int .i64)))))))) x):f26 k x x=some true:=by
 unfold f26
 exact eqRow (e:=fun a b => f17 k a b) hk (f26.l30 k x x) (fun _ _ => rfl) h.1 (fun y hy => eq17 k hk y (h.2 y hy))
def ELabelS (k:Nat) (v:Int) (b:(Int × ((Int × Int) × (Int × (Int × Int))))) (c:Int):Prop:=(b.1=v) ∧ (b.2.1.1=v+1) ∧ (b.2.1.2=v+1+1) ∧ (b.2.2.1=v+1+1+1) ∧ (b.2.2.2.1=v+1+1+1+1) ∧ (b.2.2.2.2=v+1+1+1+1+1)∧c=v+1+1+1+1+1+1
abbrev KLabelS (k:Nat):Int → (List (Int × ((Int × Int) × (Int × (Int × Int)))))→Int→Prop:=RowR ((0:Int),(((0:Int),(0:Int)),((0:Int),((0:Int),(0:Int))))) (ELabelS k)
/- laws.markLabelS -/
theorem mk18 (k:Nat) (hk:1048576 < k) (x:(List (Int × ((Int × Int) × (Int × (Int × Int)))))) (hx:Sh.bd (.sl false 54 (.st (.pair (.int .i64) (.pair (.st (.pair (.int .i64) (.int .i64))) (.pair (.int .i64) (.pair (.int .i64) (.int .i64))))))) x):Mk (fun x v => f18 k x v) (KLabelS k) 6291456 x:=by
 refine markRow (d:=((0:Int),(((0:Int),(0:Int)),((0:Int),((0:Int),(0:Int)))))) (w:=6) hx.1 (L:=f18.l98 k) (by decide) (fun a ha v h0 h1 => ?_) (fun m xs v => by rw [f18.l98,if_f (by simp)]) hk (by decide)
 have z0:IntKind.i64.wrap (v+1)=v+1:=wrap_in (by omega) (by omega)
 have z1:IntKind.i64.wrap (v+1+1)=v+1+1:=wrap_in (by omega) (by omega)
 have z2:IntKind.i64.wrap (v+1+1+1)=v+1+1+1:=wrap_in (by omega) (by omega)
 have z3:IntKind.i64.wrap (v+1+1+1+1)=v+1+1+1+1:=wrap_in (by omega) (by omega)
 have z4:IntKind.i64.wrap (v+1+1+1+1+1)=v+1+1+1+1+1:=wrap_in (by omega) (by omega)
 have z5:IntKind.i64.wrap (v+1+1+1+1+1+1)=v+1+1+1+1+1+1:=wrap_in (by omega) (by omega)
 refine ⟨v+1+1+1+1+1+1,(v,(v+1,v+1+1),v+1+1+1,v+1+1+1+1,v+1+1+1+1+1),⟨rfl,rfl,rfl,rfl,rfl,rfl,rfl⟩,by omega,by omega,fun m i xs hi hl ha => ?_⟩
 have hc:decide ((i:Int) < (xs.length:Int))=true:=by simpa using hi
 have hb:(0:Int) ≤ (i:Int) ∧ (i:Int) < (xs.length:Int):=⟨by omega,by omega⟩
 have hxl:=hx.1
 have h3:((3:Int):Int)≠0:=by decide
 rw [f18.l98,if_t hc]
 simp only [if_t hb,if_t h3,List.length_set,Int.toNat_natCast,gd_set_eq,hi,List.set_set,Option.bind_some,ha,wrap_s (n:=i) (by omega),z0,z1,z2,z3,z4,z5]
def ELabelSS (k:Nat) (v:Int) (b:(List (Int × ((Int × Int) × (Int × (Int × Int)))))) (c:Int):Prop:=∃ c1:Int,(KLabelS k (v) b c1∧v≤c1)∧c=c1
abbrev KLabelSS (k:Nat):Int → (List (List (Int × ((Int × Int) × (Int × (Int × Int))))))→Int→Prop:=RowR ([]:(List (Int × ((Int × Int) × (Int × (Int × Int)))))) (ELabelSS k)
/- laws.markLabelSS -/
theorem mk27 (k:Nat) (hk:1048576 < k) (x:(List (List (Int × ((Int × Int) × (Int × (Int × Int))))))) (hx:Sh.bd (.sl false 26 (.sl false 54 (.st (.pair (.int .i64) (.pair (.st (.pair (.int .i64) (.int .i64))) (.pair (.int .i64) (.pair (.int .i64) (.int .i64)))))))) x):Mk (fun x v => f27 k x v) (KLabelSS k) 6597069766656 x:=by
 refine markRow (d:=([]:(List (Int × ((Int × Int) × (Int × (Int × Int))))))) (w:=6291456) hx.1 (L:=f27.l32 k) (by decide) (fun a ha v h0 h1 => ?_) (fun m xs v => by rw [f27.l32,if_f (by simp)]) hk (by decide)
 obtain ⟨c1,y1,q1,r1,l1,u1⟩:=mk18 k hk (a) (hx.2 a ha) (v) (by omega) (by omega)
 have p1:f18 k (a) (v)=some (c1,y1):=q1
 refine ⟨c1,y1,⟨_,⟨r1,l1⟩,rfl⟩,by omega,by omega,fun m i xs hi hl ha => ?_⟩
 have hc:decide ((i:Int) < (xs.length:Int))=true:=by simpa using hi
 have hb:(0:Int) ≤ (i:Int) ∧ (i:Int) < (xs.length:Int):=⟨by omega,by omega⟩
 have hxl:=hx.1
 have h3:((3:Int):Int)≠0:=by decide
 rw [f27.l32,if_t hc]
 simp only [if_t hb,if_t h3,List.length_set,Int.toNat_natCast,gd_set_eq,hi,List.set_set,Option.bind_some,ha,wrap_s (n:=i) (by omega),p1]
def EInt64S (k:Nat) (v:Int) (b:Int) (c:Int):Prop:=(b=v)∧c=v+1
abbrev KInt64S (k:Nat):Int → (List Int)→Int→Prop:=RowR (0:Int) (EInt64S k)
/- laws.markInt64S -/
theorem mk19 (k:Nat) (hk:1048576 < k) (x:(List Int)) (hx:Sh.bd (.sl false 2 (.int .i64)) x):Mk (fun x v => f19 k x v) (KInt64S k) 1048576 x:=by
 refine markRow (d:=(0:Int)) (w:=1) hx.1 (L:=f19.l20 k) (by decide) (fun a ha v h0 h1 => ?_) (fun m xs v => by rw [f19.l20,if_f (by simp)]) hk (by decide)
 have z0:IntKind.i64.wrap (v+1)=v+1:=wrap_in (by omega) (by omega)
 refine ⟨v+1,v,⟨rfl,rfl⟩,by omega,by omega,fun m i xs hi hl ha => ?_⟩
 have hc:decide ((i:Int) < (xs.length:Int))=true:=by simpa using hi
 have hb:(0:Int) ≤ (i:Int) ∧ (i:Int) < (xs.length:Int):=⟨by omega,by omega⟩
 have hxl:=hx.1
 have h3:((3:Int):Int)≠0:=by decide
 rw [f19.l20,if_t hc]
 simp only [if_t hb,if_t h3,List.length_set,Int.toNat_natCast,gd_set_eq,hi,List.set_set,Option.bind_some,ha,wrap_s (n:=i) (by omega),z0]
def EInt64SS (k:Nat) (v:Int) (b:(List Int)) (c:Int):Prop:=∃ c1:Int,(KInt64S k (v) b c1∧v≤c1)∧c=c1
abbrev KInt64SS (k:Nat):Int → (List (List Int))→Int→Prop:=RowR ([]:(List Int)) (EInt64SS k)
/- laws.markInt64SS -/
theorem mk28 (k:Nat) (hk:1048576 < k) (x:(List (List Int))) (hx:Sh.bd (.sl false 23 (.sl false 2 (.int .i64))) x):Mk (fun x v => f28 k x v) (KInt64SS k) 1099511627776 x:=by
 refine markRow (d:=([]:(List Int))) (w:=1048576) hx.1 (L:=f28.l32 k) (by decide) (fun a ha v h0 h1 => ?_) (fun m xs v => by rw [f28.l32,if_f (by simp)]) hk (by decide)
 obtain ⟨c1,y1,q1,r1,l1,u1⟩:=mk19 k hk (a) (hx.2 a ha) (v) (by omega) (by omega)
 have p1:f19 k (a) (v)=some (c1,y1):=q1
 refine ⟨c1,y1,⟨_,⟨r1,l1⟩,rfl⟩,by omega,by omega,fun m i xs hi hl ha => ?_⟩
 have hc:decide ((i:Int) < (xs.length:Int))=true:=by simpa using hi
 have hb:(0:Int) ≤ (i:Int) ∧ (i:Int) < (xs.length:Int):=⟨by omega,by omega⟩
 have hxl:=hx.1
 have h3:((3:Int):Int)≠0:=by decide
 rw [f28.l32,if_t hc]
 simp only [if_t hb,if_t h3,List.length_set,Int.toNat_natCast,gd_set_eq,hi,List.set_set,Option.bind_some,ha,wrap_s (n:=i) (by omega),p1]
/- laws.heldInt64S -/
theorem hd20 (k:Nat) (hk:1048576 < k):Hd (fun y v => f20 k y v) (KInt64S k):=by
 refine heldRow (d:=(0:Int)) (L:=fun y => f20.l16 k y) (fun ys m i v c hi hl h0 h1 h2 hR => ?_) (fun ys m v => by rw [f20.l16,if_f (by simp)]) hk
 obtain ⟨e0,ec⟩:=hR
 have z0:IntKind.i64.wrap (v+1)=v+1:=wrap_in (by omega) (by omega)
 have hc:decide ((i:Int) < (ys.length:Int))=true:=by simpa using hi
 have hb:(0:Int) ≤ (i:Int) ∧ (i:Int) < (ys.length:Int):=⟨by omega,by omega⟩
 have h3:((3:Int):Int)≠0:=by decide
 subst ec
 rw [f20.l16,if_t hc]
 simp only [if_t hb,if_t h3,Int.toNat_natCast,Option.bind_some,z0,e0,wrap_s (n:=i) (by omega),bne_self_eq_false,beq_self_eq_true,Bool.not_true,Bool.false_eq_true,if_false]
/- laws.heldInt64SS -/
theorem hd29 (k:Nat) (hk:1048576 < k):Hd (fun y v => f29 k y v) (KInt64SS k):=by
 refine heldRow (d:=([]:(List Int))) (L:=fun y => f29.l28 k y) (fun ys m i v c hi hl h0 h1 h2 hR => ?_) (fun ys m v => by rw [f29.l28,if_f (by simp)]) hk
 obtain ⟨c1,k1,ec⟩:=hR
 have o1:=k1.2
 have r1:f20 k (List.getD ys i ([]:(List Int))) (v)=some c1:=hd20 k hk (v) _ c1 (by omega) (by omega) (by omega) k1.1
 have hh1:=k1.2
 have n1:¬ (decide ((c1:Int) < (0:Int))=true):=by simp; omega
 have hc:decide ((i:Int) < (ys.length:Int))=true:=by simpa using hi
 have hb:(0:Int) ≤ (i:Int) ∧ (i:Int) < (ys.length:Int):=⟨by omega,by omega⟩
 have h3:((3:Int):Int)≠0:=by decide
 obtain rfl:=ec.symm
 rw [f29.l28,if_t hc]
 simp only [if_t hb,if_t h3,Int.toNat_natCast,Option.bind_some,r1,if_f n1,wrap_s (n:=i) (by omega),bne_self_eq_false,beq_self_eq_true,Bool.not_true,Bool.false_eq_true,if_false]
end Go.Proofs.Ytnpaokckkbhdjaa.V
