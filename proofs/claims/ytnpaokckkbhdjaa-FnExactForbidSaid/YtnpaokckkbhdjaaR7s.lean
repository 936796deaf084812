/-
  THE CONTRACTS OF SOME FUNCTIONS OF THIS SEAT, PRINTED BY A PROGRAM OF THIS PROJECT (wip/gen/vgen.py).
-/
import Derived.Test.YtnpaokckkbhdjaaProg
import Derived.Test.YtnpaokckkbhdjaaVmW
import Derived.Test.YtnpaokckkbhdjaaVmGh
import Derived.KernelRfl
set_option linter.unusedVariables false
open Go Go.Vm Go.Proofs
namespace Go.Proofs.Ytnpaokckkbhdjaa.S
set_option maxRecDepth 100000
abbrev zR:Int × (Int × (Int × (Int × (Int × ByteArray)))):=((0:Int),((0:Int),((0:Int),((0:Int),((0:Int),(⟨#[]⟩:ByteArray))))))
abbrev tG:=((List (Int × (Int × Int))) × ((List (Int × (Int × (Int × (Int × (Int × ByteArray)))))) × (List (Int × Int))))
abbrev tN:=(((List (Int × (Int × Int))) × ((List (Int × (Int × (Int × (Int × (Int × ByteArray)))))) × (List (Int × Int)))) × ((List (List Int)) × ((List (List Int)) × (Option (List ((Int × Int) × Bool))))))
abbrev gD {α:Type} (l:List α) (i:Nat) (d:α):α:=List.getD l i d
abbrev tZ (n:Int):Nat:=Int.toNat n
abbrev iO:Int:=0
abbrev lO:List Int:=[]
theorem nw {p:Prop}:([]:List Nat)=[]∨p:=.inl rfl
abbrev o0:=orcL []
theorem ac {p:Prop} {l:List Prop} (h:p) (t:AllP l):AllP (p :: l):=AllP.cons h t
theorem an:AllP []:=AllP.nil
abbrev sh0:Sh:=(.pt true 198 (.st (.pair (.gh true) .raw)))
abbrev sh1:Sh:=(.st (.pair (.gh true) .raw))
abbrev sh2:Sh:=(.st (.pair (.gh false) .raw))
abbrev sh3:Sh:=(.pt true 198 (.st (.pair (.gh false) .raw)))
def tbl:Tbl:=[⟨3,.int .i64,1,8,(.int .i64)⟩,
 ⟨5,.int .u8,1,1,(.int .u8)⟩,
 ⟨9,.string,1,16,.str⟩,
 ⟨114,.other,1,8,.raw⟩,
 ⟨191,.other,1,8,.raw⟩,
 ⟨195,.int .u64,1,8,(.int .u64)⟩,
 ⟨198,.struct [(114,0),(191,1)],2,16,(.st (.pair (.gh true) .raw))⟩,
 ⟨245,.int .u64,1,8,(.int .u64)⟩,
 ⟨279,.int .u64,1,8,(.int .u64)⟩,
 ⟨283,.ptr 3,1,8,(.pt true 3 (.int .i64))⟩,
 ⟨291,.ptr 279,1,8,(.pt true 279 (.int .u64))⟩]
theorem tok:TOk Try.prog tbl:=by unfold TOk; kernel_rfl
abbrev iS:Sh:=.int .i64
section
variable {w0:World} {Wr Zi:Fp} {N:Fr} {S S':SS} {a:Act} {w:World} {Q:Exit→Act→World→Prop} {id:Nat} {ops:Array Oper} {rest:Code} {c:List Prop}
theorem zc (orc:Nat→List TV) (l:List Nat) (h:Rel w0 Wr Zi N S a w) (hc:AllP c) (hr:∀ a w,Rel w0 Wr Zi N (regS tbl Try.prog N orc [] ops l S) a w→rest.wp Try.prog Q a w) (e:regC tbl Try.prog N orc [] ops l S=c:=by kernel_rfl):((Code.region id ops false).seq rest).wp Try.prog Q a w:=wp_reg_seq tok nw h e hc hr
theorem zd (orc:Nat→List TV) (l:List Nat) (h:Rel w0 Wr Zi N S a w) (hc:AllP c) (hr:∀ a w,Rel w0 Wr Zi N (regS tbl Try.prog N orc [] ops l S) a w→Q .normal a w) (e:regC tbl Try.prog N orc [] ops l S=c:=by kernel_rfl):(Code.region id ops false).wp Try.prog Q a w:=wp_reg tok nw h e hc hr
theorem zs (l:List Nat) (h:Rel w0 Wr Zi N S a w) (hc:AllP c) (hr:∀ a w,Rel w0 Wr Zi N (regS tbl Try.prog N o0 [] ops l S) a w→rest.wp Try.prog Q a w) (e:regC tbl Try.prog N o0 [] ops l S=c:=by kernel_rfl):((Code.region id ops false).seq rest).wp Try.prog Q a w:=wp_reg_seq tok nw h e hc hr
theorem zt (l:List Nat) (h:Rel w0 Wr Zi N S a w) (hc:AllP c) (hr:∀ a w,Rel w0 Wr Zi N (regS tbl Try.prog N o0 [] ops l S) a w→Q .normal a w) (e:regC tbl Try.prog N o0 [] ops l S=c:=by kernel_rfl):(Code.region id ops false).wp Try.prog Q a w:=wp_reg tok nw h e hc hr
theorem ar (h:Rel w0 Wr Zi N S a w) (l:List Nat) (e:arr [] l S=some S':=by kernel_rfl):Rel w0 Wr Zi N S' a w:=h.arrive nw e
theorem zi {α:Type} {t:Nat} {x y:Code} {b:Bool} {X Y:α} {r:α} (h:Rel w0 Wr Zi N S a w) (hF:(if b=true then X else Y)=r) (h1:X=r→x.wp Try.prog Q a w) (h2:Y=r→y.wp Try.prog Q a w) (hb:boolAt S t=some b:=by kernel_rfl):(Code.cond (.tmp t) x y).wp Try.prog Q a w:=wp_if h hb (fun hb => h1 (of_t hb hF)) (fun hb => h2 (of_f hb hF))
end
def f186.l100 (k:Nat) (x1:Int) (fam:Fam) (v81:Int) (q1:((Array Nat) × Int)→Option (Array Nat)):Nat → ((Array Nat) × Int)→Option (Array Nat)
 | 0,_ => none
 | m100+1,(v113,v114) => if (((decide (v114 > x1))=true) → (inX v113 v114 (IntKind.i64.wrap (v114 - (1:Int))))) then (if (bif (decide (v114 > x1)) then (lessF fam v113 v114 (IntKind.i64.wrap (v114 - (1:Int)))) else false) then (if (inX v113 v114 (IntKind.i64.wrap (v114 - (1:Int)))) then ((f186.l100 k x1 fam v81 q1) m100 ((swpF v113 v114 (IntKind.i64.wrap (v114 - (1:Int)))),(IntKind.i64.wrap (v114 - (1:Int))))) else none) else (q1 (v113,(IntKind.i64.wrap (v81 + (1:Int)))))) else none
def f186.l1 (k:Nat) (x2:Int) (x1:Int) (fam:Fam):Nat → ((Array Nat) × Int)→Option (Array Nat)
 | 0,_ => none
 | m1+1,(v80,v81) => if (decide (v81 < x2)) then (f186.l100 k x1 fam v81 ((f186.l1 k x2 x1 fam) m1) k (v80,v81)) else (some v80)
def f186 (k:Nat) (fam:Fam) (X:(Array Nat)) (x1:Int) (x2:Int):Option (Array Nat):=f186.l1 k x2 x1 fam k (X,(IntKind.i64.wrap (x1 + (1:Int))))
theorem c186 (k:Nat) {lv sv:Value} (fam:Fam) (X:(Array Nat)) (x1:Int) (x2:Int) (fo:FamOk Try.prog lv sv fam) (r:(Array Nat)) (hF:f186 k fam X x1 x2=some r):PMut Try.prog 186 [⟨sh1,((lv,(fam,X)),sv)⟩,⟨iS,x1⟩,⟨iS,x2⟩] [] (List.set [⟨sh1,((lv,(fam,X)),sv)⟩,⟨iS,x1⟩,⟨iS,x2⟩] 0 ⟨sh1,((lv,(fam,r)),sv)⟩):=by
 refine pmut_intro (j:=0) (fin:=⟨sh1,((lv,(fam,r)),sv)⟩) Try.func186 rfl rfl (Nat.le_of_ble_eq_true rfl) (Nat.le_of_ble_eq_true rfl) (by kernel_rfl) ?_
 intro w0 Zi f0 v0 a w h
 rw [f186] at hF
 refine wp_reg_seq tok (orc:=o0) (fz:=[]) (l:=[0,1,2,3]) (.inl rfl) h (by kernel_rfl) an fun a w h => ?_
 refine wp_reg_seq tok (orc:=o0) (fz:=[]) (l:=[0,1,2,3,6]) (.inl rfl) h (by kernel_rfl) an fun a w h => ?_
 refine wp_block ?_
 refine wp_loop_fuel (f186.l1 k x2 x1 fam) (fun ((v80,v81):((Array Nat) × Int)) => [(0,.copy 3 [.der]),(1,.val iS x1),(2,.val iS x2),(3,.val sh0 (some ((lv,(fam,v80)),sv))),(6,.val iS v81)]) (fun v h => by obtain ⟨v80,v81⟩:=v; rw [f186.l1] at h; cases h) ?_ hF (h.arrive (fz:=[]) (l:=[0,1,2,3,6]) (.inl rfl) (by kernel_rfl))
 intro m1 v a w hF h
 obtain ⟨v80,v81⟩:=v
 rw [f186.l1] at hF
 refine wp_seq ?_
 refine wp_reg_seq tok (orc:=o0) (fz:=[]) (l:=[0,1,2,3,6,12]) (.inl rfl) h (by kernel_rfl) an fun a w h => ?_
 refine zi h hF (fun hF => ?_) (fun hF => ?_)
 ·refine wp_skip ?_
  refine wp_seq <| wp_block ?_
  refine wp_reg_seq tok (orc:=o0) (fz:=[]) (l:=[0,1,2,3,6,7]) (.inl rfl) h (by kernel_rfl) an fun a w h => ?_
  refine wp_block ?_
  refine wp_loop_fuel (f186.l100 k x1 fam v81 ((f186.l1 k x2 x1 fam) m1)) (fun ((v113,v114):((Array Nat) × Int)) => [(0,.copy 3 [.der]),(1,.val iS x1),(2,.val iS x2),(3,.val sh0 (some ((lv,(fam,v113)),sv))),(6,.val iS v81),(7,.val iS v114)]) (fun v h => by obtain ⟨v113,v114⟩:=v; rw [f186.l100] at h; cases h) ?_ hF (h.arrive (fz:=[]) (l:=[0,1,2,3,6,7]) (.inl rfl) (by kernel_rfl))
  intro m100 v a w hF h
  obtain ⟨v113,v114⟩:=v
  rw [f186.l100] at hF
  refine wp_seq ?_
  obtain ⟨hc117,hF⟩:=of_if hF
  refine wp_seqX_seq (sxG_ok tok (orc:=o0) (sp:=[(9,.less (lessF fam v113 v114 (w64 (v114 - (1:Int)))))])) h (by kernel_rfl) (ac (fun hg => fo.less _ _ _ (hc117 hg)) an) fun a w h => ?_
  replace h:=h.only [0,1,2,3,6,7,26] (by kernel_rfl)
  refine zi h hF (fun hF => ?_) (fun hF => ?_)
  ·refine wp_skip ?_
   refine wp_seq <| wp_block ?_
   obtain ⟨hc116,hF⟩:=of_if hF
   refine wp_seqX (sxG_ok tok (orc:=o0) (sp:=[(5,.swap (swpF v113 v114 (w64 (v114 - (1:Int)))))])) h (by kernel_rfl) (ac (fo.swap _ _ _ hc116) an) fun a w h => ?_
   replace h:=h.only [0,1,2,3,6,7] (by kernel_rfl)
   refine wp_reg tok (orc:=o0) (fz:=[]) (l:=[0,1,2,3,6,7]) (.inl rfl) h (by kernel_rfl) an fun a w h => ?_
   exact ⟨((swpF v113 v114 (w64 (v114 - (1:Int)))),(w64 (v114 - (1:Int)))),hF,h.arrive (fz:=[]) (l:=[0,1,2,3,6,7]) (.inl rfl) (by kernel_rfl)⟩
  ·refine wp_exit ?_
   refine wp_reg tok (orc:=o0) (fz:=[]) (l:=[0,1,2,3,6]) (.inl rfl) h (by kernel_rfl) an fun a w h => ?_
   exact ⟨(v113,(w64 (v81 + (1:Int)))),hF,h.arrive (fz:=[]) (l:=[0,1,2,3,6]) (.inl rfl) (by kernel_rfl)⟩
 ·refine wp_exit ?_
  cases hF
  exact (retMS_ok (d:=3) (t:=198) tok h rfl (by kernel_rfl) (by kernel_rfl)).2
def f212.j21 (k:Nat) (v18:(Array Nat)) (x3:Int) (v19:Int) (fam:Fam) (q1:((Array Nat) × Int)→Option (Array Nat)):Int→Option (Array Nat)
 | v20 => if (inX v18 (IntKind.i64.wrap (x3+v19)) (IntKind.i64.wrap (x3+v20))) then (if (!(lessF fam v18 (IntKind.i64.wrap (x3+v19)) (IntKind.i64.wrap (x3+v20)))) then (some v18) else (if (inX v18 (IntKind.i64.wrap (x3+v19)) (IntKind.i64.wrap (x3+v20))) then (q1 ((swpF v18 (IntKind.i64.wrap (x3+v19)) (IntKind.i64.wrap (x3+v20))),v20)) else none)) else none
def f212.l1 (k:Nat) (x2:Int) (x3:Int) (fam:Fam):Nat → ((Array Nat) × Int)→Option (Array Nat)
 | 0,_ => none
 | m1+1,(v18,v19) => if (decide (((IntKind.i64.wrap ((IntKind.i64.wrap ((2:Int)*v19)) + (1:Int))):Int) ≥ x2)) then (some v18) else (if (((decide (((IntKind.i64.wrap ((IntKind.i64.wrap ((IntKind.i64.wrap ((2:Int)*v19)) + (1:Int))) + (1:Int))):Int) < x2))=true) → (inX v18 (IntKind.i64.wrap (x3 + (IntKind.i64.wrap ((IntKind.i64.wrap ((2:Int)*v19)) + (1:Int))))) (IntKind.i64.wrap ((IntKind.i64.wrap (x3 + (IntKind.i64.wrap ((IntKind.i64.wrap ((2:Int)*v19)) + (1:Int))))) + (1:Int))))) then (if (bif (decide (((IntKind.i64.wrap ((IntKind.i64.wrap ((IntKind.i64.wrap ((2:Int)*v19)) + (1:Int))) + (1:Int))):Int) < x2)) then (lessF fam v18 (IntKind.i64.wrap (x3 + (IntKind.i64.wrap ((IntKind.i64.wrap ((2:Int)*v19)) + (1:Int))))) (IntKind.i64.wrap ((IntKind.i64.wrap (x3 + (IntKind.i64.wrap ((IntKind.i64.wrap ((2:Int)*v19)) + (1:Int))))) + (1:Int)))) else false) then (f212.j21 k v18 x3 v19 fam ((f212.l1 k x2 x3 fam) m1) (IntKind.i64.wrap ((IntKind.i64.wrap ((IntKind.i64.wrap ((2:Int)*v19)) + (1:Int))) + (1:Int)))) else (f212.j21 k v18 x3 v19 fam ((f212.l1 k x2 x3 fam) m1) (IntKind.i64.wrap ((IntKind.i64.wrap ((2:Int)*v19)) + (1:Int))))) else none)
def f212 (k:Nat) (fam:Fam) (X:(Array Nat)) (x1:Int) (x2:Int) (x3:Int):Option (Array Nat):=f212.l1 k x2 x3 fam k (X,x1)
theorem c212 (k:Nat) {lv sv:Value} (fam:Fam) (X:(Array Nat)) (x1:Int) (x2:Int) (x3:Int) (fo:FamOk Try.prog lv sv fam) (r:(Array Nat)) (hF:f212 k fam X x1 x2 x3=some r):PMut Try.prog 212 [⟨sh1,((lv,(fam,X)),sv)⟩,⟨iS,x1⟩,⟨iS,x2⟩,⟨iS,x3⟩] [] (List.set [⟨sh1,((lv,(fam,X)),sv)⟩,⟨iS,x1⟩,⟨iS,x2⟩,⟨iS,x3⟩] 0 ⟨sh1,((lv,(fam,r)),sv)⟩):=by
 refine pmut_intro (j:=0) (fin:=⟨sh1,((lv,(fam,r)),sv)⟩) Try.func212 rfl rfl (Nat.le_of_ble_eq_true rfl) (Nat.le_of_ble_eq_true rfl) (by kernel_rfl) ?_
 intro w0 Zi f0 v0 a w h
 rw [f212] at hF
 refine wp_reg_seq tok (orc:=o0) (fz:=[]) (l:=[0,1,2,3,4]) (.inl rfl) h (by kernel_rfl) an fun a w h => ?_
 refine wp_reg_seq tok (orc:=o0) (fz:=[]) (l:=[0,2,3,4,8]) (.inl rfl) h (by kernel_rfl) an fun a w h => ?_
 refine wp_block ?_
 refine wp_loop_fuel (f212.l1 k x2 x3 fam) (fun ((v18,v19):((Array Nat) × Int)) => [(0,.copy 4 [.der]),(2,.val iS x2),(3,.val iS x3),(4,.val sh0 (some ((lv,(fam,v18)),sv))),(8,.val iS v19)]) (fun v h => by obtain ⟨v18,v19⟩:=v; rw [f212.l1] at h; cases h) ?_ hF (h.arrive (fz:=[]) (l:=[0,2,3,4,8]) (.inl rfl) (by kernel_rfl))
 intro m1 v a w hF h
 obtain ⟨v18,v19⟩:=v
 rw [f212.l1] at hF
 refine wp_block ?_
 refine wp_reg_seq tok (orc:=o0) (fz:=[]) (l:=[0,2,3,4,8,9]) (.inl rfl) h (by kernel_rfl) an fun a w h => ?_
 refine wp_seq ?_
 refine wp_reg_seq tok (orc:=o0) (fz:=[]) (l:=[0,2,3,4,8,9,16]) (.inl rfl) h (by kernel_rfl) an fun a w h => ?_
 refine zi h hF (fun hF => ?_) (fun hF => ?_)
 ·refine wp_exit ?_
  cases hF
  exact (retMS_ok (d:=4) (t:=198) tok h rfl (by kernel_rfl) (by kernel_rfl)).2
 ·refine wp_skip ?_
  refine wp_seq ?_
  obtain ⟨hc24,hF⟩:=of_if hF
  refine wp_seqX_seq (sxG_ok tok (orc:=o0) (sp:=[(14,.less (lessF fam v18 (w64 (x3 + (w64 ((w64 ((2:Int)*v19)) + (1:Int))))) (w64 ((w64 (x3 + (w64 ((w64 ((2:Int)*v19)) + (1:Int))))) + (1:Int)))))])) h (by kernel_rfl) (ac (fun hg => fo.less _ _ _ (hc24 hg)) an) fun a w h => ?_
  replace h:=h.only [0,2,3,4,8,9,32] (by kernel_rfl)
  refine wp_midT (fun a w => ∃ v:Int,f212.j21 k v18 x3 v19 fam ((f212.l1 k x2 x3 fam) m1) v=some r∧Rel w0 f0 Zi ⟨Try.f212.ntmps,[0],fun _ => v0⟩ ((fun v20 => ([(0,.copy 4 [.der]),(2,.val iS x2),(3,.val iS x3),(4,.val sh0 (some ((lv,(fam,v18)),sv))),(8,.val iS v19),(9,.val iS v20)]:SS)) v) a w) ?_ ?_
  ·
   refine zi h hF (fun hF => ?_) (fun hF => ?_)
   ·refine wp_reg tok (orc:=o0) (fz:=[]) (l:=[0,2,3,4,8,9]) (.inl rfl) h (by kernel_rfl) an fun a w h => ?_
    exact ⟨(w64 ((w64 ((w64 ((2:Int)*v19)) + (1:Int))) + (1:Int))),hF,h.arrive (fz:=[]) (l:=[0,2,3,4,8,9]) (.inl rfl) (by kernel_rfl)⟩
   ·refine wp_skip ?_
    exact ⟨(w64 ((w64 ((2:Int)*v19)) + (1:Int))),hF,h.arrive (fz:=[]) (l:=[0,2,3,4,8,9]) (.inl rfl) (by kernel_rfl)⟩
  ·rintro a w ⟨v20,hF,h⟩
   rw [f212.j21] at hF
   refine wp_seq ?_
   obtain ⟨hc23,hF⟩:=of_if hF
   refine wp_seqX_seq (sxG_ok tok (orc:=o0) (sp:=[(8,.less (lessF fam v18 (w64 (x3+v19)) (w64 (x3+v20))))])) h (by kernel_rfl) (ac (fo.less _ _ _ hc23) an) fun a w h => ?_
   replace h:=h.only [0,2,3,4,8,9,44] (by kernel_rfl)
   refine zi h hF (fun hF => ?_) (fun hF => ?_)
   ·cases hF
    exact wp_ret (retMS_ok (d:=4) (t:=198) tok h rfl (by kernel_rfl) (by kernel_rfl)).1
   ·refine wp_skip ?_
    obtain ⟨hc22,hF⟩:=of_if hF
    refine wp_seqX_seq (sxG_ok tok (orc:=o0) (sp:=[(8,.swap (swpF v18 (w64 (x3+v19)) (w64 (x3+v20))))])) h (by kernel_rfl) (ac (fo.swap _ _ _ hc22) an) fun a w h => ?_
    replace h:=h.only [0,2,3,4,9] (by kernel_rfl)
    refine wp_reg tok (orc:=o0) (fz:=[]) (l:=[0,2,3,4,8]) (.inl rfl) h (by kernel_rfl) an fun a w h => ?_
    exact ⟨((swpF v18 (w64 (x3+v19)) (w64 (x3+v20))),v20),hF,h.arrive (fz:=[]) (l:=[0,2,3,4,8]) (.inl rfl) (by kernel_rfl)⟩
def f187.l43 (k:Nat) (x1:Int) (fam:Fam):Nat → ((Array Nat) × Int)→Option (Array Nat)
 | 0,_ => none
 | m43+1,(v62,v63) => if (decide (v63 ≥ (0:Int))) then (if (inX v62 x1 (IntKind.i64.wrap (x1+v63))) then ((f212 k fam (swpF v62 x1 (IntKind.i64.wrap (x1+v63))) (0:Int) v63 x1).bind fun r67 => ((f187.l43 k x1 fam) m43 (r67,(IntKind.i64.wrap (v63 - (1:Int)))))) else none) else (some v62)
def f187.l22 (k:Nat) (fam:Fam) (x2:Int) (x1:Int):Nat → ((Array Nat) × Int)→Option (Array Nat)
 | 0,_ => none
 | m22+1,(v37,v38) => if (decide (v38 ≥ (0:Int))) then ((f212 k fam v37 v38 (IntKind.i64.wrap (x2 - x1)) x1).bind fun r41 => ((f187.l22 k fam x2 x1) m22 (r41,(IntKind.i64.wrap (v38 - (1:Int)))))) else (f187.l43 k x1 fam k (v37,(IntKind.i64.wrap ((IntKind.i64.wrap (x2 - x1)) - (1:Int)))))
def f187 (k:Nat) (fam:Fam) (X:(Array Nat)) (x1:Int) (x2:Int):Option (Array Nat):=if (((2:Int):Int)≠0) then (f187.l22 k fam x2 x1 k (X,(IntKind.i64.wrap (Int.tdiv (IntKind.i64.wrap ((IntKind.i64.wrap (x2 - x1)) - (1:Int))) (2:Int))))) else none
theorem c187 (k:Nat) {lv sv:Value} (fam:Fam) (X:(Array Nat)) (x1:Int) (x2:Int) (fo:FamOk Try.prog lv sv fam) (r:(Array Nat)) (hF:f187 k fam X x1 x2=some r):PMut Try.prog 187 [⟨sh1,((lv,(fam,X)),sv)⟩,⟨iS,x1⟩,⟨iS,x2⟩] [] (List.set [⟨sh1,((lv,(fam,X)),sv)⟩,⟨iS,x1⟩,⟨iS,x2⟩] 0 ⟨sh1,((lv,(fam,r)),sv)⟩):=by
 refine pmut_intro (j:=0) (fin:=⟨sh1,((lv,(fam,r)),sv)⟩) Try.func187 rfl rfl (Nat.le_of_ble_eq_true rfl) (Nat.le_of_ble_eq_true rfl) (by kernel_rfl) ?_
 intro w0 Zi f0 v0 a w h
 rw [f187] at hF
 refine wp_reg_seq tok (orc:=o0) (fz:=[]) (l:=[0,1,2,3]) (.inl rfl) h (by kernel_rfl) an fun a w h => ?_
 refine wp_reg_seq tok (orc:=o0) (fz:=[]) (l:=[0,1,2,3,6]) (.inl rfl) h (by kernel_rfl) an fun a w h => ?_
 refine wp_reg_seq tok (orc:=o0) (fz:=[]) (l:=[0,1,2,3,6,7]) (.inl rfl) h (by kernel_rfl) an fun a w h => ?_
 refine wp_reg_seq tok (orc:=o0) (fz:=[]) (l:=[0,3,6,7,8]) (.inl rfl) h (by kernel_rfl) an fun a w h => ?_
 refine wp_seq ?_
 obtain ⟨hc70,hF⟩:=of_if hF
 refine wp_reg_seq tok (orc:=o0) (fz:=[]) (l:=[0,3,6,7,8,9]) (.inl rfl) h (by kernel_rfl) (ac hc70 an) fun a w h => ?_
 refine wp_block ?_
 refine wp_loop_fuel (f187.l22 k fam x2 x1) (fun ((v37,v38):((Array Nat) × Int)) => [(0,.copy 3 [.der]),(3,.val sh0 (some ((lv,(fam,v37)),sv))),(6,.val iS x1),(7,.val iS iO),(8,.val iS (w64 (x2 - x1))),(9,.val iS v38)]) (fun v h => by obtain ⟨v37,v38⟩:=v; rw [f187.l22] at h; cases h) ?_ hF (h.arrive (fz:=[]) (l:=[0,3,6,7,8,9]) (.inl rfl) (by kernel_rfl))
 intro m22 v a w hF h
 obtain ⟨v37,v38⟩:=v
 rw [f187.l22] at hF
 refine wp_seq ?_
 refine wp_reg_seq tok (orc:=o0) (fz:=[]) (l:=[0,3,6,7,8,9,19]) (.inl rfl) h (by kernel_rfl) an fun a w h => ?_
 refine zi h hF (fun hF => ?_) (fun hF => ?_)
 ·refine wp_skip ?_
  refine wp_seq <| wp_block ?_
  obtain ⟨r41,hr42,hF⟩:=of_bind hF
  refine wp_reg tok (orc:=orcL [(26,[⟨.pt false 4294967295 (.st (.pair (.gh true) .raw)),some ((lv,(fam,r41)),sv)⟩])]) (fz:=[]) (l:=[0,3,6,7,8,9]) (.inl rfl) h (by kernel_rfl) (ac (c212 k fam v37 v38 (w64 (x2 - x1)) x1 fo r41 hr42) an) fun a w h => ?_
  refine wp_reg tok (orc:=o0) (fz:=[]) (l:=[0,3,6,7,8,9]) (.inl rfl) h (by kernel_rfl) an fun a w h => ?_
  exact ⟨(r41,(w64 (v38 - (1:Int)))),hF,h.arrive (fz:=[]) (l:=[0,3,6,7,8,9]) (.inl rfl) (by kernel_rfl)⟩
 ·refine wp_exit ?_
  refine wp_reg_seq tok (orc:=o0) (fz:=[]) (l:=[0,3,6,7,10]) (.inl rfl) h (by kernel_rfl) an fun a w h => ?_
  refine wp_block ?_
  refine wp_loop_fuel (f187.l43 k x1 fam) (fun ((v62,v63):((Array Nat) × Int)) => [(0,.copy 3 [.der]),(3,.val sh0 (some ((lv,(fam,v62)),sv))),(6,.val iS x1),(7,.val iS iO),(10,.val iS v63)]) (fun v h => by obtain ⟨v62,v63⟩:=v; rw [f187.l43] at h; cases h) ?_ hF (h.arrive (fz:=[]) (l:=[0,3,6,7,10]) (.inl rfl) (by kernel_rfl))
  intro m43 v a w hF h
  obtain ⟨v62,v63⟩:=v
  rw [f187.l43] at hF
  refine wp_seq ?_
  refine wp_reg_seq tok (orc:=o0) (fz:=[]) (l:=[0,3,6,7,10,30]) (.inl rfl) h (by kernel_rfl) an fun a w h => ?_
  refine zi h hF (fun hF => ?_) (fun hF => ?_)
  ·refine wp_skip ?_
   refine wp_seq <| wp_block ?_
   obtain ⟨hc69,hF⟩:=of_if hF
   refine wp_seqX_seq (sxG_ok tok (orc:=o0) (sp:=[(6,.swap (swpF v62 x1 (w64 (x1+v63))))])) h (by kernel_rfl) (ac (fo.swap _ _ _ hc69) an) fun a w h => ?_
   replace h:=h.only [0,3,6,7,10] (by kernel_rfl)
   obtain ⟨r67,hr68,hF⟩:=of_bind hF
   refine wp_reg tok (orc:=orcL [(44,[⟨.pt false 4294967295 (.st (.pair (.gh true) .raw)),some ((lv,(fam,r67)),sv)⟩])]) (fz:=[]) (l:=[0,3,6,7,10]) (.inl rfl) h (by kernel_rfl) (ac (c212 k fam (swpF v62 x1 (w64 (x1+v63))) iO v63 x1 fo r67 hr68) an) fun a w h => ?_
   refine wp_reg tok (orc:=o0) (fz:=[]) (l:=[0,3,6,7,10]) (.inl rfl) h (by kernel_rfl) an fun a w h => ?_
   exact ⟨(r67,(w64 (v63 - (1:Int)))),hF,h.arrive (fz:=[]) (l:=[0,3,6,7,10]) (.inl rfl) (by kernel_rfl)⟩
  ·refine wp_exit ?_
   cases hF
   exact (retMS_ok (d:=3) (t:=198) tok h rfl (by kernel_rfl) (by kernel_rfl)).2
def f185.j12 (k:Nat):(Int × Int)→Option Int
 | (v10,v11) => if ((0:Int) ≤ (IntKind.u8.wrap v10) ∧ ((IntKind.u8.wrap v10):Int) < (ByteArray.size (⟨#[0,1,2,2,3,3,3,3,4,4,4,4,4,4,4,4,5,5,5,5,5,5,5,5,5,5,5,5,5,5,5,5,6,6,6,6,6,6,6,6,6,6,6,6,6,6,6,6,6,6,6,6,6,6,6,6,6,6,6,6,6,6,6,6,7,7,7,7,7,7,7,7,7,7,7,7,7,7,7,7,7,7,7,7,7,7,7,7,7,7,7,7,7,7,7,7,7,7,7,7,7,7,7,7,7,7,7,7,7,7,7,7,7,7,7,7,7,7,7,7,7,7,7,7,7,7,7,7,8,8,8,8,8,8,8,8,8,8,8,8,8,8,8,8,8,8,8,8,8,8,8,8,8,8,8,8,8,8,8,8,8,8,8,8,8,8,8,8,8,8,8,8,8,8,8,8,8,8,8,8,8,8,8,8,8,8,8,8,8,8,8,8,8,8,8,8,8,8,8,8,8,8,8,8,8,8,8,8,8,8,8,8,8,8,8,8,8,8,8,8,8,8,8,8,8,8,8,8,8,8,8,8,8,8,8,8,8,8,8,8,8,8,8,8,8,8,8,8,8,8,8,8,8,8,8,8]⟩:ByteArray):Int)) then ((some ((IntKind.i64.wrap (v11 + (IntKind.i64.wrap (byteAt (⟨#[0,1,2,2,3,3,3,3,4,4,4,4,4,4,4,4,5,5,5,5,5,5,5,5,5,5,5,5,5,5,5,5,6,6,6,6,6,6,6,6,6,6,6,6,6,6,6,6,6,6,6,6,6,6,6,6,6,6,6,6,6,6,6,6,7,7,7,7,7,7,7,7,7,7,7,7,7,7,7,7,7,7,7,7,7,7,7,7,7,7,7,7,7,7,7,7,7,7,7,7,7,7,7,7,7,7,7,7,7,7,7,7,7,7,7,7,7,7,7,7,7,7,7,7,7,7,7,7,8,8,8,8,8,8,8,8,8,8,8,8,8,8,8,8,8,8,8,8,8,8,8,8,8,8,8,8,8,8,8,8,8,8,8,8,8,8,8,8,8,8,8,8,8,8,8,8,8,8,8,8,8,8,8,8,8,8,8,8,8,8,8,8,8,8,8,8,8,8,8,8,8,8,8,8,8,8,8,8,8,8,8,8,8,8,8,8,8,8,8,8,8,8,8,8,8,8,8,8,8,8,8,8,8,8,8,8,8,8,8,8,8,8,8,8,8,8,8,8,8,8,8,8,8,8,8,8]⟩:ByteArray) (IntKind.u8.wrap v10))))):Int)).bind fun v13 => (some v13)) else none
def f185.j8 (k:Nat):(Int × Int)→Option Int
 | (v6,v7) => if (decide (v6 ≥ (256:Int))) then (if ((0:Int) ≤ (8:Int)) then (f185.j12 k ((Int.fdiv v6 (2 ^ (min (Int.toNat (8:Int)) IntKind.u64.bits))),(IntKind.i64.wrap (v7 + (8:Int))))) else none) else (f185.j12 k (v6,v7))
def f185.j4 (k:Nat):(Int × Int)→Option Int
 | (v2,v3) => if (decide (v2 ≥ (65536:Int))) then (if ((0:Int) ≤ (16:Int)) then (f185.j8 k ((Int.fdiv v2 (2 ^ (min (Int.toNat (16:Int)) IntKind.u64.bits))),(IntKind.i64.wrap (v3 + (16:Int))))) else none) else (f185.j8 k (v2,v3))
def f185 (k:Nat) (x0:Int):Option Int:=if (decide (x0 ≥ (4294967296:Int))) then (if ((0:Int) ≤ (32:Int)) then (f185.j4 k ((Int.fdiv x0 (2 ^ (min (Int.toNat (32:Int)) IntKind.u64.bits))),(32:Int))) else none) else (f185.j4 k (x0,(0:Int)))
theorem c185 (k:Nat) (x0:Int) (r:Int) (hF:f185 k x0=some r):PCall Try.prog 185 [⟨(.int .u64),x0⟩] [⟨iS,r⟩]:=by
 refine pcall_intro Try.func185 rfl rfl (Nat.le_of_ble_eq_true rfl) ?_
 intro w0 Zi a w h
 rw [f185] at hF
 refine zs [0,2] h an fun a w h => ?_
 refine wp_seq ?_
 refine zs [0,2,4] h an fun a w h => ?_
 refine wp_midT (fun a w => ∃ v:(Int × Int),f185.j4 k v=some r∧Rel w0 (fun _ => False) Zi Try.f185.ntmps ((fun ((v2,v3):(Int × Int)) => ([(0,.val (.int .u64) v2),(2,.val iS v3)]:SS)) v) a w) ?_ ?_
 ·
  refine zi h hF (fun hF => ?_) (fun hF => ?_)
  ·obtain ⟨hc18,hF⟩:=of_if hF
   refine zs [0] h (ac hc18 an) fun a w h => ?_
   refine zt [0,2] h an fun a w h => ?_
   exact ⟨((Int.fdiv x0 (2 ^ (min (tZ (32:Int)) IntKind.u64.bits))),(32:Int)),hF,ar h [0,2]⟩
  ·refine wp_skip ?_
   exact ⟨(x0,iO),hF,ar h [0,2]⟩
 ·rintro a w ⟨v,hF,h⟩
  obtain ⟨v2,v3⟩:=v
  rw [f185.j4] at hF
  refine wp_seq ?_
  refine zs [0,2,8] h an fun a w h => ?_
  refine wp_midT (fun a w => ∃ v:(Int × Int),f185.j8 k v=some r∧Rel w0 (fun _ => False) Zi Try.f185.ntmps ((fun ((v6,v7):(Int × Int)) => ([(0,.val (.int .u64) v6),(2,.val iS v7)]:SS)) v) a w) ?_ ?_
  ·
   refine zi h hF (fun hF => ?_) (fun hF => ?_)
   ·obtain ⟨hc17,hF⟩:=of_if hF
    refine zs [0,2] h (ac hc17 an) fun a w h => ?_
    refine zt [0,2] h an fun a w h => ?_
    exact ⟨((Int.fdiv v2 (2 ^ (min (tZ (16:Int)) IntKind.u64.bits))),(w64 (v3 + (16:Int)))),hF,ar h [0,2]⟩
   ·refine wp_skip ?_
    exact ⟨(v2,v3),hF,ar h [0,2]⟩
  ·rintro a w ⟨v,hF,h⟩
   obtain ⟨v6,v7⟩:=v
   rw [f185.j8] at hF
   refine wp_seq ?_
   refine zs [0,2,14] h an fun a w h => ?_
   refine wp_midT (fun a w => ∃ v:(Int × Int),f185.j12 k v=some r∧Rel w0 (fun _ => False) Zi Try.f185.ntmps ((fun ((v10,v11):(Int × Int)) => ([(0,.val (.int .u64) v10),(2,.val iS v11)]:SS)) v) a w) ?_ ?_
   ·
    refine zi h hF (fun hF => ?_) (fun hF => ?_)
    ·obtain ⟨hc16,hF⟩:=of_if hF
     refine zs [0,2] h (ac hc16 an) fun a w h => ?_
     refine zt [0,2] h an fun a w h => ?_
     exact ⟨((Int.fdiv v6 (2 ^ (min (tZ (8:Int)) IntKind.u64.bits))),(w64 (v7 + (8:Int)))),hF,ar h [0,2]⟩
    ·refine wp_skip ?_
     exact ⟨(v6,v7),hF,ar h [0,2]⟩
   ·rintro a w ⟨v,hF,h⟩
    obtain ⟨v10,v11⟩:=v
    rw [f185.j12] at hF
    obtain ⟨hc15,hF⟩:=of_if hF
    refine zs [2] h (ac hc15 an) fun a w h => ?_
    obtain ⟨v13,hv14,hF⟩:=of_bind hF
    replace h:=h.cast (S':=[(2,.val iS v13)]) (by cases hv14; kernel_rfl)
    cases hF
    exact wp_ret (ret_okR tok h rfl (by kernel_rfl)).1
def f141 (k:Nat) (x0:Int):Option Int:=(f185 k x0).bind fun r1 => (some r1)
theorem c141 (k:Nat) (x0:Int) (r:Int) (hF:f141 k x0=some r):PCall Try.prog 141 [⟨(.int .u64),x0⟩] [⟨iS,r⟩]:=by
 refine pcall_intro Try.func141 rfl rfl (Nat.le_of_ble_eq_true rfl) ?_
 intro w0 Zi a w h
 rw [f141] at hF
 refine zs [0] h an fun a w h => ?_
 refine wp_seq <| wp_ifc ?_
 refine wp_skip ?_
 obtain ⟨r1,hr2,hF⟩:=of_bind hF
 refine zc (orcL [(7,[⟨iS,r1⟩])]) [2] h (ac (c185 k x0 r1 hr2) an) fun a w h => ?_
 cases hF
 exact wp_ret (ret_okR tok h rfl (by kernel_rfl)).1
def f213 (k:Nat) (x0:Int):Option Int:=(f141 k (IntKind.u64.wrap x0)).bind fun r1 => (if ((0:Int) ≤ (IntKind.u64.wrap r1)) then (some (IntKind.u64.wrap ((1:Int)*2 ^ (min (Int.toNat (IntKind.u64.wrap r1)) IntKind.u64.bits)))) else none)
theorem c213 (k:Nat) (x0:Int) (r:Int) (hF:f213 k x0=some r):PCall Try.prog 213 [⟨iS,x0⟩] [⟨(.int .u64),r⟩]:=by
 refine pcall_intro Try.func213 rfl rfl (Nat.le_of_ble_eq_true rfl) ?_
 intro w0 Zi a w h
 rw [f213] at hF
 refine zs [0] h an fun a w h => ?_
 obtain ⟨r1,hr3,hF⟩:=of_bind hF
 refine zc (orcL [(6,[⟨iS,r1⟩])]) [3] h (ac (c141 k (IntKind.u64.wrap x0) r1 hr3) an) fun a w h => ?_
 obtain ⟨hc2,hF⟩:=of_if hF
 refine zs [2] h (ac hc2 an) fun a w h => ?_
 cases hF
 exact wp_ret (ret_okR tok h rfl (by kernel_rfl)).1
def f214 (k:Nat) (x0:Int):Option (Int × Int):=if ((0:Int) ≤ (13:Int)) then (if ((0:Int) ≤ (7:Int)) then (if ((0:Int) ≤ (17:Int)) then ((some ((Go.bits .xor .u64 (Go.bits .xor .u64 (Go.bits .xor .u64 x0 (IntKind.u64.wrap (x0*2 ^ (min (Int.toNat (13:Int)) IntKind.u64.bits)))) (Int.fdiv (Go.bits .xor .u64 x0 (IntKind.u64.wrap (x0*2 ^ (min (Int.toNat (13:Int)) IntKind.u64.bits)))) (2 ^ (min (Int.toNat (7:Int)) IntKind.u64.bits)))) (IntKind.u64.wrap ((Go.bits .xor .u64 (Go.bits .xor .u64 x0 (IntKind.u64.wrap (x0*2 ^ (min (Int.toNat (13:Int)) IntKind.u64.bits)))) (Int.fdiv (Go.bits .xor .u64 x0 (IntKind.u64.wrap (x0*2 ^ (min (Int.toNat (13:Int)) IntKind.u64.bits)))) (2 ^ (min (Int.toNat (7:Int)) IntKind.u64.bits))))*2 ^ (min (Int.toNat (17:Int)) IntKind.u64.bits)))):Int)).bind fun v1 => (some (v1,v1))) else none) else none) else none
theorem c214 (k:Nat) (x0:Int) (r:(Int × Int)) (hF:f214 k x0=some r):PMut Try.prog 214 [⟨(.pt true 279 (.int .u64)),some x0⟩] [⟨(.int .u64),r.1⟩] (List.set [⟨(.pt true 279 (.int .u64)),some x0⟩] 0 ⟨(.pt true 279 (.int .u64)),some r.2⟩):=by
 refine pmutO_intro (j:=0) (fin:=⟨(.pt true 279 (.int .u64)),some r.2⟩) Try.func214 rfl rfl (Nat.le_of_ble_eq_true rfl) (Nat.le_of_ble_eq_true rfl) (by kernel_rfl) (by kernel_rfl) ?_
 intro w0 Zi f0 v0 hw a w h
 rw [f214] at hF
 refine wp_reg_seq tok (orc:=o0) (fz:=[]) (l:=[0]) (.inl rfl) h (by kernel_rfl) an fun a w h => ?_
 obtain ⟨hc5,hF⟩:=of_if hF
 refine wp_regy_seq tok (orc:=o0) (fz:=[]) (l:=[0]) ([],[],[],[]) 9 (.inl rfl) h (by kernel_rfl) (by kernel_rfl) (ac hc5 an) fun a w h => ?_
 obtain ⟨hc4,hF⟩:=of_if hF
 refine wp_regy_seq tok (orc:=o0) (fz:=[]) (l:=[0]) ([],[],[],[]) 9 (.inl rfl) h (by kernel_rfl) (by kernel_rfl) (ac hc4 an) fun a w h => ?_
 obtain ⟨hc3,hF⟩:=of_if hF
 refine wp_regy_seq tok (orc:=o0) (fz:=[]) (l:=[0]) ([],[],[],[]) 9 (.inl rfl) h (by kernel_rfl) (by kernel_rfl) (ac hc3 an) fun a w h => ?_
 obtain ⟨v1,hv2,hF⟩:=of_bind hF
 replace h:=h.cast (S':=[(0,.val (.pt true 279 (.int .u64)) (some v1))]) (by cases hv2; kernel_rfl)
 refine wp_reg_seq tok (orc:=o0) (fz:=[]) (l:=[0,2]) (.inl rfl) h (by kernel_rfl) an fun a w h => ?_
 cases hF
 exact wp_ret (retO_ok tok h rfl (by kernel_rfl)).1
def f188.j44 (k:Nat) (v34:(Array Nat)) (v36:Int) (x1:Int) (r42:(Int × Int)) (q2:((Array Nat) × Int × Int)→Option (Array Nat)):Int→Option (Array Nat)
 | v43 => if (inX v34 v36 (IntKind.i64.wrap (x1+v43))) then (q2 ((swpF v34 v36 (IntKind.i64.wrap (x1+v43))),r42.2,(IntKind.i64.wrap (v36 + (1:Int))))) else none
def f188.l2 (k:Nat) (x1:Int) (x2:Int) (r1:Int):Nat → ((Array Nat) × Int × Int)→Option (Array Nat)
 | 0,_ => none
 | m2+1,(v34,v35,v36) => if (((4:Int):Int)≠0) then (if (decide (v36 ≤ (IntKind.i64.wrap ((IntKind.i64.wrap (x1 + (IntKind.i64.wrap ((IntKind.i64.wrap (Int.tdiv (IntKind.i64.wrap (x2 - x1)) (4:Int))) * (2:Int))))) + (1:Int))))) then ((f214 k v35).bind fun r42 => (if (decide (((IntKind.i64.wrap (Go.bits .and .u64 r42.1 (IntKind.u64.wrap (r1 - (1:Int))))):Int) ≥ (IntKind.i64.wrap (x2 - x1)))) then (f188.j44 k v34 v36 x1 r42 ((f188.l2 k x1 x2 r1) m2) (IntKind.i64.wrap ((IntKind.i64.wrap (Go.bits .and .u64 r42.1 (IntKind.u64.wrap (r1 - (1:Int))))) - (IntKind.i64.wrap (x2 - x1))))) else (f188.j44 k v34 v36 x1 r42 ((f188.l2 k x1 x2 r1) m2) (IntKind.i64.wrap (Go.bits .and .u64 r42.1 (IntKind.u64.wrap (r1 - (1:Int)))))))) else (some v34)) else none
def f188 (k:Nat) (fam:Fam) (X:(Array Nat)) (x1:Int) (x2:Int):Option (Array Nat):=if (decide (((IntKind.i64.wrap (x2 - x1)):Int) ≥ (8:Int))) then ((f213 k (IntKind.i64.wrap (x2 - x1))).bind fun r1 => (if (((4:Int):Int)≠0) then (f188.l2 k x1 x2 r1 k (X,(IntKind.u64.wrap (IntKind.i64.wrap (x2 - x1))),(IntKind.i64.wrap ((IntKind.i64.wrap (x1 + (IntKind.i64.wrap ((IntKind.i64.wrap (Int.tdiv (IntKind.i64.wrap (x2 - x1)) (4:Int))) * (2:Int))))) - (1:Int))))) else none)) else (some X)
theorem c188 (k:Nat) {lv sv:Value} (fam:Fam) (X:(Array Nat)) (x1:Int) (x2:Int) (fo:FamOk Try.prog lv sv fam) (r:(Array Nat)) (hF:f188 k fam X x1 x2=some r):PMut Try.prog 188 [⟨sh1,((lv,(fam,X)),sv)⟩,⟨iS,x1⟩,⟨iS,x2⟩] [] (List.set [⟨sh1,((lv,(fam,X)),sv)⟩,⟨iS,x1⟩,⟨iS,x2⟩] 0 ⟨sh1,((lv,(fam,r)),sv)⟩):=by
 refine pmut_intro (j:=0) (fin:=⟨sh1,((lv,(fam,r)),sv)⟩) Try.func188 rfl rfl (Nat.le_of_ble_eq_true rfl) (Nat.le_of_ble_eq_true rfl) (by kernel_rfl) ?_
 intro w0 Zi f0 v0 a w h
 rw [f188] at hF
 refine wp_reg_seq tok (orc:=o0) (fz:=[]) (l:=[0,1,2,3]) (.inl rfl) h (by kernel_rfl) an fun a w h => ?_
 refine wp_reg_seq tok (orc:=o0) (fz:=[]) (l:=[0,1,3,6]) (.inl rfl) h (by kernel_rfl) an fun a w h => ?_
 refine wp_reg_seq tok (orc:=o0) (fz:=[]) (l:=[0,1,3,6,15]) (.inl rfl) h (by kernel_rfl) an fun a w h => ?_
 refine zi h hF (fun hF => ?_) (fun hF => ?_)
 ·refine wp_reg_seq tok (orc:=o0) (fz:=[]) (l:=[0,1,3,6,7]) (.inl rfl) h (by kernel_rfl) an fun a w h => ?_
  obtain ⟨r1,hr49,hF⟩:=of_bind hF
  refine wp_reg_seq tok (orc:=orcL [(19,[⟨(.int .u64),r1⟩])]) (fz:=[]) (l:=[0,1,3,6,7,8]) (.inl rfl) h (by kernel_rfl) (ac (c213 k (w64 (x2 - x1)) r1 hr49) an) fun a w h => ?_
  obtain ⟨hc48,hF⟩:=of_if hF
  refine wp_reg_seq tok (orc:=o0) (fz:=[]) (l:=[0,1,3,6,7,8,9]) (.inl rfl) h (by kernel_rfl) (ac hc48 an) fun a w h => ?_
  refine wp_block ?_
  refine wp_loop_fuel (f188.l2 k x1 x2 r1) (fun ((v34,v35,v36):((Array Nat) × Int × Int)) => [(0,.copy 3 [.der]),(1,.val iS x1),(3,.val sh0 (some ((lv,(fam,v34)),sv))),(6,.val iS (w64 (x2 - x1))),(7,.val (.pt true 279 (.int .u64)) (some v35)),(8,.val (.int .u64) r1),(9,.val iS v36)]) (fun v h => by obtain ⟨v34,v35,v36⟩:=v; rw [f188.l2] at h; cases h) ?_ hF (h.arrive (fz:=[]) (l:=[0,1,3,6,7,8,9]) (.inl rfl) (by kernel_rfl))
  intro m2 v a w hF h
  obtain ⟨v34,v35,v36⟩:=v
  rw [f188.l2] at hF
  refine wp_seq ?_
  obtain ⟨hc47,hF⟩:=of_if hF
  refine wp_reg_seq tok (orc:=o0) (fz:=[]) (l:=[0,1,3,6,7,8,9,33]) (.inl rfl) h (by kernel_rfl) (ac hc47 an) fun a w h => ?_
  refine zi h hF (fun hF => ?_) (fun hF => ?_)
  ·refine wp_skip ?_
   refine wp_seq <| wp_block ?_
   obtain ⟨r42,hr46,hF⟩:=of_bind hF
   refine wp_reg_seq tok (orc:=orcL [(36,[⟨.pt false 4294967295 (.pt true 279 (.int .u64)),some (some r42.2)⟩,⟨(.int .u64),r42.1⟩])]) (fz:=[]) (l:=[0,1,3,6,7,8,9,10]) (.inl rfl) h (by kernel_rfl) (ac (c214 k v35 r42 hr46) an) fun a w h => ?_
   refine wp_seq ?_
   refine wp_reg_seq tok (orc:=o0) (fz:=[]) (l:=[0,1,3,6,7,8,9,10,43]) (.inl rfl) h (by kernel_rfl) an fun a w h => ?_
   refine wp_midT (fun a w => ∃ v:Int,f188.j44 k v34 v36 x1 r42 ((f188.l2 k x1 x2 r1) m2) v=some r∧Rel w0 f0 Zi ⟨Try.f188.ntmps,[0],fun _ => v0⟩ ((fun v43 => ([(0,.copy 3 [.der]),(1,.val iS x1),(3,.val sh0 (some ((lv,(fam,v34)),sv))),(6,.val iS (w64 (x2 - x1))),(7,.val (.pt true 279 (.int .u64)) (some r42.2)),(8,.val (.int .u64) r1),(9,.val iS v36),(10,.val iS v43)]:SS)) v) a w) ?_ ?_
   ·
    refine zi h hF (fun hF => ?_) (fun hF => ?_)
    ·refine wp_reg tok (orc:=o0) (fz:=[]) (l:=[0,1,3,6,7,8,9,10]) (.inl rfl) h (by kernel_rfl) an fun a w h => ?_
     exact ⟨(w64 ((w64 (Go.bits .and .u64 r42.1 (IntKind.u64.wrap (r1 - (1:Int))))) - (w64 (x2 - x1)))),hF,h.arrive (fz:=[]) (l:=[0,1,3,6,7,8,9,10]) (.inl rfl) (by kernel_rfl)⟩
    ·refine wp_skip ?_
     exact ⟨(w64 (Go.bits .and .u64 r42.1 (IntKind.u64.wrap (r1 - (1:Int))))),hF,h.arrive (fz:=[]) (l:=[0,1,3,6,7,8,9,10]) (.inl rfl) (by kernel_rfl)⟩
   ·rintro a w ⟨v43,hF,h⟩
    rw [f188.j44] at hF
    obtain ⟨hc45,hF⟩:=of_if hF
    refine wp_seqX (sxG_ok tok (orc:=o0) (sp:=[(6,.swap (swpF v34 v36 (w64 (x1+v43))))])) h (by kernel_rfl) (ac (fo.swap _ _ _ hc45) an) fun a w h => ?_
    replace h:=h.only [0,1,3,6,7,8,9] (by kernel_rfl)
    refine wp_reg tok (orc:=o0) (fz:=[]) (l:=[0,1,3,6,7,8,9]) (.inl rfl) h (by kernel_rfl) an fun a w h => ?_
    exact ⟨((swpF v34 v36 (w64 (x1+v43))),r42.2,(w64 (v36 + (1:Int)))),hF,h.arrive (fz:=[]) (l:=[0,1,3,6,7,8,9]) (.inl rfl) (by kernel_rfl)⟩
  ·refine wp_exit ?_
   cases hF
   exact (retMS_ok (d:=3) (t:=198) tok h rfl (by kernel_rfl) (by kernel_rfl)).2
 ·refine wp_skip ?_
  cases hF
  exact (retMS_ok (d:=3) (t:=198) tok h rfl (by kernel_rfl) (by kernel_rfl)).2
def f224 (k:Nat) (fam:Fam) (X:(Array Nat)) (x1:Int) (x2:Int) (x3:Int):Option (Int × Int × Int):=if (inX X x2 x1) then (if (lessF fam X x2 x1) then (some (x2,x1,(IntKind.i64.wrap (x3 + (1:Int))))) else (some (x1,x2,x3))) else none
theorem c224 (k:Nat) {lv sv:Value} (fam:Fam) (X:(Array Nat)) (x1:Int) (x2:Int) (x3:Int) (fo:FamOk Try.prog lv sv fam) (r:(Int × Int × Int)) (hF:f224 k fam X x1 x2 x3=some r):PMut Try.prog 224 [⟨sh2,((lv,(fam,X)),sv)⟩,⟨iS,x1⟩,⟨iS,x2⟩,⟨(.pt true 3 iS),some x3⟩] [⟨iS,r.1⟩,⟨iS,r.2.1⟩] (List.set [⟨sh2,((lv,(fam,X)),sv)⟩,⟨iS,x1⟩,⟨iS,x2⟩,⟨(.pt true 3 iS),some x3⟩] 3 ⟨(.pt true 3 iS),some r.2.2⟩):=by
 refine pmutO_intro (j:=3) (fin:=⟨(.pt true 3 iS),some r.2.2⟩) Try.func224 rfl rfl (Nat.le_of_ble_eq_true rfl) (Nat.le_of_ble_eq_true rfl) (by kernel_rfl) (by kernel_rfl) ?_
 intro w0 Zi f0 v0 hw a w h
 rw [f224] at hF
 refine wp_reg_seq tok (orc:=o0) (fz:=[]) (l:=[1,2,3,4]) (.inl rfl) h (by kernel_rfl) an fun a w h => ?_
 refine wp_seq ?_
 obtain ⟨hc1,hF⟩:=of_if hF
 refine wp_seqX_seq (sxG_ok tok (orc:=o0) (sp:=[(4,.less (lessF fam X x2 x1))])) h (by kernel_rfl) (ac (fo.less _ _ _ hc1) an) fun a w h => ?_
 replace h:=h.only [1,2,3,14] (by kernel_rfl)
 refine zi h hF (fun hF => ?_) (fun hF => ?_)
 ·refine wp_reg_seq tok (orc:=o0) (fz:=[]) (l:=[1,2,3]) (.inl rfl) h (by kernel_rfl) an fun a w h => ?_
  refine wp_reg_seq tok (orc:=o0) (fz:=[]) (l:=[3,8,9]) (.inl rfl) h (by kernel_rfl) an fun a w h => ?_
  cases hF
  exact wp_ret (retO_ok tok h rfl (by kernel_rfl)).1
 ·refine wp_skip ?_
  refine wp_reg_seq tok (orc:=o0) (fz:=[]) (l:=[3,8,9]) (.inl rfl) h (by kernel_rfl) an fun a w h => ?_
  cases hF
  exact wp_ret (retO_ok tok h rfl (by kernel_rfl)).1
def f216 (k:Nat) (fam:Fam) (X:(Array Nat)) (x1:Int) (x2:Int) (x3:Int) (x4:Int):Option (Int × Int):=(f224 k fam X x1 x2 x4).bind fun r1 => ((f224 k fam X r1.2.1 x3 r1.2.2).bind fun r2 => ((f224 k fam X r1.1 r2.1 r2.2.2).bind fun r3 => (some (r3.2.1,r3.2.2))))
theorem c216 (k:Nat) {lv sv:Value} (fam:Fam) (X:(Array Nat)) (x1:Int) (x2:Int) (x3:Int) (x4:Int) (fo:FamOk Try.prog lv sv fam) (r:(Int × Int)) (hF:f216 k fam X x1 x2 x3 x4=some r):PMut Try.prog 216 [⟨sh2,((lv,(fam,X)),sv)⟩,⟨iS,x1⟩,⟨iS,x2⟩,⟨iS,x3⟩,⟨(.pt true 3 iS),some x4⟩] [⟨iS,r.1⟩] (List.set [⟨sh2,((lv,(fam,X)),sv)⟩,⟨iS,x1⟩,⟨iS,x2⟩,⟨iS,x3⟩,⟨(.pt true 3 iS),some x4⟩] 4 ⟨(.pt true 3 iS),some r.2⟩):=by
 refine pmutO_intro (j:=4) (fin:=⟨(.pt true 3 iS),some r.2⟩) Try.func216 rfl rfl (Nat.le_of_ble_eq_true rfl) (Nat.le_of_ble_eq_true rfl) (by kernel_rfl) (by kernel_rfl) ?_
 intro w0 Zi f0 v0 hw a w h
 rw [f216] at hF
 refine wp_reg_seq tok (orc:=o0) (fz:=[]) (l:=[1,2,3,4,5]) (.inl rfl) h (by kernel_rfl) an fun a w h => ?_
 obtain ⟨r1,hr6,hF⟩:=of_bind hF
 refine wp_reg_seq tok (orc:=orcL [(16,[⟨.pt false 4294967295 (.pt true 3 iS),some (some r1.2.2)⟩,⟨iS,r1.1⟩,⟨iS,r1.2.1⟩])]) (fz:=[]) (l:=[1,2,3,4,5]) (.inl rfl) h (by kernel_rfl) (ac (c224 k fam X x1 x2 x4 fo r1 hr6) an) fun a w h => ?_
 obtain ⟨r2,hr5,hF⟩:=of_bind hF
 refine wp_reg_seq tok (orc:=orcL [(24,[⟨.pt false 4294967295 (.pt true 3 iS),some (some r2.2.2)⟩,⟨iS,r2.1⟩,⟨iS,r2.2.1⟩])]) (fz:=[]) (l:=[1,2,4,5]) (.inl rfl) h (by kernel_rfl) (ac (c224 k fam X r1.2.1 x3 r1.2.2 fo r2 hr5) an) fun a w h => ?_
 obtain ⟨r3,hr4,hF⟩:=of_bind hF
 refine wp_reg_seq tok (orc:=orcL [(32,[⟨.pt false 4294967295 (.pt true 3 iS),some (some r3.2.2)⟩,⟨iS,r3.1⟩,⟨iS,r3.2.1⟩])]) (fz:=[]) (l:=[2,4]) (.inl rfl) h (by kernel_rfl) (ac (c224 k fam X r1.1 r2.1 r2.2.2 fo r3 hr4) an) fun a w h => ?_
 refine wp_reg_seq tok (orc:=o0) (fz:=[]) (l:=[4,10]) (.inl rfl) h (by kernel_rfl) an fun a w h => ?_
 cases hF
 exact wp_ret (retO_ok tok h rfl (by kernel_rfl)).1
def f215 (k:Nat) (fam:Fam) (X:(Array Nat)) (x1:Int) (x2:Int):Option (Int × Int):=(f216 k fam X (IntKind.i64.wrap (x1 - (1:Int))) x1 (IntKind.i64.wrap (x1 + (1:Int))) x2).bind fun r1 => (some (r1.1,r1.2))
theorem c215 (k:Nat) {lv sv:Value} (fam:Fam) (X:(Array Nat)) (x1:Int) (x2:Int) (fo:FamOk Try.prog lv sv fam) (r:(Int × Int)) (hF:f215 k fam X x1 x2=some r):PMut Try.prog 215 [⟨sh2,((lv,(fam,X)),sv)⟩,⟨iS,x1⟩,⟨(.pt true 3 iS),some x2⟩] [⟨iS,r.1⟩] (List.set [⟨sh2,((lv,(fam,X)),sv)⟩,⟨iS,x1⟩,⟨(.pt true 3 iS),some x2⟩] 2 ⟨(.pt true 3 iS),some r.2⟩):=by
 refine pmutO_intro (j:=2) (fin:=⟨(.pt true 3 iS),some r.2⟩) Try.func215 rfl rfl (Nat.le_of_ble_eq_true rfl) (Nat.le_of_ble_eq_true rfl) (by kernel_rfl) (by kernel_rfl) ?_
 intro w0 Zi f0 v0 hw a w h
 rw [f215] at hF
 refine wp_reg_seq tok (orc:=o0) (fz:=[]) (l:=[1,2,3]) (.inl rfl) h (by kernel_rfl) an fun a w h => ?_
 obtain ⟨r1,hr2,hF⟩:=of_bind hF
 refine wp_reg_seq tok (orc:=orcL [(14,[⟨.pt false 4294967295 (.pt true 3 iS),some (some r1.2)⟩,⟨iS,r1.1⟩])]) (fz:=[]) (l:=[2,6]) (.inl rfl) h (by kernel_rfl) (ac (c216 k fam X (w64 (x1 - (1:Int))) x1 (w64 (x1 + (1:Int))) x2 fo r1 hr2) an) fun a w h => ?_
 cases hF
 exact wp_ret (retO_ok tok h rfl (by kernel_rfl)).1
def f189.j22 (k:Nat):(Int × Int)→Option (Int × Int)
 | (v20,v21) => if (v20 == (0:Int)) then (some (v21,(1:Int))) else (if (v20 == (12:Int)) then (some (v21,(2:Int))) else (some (v21,(0:Int))))
def f189.j33 (k:Nat) (fam:Fam) (X:(Array Nat)) (q22:(Int × Int)→Option (Int × Int)):(Int × Int × Int × Int)→Option (Int × Int)
 | (v29,v30,v31,v32) => (f216 k fam X v30 v31 v32 v29).bind fun r34 => (q22 (r34.2,r34.1))
def f189 (k:Nat) (fam:Fam) (X:(Array Nat)) (x1:Int) (x2:Int):Option (Int × Int):=if (((4:Int):Int)≠0) then (if (((4:Int):Int)≠0) then (if (((4:Int):Int)≠0) then (if (decide (((IntKind.i64.wrap (x2 - x1)):Int) ≥ (8:Int))) then (if (decide (((IntKind.i64.wrap (x2 - x1)):Int) ≥ (50:Int))) then ((f215 k fam X (IntKind.i64.wrap (x1 + (IntKind.i64.wrap ((IntKind.i64.wrap (Int.tdiv (IntKind.i64.wrap (x2 - x1)) (4:Int))) * (1:Int))))) (0:Int)).bind fun r36 => ((f215 k fam X (IntKind.i64.wrap (x1 + (IntKind.i64.wrap ((IntKind.i64.wrap (Int.tdiv (IntKind.i64.wrap (x2 - x1)) (4:Int))) * (2:Int))))) r36.2).bind fun r37 => ((f215 k fam X (IntKind.i64.wrap (x1 + (IntKind.i64.wrap ((IntKind.i64.wrap (Int.tdiv (IntKind.i64.wrap (x2 - x1)) (4:Int))) * (3:Int))))) r37.2).bind fun r38 => (f189.j33 k fam X (f189.j22 k) (r38.2,r36.1,r37.1,r38.1))))) else (f189.j33 k fam X (f189.j22 k) ((0:Int),(IntKind.i64.wrap (x1 + (IntKind.i64.wrap ((IntKind.i64.wrap (Int.tdiv (IntKind.i64.wrap (x2 - x1)) (4:Int))) * (1:Int))))),(IntKind.i64.wrap (x1 + (IntKind.i64.wrap ((IntKind.i64.wrap (Int.tdiv (IntKind.i64.wrap (x2 - x1)) (4:Int))) * (2:Int))))),(IntKind.i64.wrap (x1 + (IntKind.i64.wrap ((IntKind.i64.wrap (Int.tdiv (IntKind.i64.wrap (x2 - x1)) (4:Int))) * (3:Int)))))))) else (f189.j22 k ((0:Int),(IntKind.i64.wrap (x1 + (IntKind.i64.wrap ((IntKind.i64.wrap (Int.tdiv (IntKind.i64.wrap (x2 - x1)) (4:Int))) * (2:Int)))))))) else none) else none) else none
theorem c189 (k:Nat) {lv sv:Value} (fam:Fam) (X:(Array Nat)) (x1:Int) (x2:Int) (fo:FamOk Try.prog lv sv fam) (r:(Int × Int)) (hF:f189 k fam X x1 x2=some r):PCall Try.prog 189 [⟨sh2,((lv,(fam,X)),sv)⟩,⟨iS,x1⟩,⟨iS,x2⟩] [⟨iS,r.1⟩,⟨iS,r.2⟩]:=by
 refine pcall_intro Try.func189 rfl rfl (Nat.le_of_ble_eq_true rfl) ?_
 intro w0 Zi a w h
 rw [f189] at hF
 refine zs [1,2,3] h an fun a w h => ?_
 refine zs [1,3,8] h an fun a w h => ?_
 refine zs [1,3,8,9] h an fun a w h => ?_
 obtain ⟨hc44,hF⟩:=of_if hF
 refine zs [1,3,8,9,10] h (ac hc44 an) fun a w h => ?_
 obtain ⟨hc43,hF⟩:=of_if hF
 refine zs [1,3,8,9,10,11] h (ac hc43 an) fun a w h => ?_
 obtain ⟨hc42,hF⟩:=of_if hF
 refine zs [3,8,9,10,11,12] h (ac hc42 an) fun a w h => ?_
 refine wp_seq ?_
 refine zs [3,8,9,10,11,12,32] h an fun a w h => ?_
 refine wp_midT (fun a w => ∃ v:(Int × Int),f189.j22 k v=some r∧Rel w0 (fun _ => False) Zi Try.f189.ntmps ((fun ((v20,v21):(Int × Int)) => ([(9,.val (.pt true 3 iS) (some v20)),(11,.val iS v21)]:SS)) v) a w) ?_ ?_
 ·
  refine zi h hF (fun hF => ?_) (fun hF => ?_)
  ·refine wp_seq ?_
   refine zs [3,9,10,11,12,34] h an fun a w h => ?_
   refine wp_midT (fun a w => ∃ v:(Int × Int × Int × Int),f189.j33 k fam X (f189.j22 k) v=some r∧Rel w0 (fun _ => False) Zi Try.f189.ntmps ((fun ((v29,v30,v31,v32):(Int × Int × Int × Int)) => ([(3,.val sh3 (some ((lv,(fam,X)),sv))),(9,.val (.pt true 3 iS) (some v29)),(10,.val iS v30),(11,.val iS v31),(12,.val iS v32)]:SS)) v) a w) ?_ ?_
   ·
    refine zi h hF (fun hF => ?_) (fun hF => ?_)
    ·obtain ⟨r36,hr41,hF⟩:=of_bind hF
     refine zc (orcL [(37,[⟨.pt false 4294967295 (.pt true 3 iS),some (some r36.2)⟩,⟨iS,r36.1⟩])]) [3,9,10,11,12] h (ac (c215 k fam X (w64 (x1 + (w64 ((w64 (Int.tdiv (w64 (x2 - x1)) (4:Int))) * (1:Int))))) iO fo r36 hr41) an) fun a w h => ?_
     obtain ⟨r37,hr40,hF⟩:=of_bind hF
     refine zc (orcL [(40,[⟨.pt false 4294967295 (.pt true 3 iS),some (some r37.2)⟩,⟨iS,r37.1⟩])]) [3,9,10,11,12] h (ac (c215 k fam X (w64 (x1 + (w64 ((w64 (Int.tdiv (w64 (x2 - x1)) (4:Int))) * (2:Int))))) r36.2 fo r37 hr40) an) fun a w h => ?_
     obtain ⟨r38,hr39,hF⟩:=of_bind hF
     refine zd (orcL [(43,[⟨.pt false 4294967295 (.pt true 3 iS),some (some r38.2)⟩,⟨iS,r38.1⟩])]) [3,9,10,11,12] h (ac (c215 k fam X (w64 (x1 + (w64 ((w64 (Int.tdiv (w64 (x2 - x1)) (4:Int))) * (3:Int))))) r37.2 fo r38 hr39) an) fun a w h => ?_
     exact ⟨(r38.2,r36.1,r37.1,r38.1),hF,ar h [3,9,10,11,12]⟩
    ·refine wp_skip ?_
     exact ⟨(iO,(w64 (x1 + (w64 ((w64 (Int.tdiv (w64 (x2 - x1)) (4:Int))) * (1:Int))))),(w64 (x1 + (w64 ((w64 (Int.tdiv (w64 (x2 - x1)) (4:Int))) * (2:Int))))),(w64 (x1 + (w64 ((w64 (Int.tdiv (w64 (x2 - x1)) (4:Int))) * (3:Int)))))),hF,ar h [3,9,10,11,12]⟩
   ·rintro a w ⟨v,hF,h⟩
    obtain ⟨v29,v30,v31,v32⟩:=v
    rw [f189.j33] at hF
    obtain ⟨r34,hr35,hF⟩:=of_bind hF
    refine zd (orcL [(48,[⟨.pt false 4294967295 (.pt true 3 iS),some (some r34.2)⟩,⟨iS,r34.1⟩])]) [9,11] h (ac (c216 k fam X v30 v31 v32 v29 fo r34 hr35) an) fun a w h => ?_
    exact ⟨(r34.2,r34.1),hF,ar h [9,11]⟩
  ·refine wp_skip ?_
   exact ⟨(iO,(w64 (x1 + (w64 ((w64 (Int.tdiv (w64 (x2 - x1)) (4:Int))) * (2:Int)))))),hF,ar h [9,11]⟩
 ·rintro a w ⟨v,hF,h⟩
  obtain ⟨v20,v21⟩:=v
  rw [f189.j22] at hF
  refine zs [11,49] h an fun a w h => ?_
  refine wp_block ?_
  refine zs [11,49,51] h an fun a w h => ?_
  refine zi h hF (fun hF => ?_) (fun hF => ?_)
  ·refine zs [6,7] h an fun a w h => ?_
   cases hF
   exact wp_ret (ret_okR tok h rfl (by kernel_rfl)).1
  ·refine zs [11,54] h an fun a w h => ?_
   refine zi h hF (fun hF => ?_) (fun hF => ?_)
   ·refine zs [6,7] h an fun a w h => ?_
    cases hF
    exact wp_ret (ret_okR tok h rfl (by kernel_rfl)).1
   ·refine zs [6,7] h an fun a w h => ?_
    cases hF
    exact wp_ret (ret_okR tok h rfl (by kernel_rfl)).1
def f190.l1 (k:Nat):Nat → ((Array Nat) × Int × Int)→Option (Array Nat)
 | 0,_ => none
 | m1+1,(v13,v14,v15) => if (decide (v14 < v15)) then (if (inX v13 v14 v15) then ((f190.l1 k) m1 ((swpF v13 v14 v15),(IntKind.i64.wrap (v14 + (1:Int))),(IntKind.i64.wrap (v15 - (1:Int))))) else none) else (some v13)
def f190 (k:Nat) (fam:Fam) (X:(Array Nat)) (x1:Int) (x2:Int):Option (Array Nat):=f190.l1 k k (X,x1,(IntKind.i64.wrap (x2 - (1:Int))))
theorem c190 (k:Nat) {lv sv:Value} (fam:Fam) (X:(Array Nat)) (x1:Int) (x2:Int) (fo:FamOk Try.prog lv sv fam) (r:(Array Nat)) (hF:f190 k fam X x1 x2=some r):PMut Try.prog 190 [⟨sh1,((lv,(fam,X)),sv)⟩,⟨iS,x1⟩,⟨iS,x2⟩] [] (List.set [⟨sh1,((lv,(fam,X)),sv)⟩,⟨iS,x1⟩,⟨iS,x2⟩] 0 ⟨sh1,((lv,(fam,r)),sv)⟩):=by
 refine pmut_intro (j:=0) (fin:=⟨sh1,((lv,(fam,r)),sv)⟩) Try.func190 rfl rfl (Nat.le_of_ble_eq_true rfl) (Nat.le_of_ble_eq_true rfl) (by kernel_rfl) ?_
 intro w0 Zi f0 v0 a w h
 rw [f190] at hF
 refine wp_reg_seq tok (orc:=o0) (fz:=[]) (l:=[0,1,2,3]) (.inl rfl) h (by kernel_rfl) an fun a w h => ?_
 refine wp_reg_seq tok (orc:=o0) (fz:=[]) (l:=[0,2,3,6]) (.inl rfl) h (by kernel_rfl) an fun a w h => ?_
 refine wp_reg_seq tok (orc:=o0) (fz:=[]) (l:=[0,3,6,7]) (.inl rfl) h (by kernel_rfl) an fun a w h => ?_
 refine wp_block ?_
 refine wp_loop_fuel (f190.l1 k) (fun ((v13,v14,v15):((Array Nat) × Int × Int)) => [(0,.copy 3 [.der]),(3,.val sh0 (some ((lv,(fam,v13)),sv))),(6,.val iS v14),(7,.val iS v15)]) (fun v h => by obtain ⟨v13,v14,v15⟩:=v; rw [f190.l1] at h; cases h) ?_ hF (h.arrive (fz:=[]) (l:=[0,3,6,7]) (.inl rfl) (by kernel_rfl))
 intro m1 v a w hF h
 obtain ⟨v13,v14,v15⟩:=v
 rw [f190.l1] at hF
 refine wp_seq ?_
 refine wp_reg_seq tok (orc:=o0) (fz:=[]) (l:=[0,3,6,7,13]) (.inl rfl) h (by kernel_rfl) an fun a w h => ?_
 refine zi h hF (fun hF => ?_) (fun hF => ?_)
 ·refine wp_skip ?_
  refine wp_block ?_
  obtain ⟨hc16,hF⟩:=of_if hF
  refine wp_seqX_seq (sxG_ok tok (orc:=o0) (sp:=[(4,.swap (swpF v13 v14 v15))])) h (by kernel_rfl) (ac (fo.swap _ _ _ hc16) an) fun a w h => ?_
  replace h:=h.only [0,3,6,7] (by kernel_rfl)
  refine wp_reg_seq tok (orc:=o0) (fz:=[]) (l:=[0,3,6,7]) (.inl rfl) h (by kernel_rfl) an fun a w h => ?_
  refine wp_reg tok (orc:=o0) (fz:=[]) (l:=[0,3,6,7]) (.inl rfl) h (by kernel_rfl) an fun a w h => ?_
  exact ⟨((swpF v13 v14 v15),(w64 (v14 + (1:Int))),(w64 (v15 - (1:Int)))),hF,h.arrive (fz:=[]) (l:=[0,3,6,7]) (.inl rfl) (by kernel_rfl)⟩
 ·refine wp_exit ?_
  cases hF
  exact (retMS_ok (d:=3) (t:=198) tok h rfl (by kernel_rfl) (by kernel_rfl)).2
def f191.j946 (k:Nat) (v861:Int) (q515:((Array Nat) × Int × Int)→Option (Bool × (Array Nat))):((Array Nat) × Int)→Option (Bool × (Array Nat))
 | (v944,v945) => q515 (v944,v945,(IntKind.i64.wrap (v861 + (1:Int))))
def f191.l985 (k:Nat) (x2:Int) (fam:Fam) (v961:Int) (q946:((Array Nat) × Int)→Option (Bool × (Array Nat))):Nat → ((Array Nat) × Int)→Option (Bool × (Array Nat))
 | 0,_ => none
 | m985+1,(v1000,v1001) => if (decide (v1001 < x2)) then (if (inX v1000 v1001 (IntKind.i64.wrap (v1001 - (1:Int)))) then (if (!(lessF fam v1000 v1001 (IntKind.i64.wrap (v1001 - (1:Int))))) then (q946 (v1000,v961)) else (if (inX v1000 v1001 (IntKind.i64.wrap (v1001 - (1:Int)))) then ((f191.l985 k x2 fam v961 q946) m985 ((swpF v1000 v1001 (IntKind.i64.wrap (v1001 - (1:Int)))),(IntKind.i64.wrap (v1001 + (1:Int))))) else none)) else none) else (q946 (v1000,v961))
def f191.j984 (k:Nat) (x2:Int) (v961:Int) (fam:Fam) (q946:((Array Nat) × Int)→Option (Bool × (Array Nat))):(Array Nat)→Option (Bool × (Array Nat))
 | v983 => if (decide (((IntKind.i64.wrap (x2 - v961)):Int) ≥ (2:Int))) then (f191.l985 k x2 fam v961 (q946) k (v983,(IntKind.i64.wrap (v961 + (1:Int))))) else (q946 (v983,v961))
def f191.l1006 (k:Nat) (fam:Fam) (q984:(Array Nat)→Option (Bool × (Array Nat))):Nat → ((Array Nat) × Int)→Option (Bool × (Array Nat))
 | 0,_ => none
 | m1006+1,(v1021,v1022) => if (decide (v1022 ≥ (1:Int))) then (if (inX v1021 v1022 (IntKind.i64.wrap (v1022 - (1:Int)))) then (if (!(lessF fam v1021 v1022 (IntKind.i64.wrap (v1022 - (1:Int))))) then (q984 v1021) else (if (inX v1021 v1022 (IntKind.i64.wrap (v1022 - (1:Int)))) then ((f191.l1006 k fam q984) m1006 ((swpF v1021 v1022 (IntKind.i64.wrap (v1022 - (1:Int)))),(IntKind.i64.wrap (v1022 - (1:Int))))) else none)) else none) else (q984 v1021)
def f191.l955 (k:Nat) (x2:Int) (v859:(Array Nat)) (fam:Fam) (x1:Int) (q946:((Array Nat) × Int)→Option (Bool × (Array Nat))):Nat→Int→Option (Bool × (Array Nat))
 | 0,_ => none
 | m955+1,v961 => if (((decide (v961 < x2))=true) → (inX v859 v961 (IntKind.i64.wrap (v961 - (1:Int))))) then (if (bif (decide (v961 < x2)) then (!(lessF fam v859 v961 (IntKind.i64.wrap (v961 - (1:Int))))) else false) then ((f191.l955 k x2 v859 fam x1 q946) m955 (IntKind.i64.wrap (v961 + (1:Int)))) else (if (v961 == x2) then (some (true,v859)) else (if (decide (((IntKind.i64.wrap (x2 - x1)):Int) < (50:Int))) then (some (false,v859)) else (if (inX v859 v961 (IntKind.i64.wrap (v961 - (1:Int)))) then (if (decide (((IntKind.i64.wrap (v961 - x1)):Int) ≥ (2:Int))) then (f191.l1006 k fam (f191.j984 k x2 v961 fam (q946)) k ((swpF v859 v961 (IntKind.i64.wrap (v961 - (1:Int)))),(IntKind.i64.wrap (v961 - (1:Int))))) else (f191.j984 k x2 v961 fam (q946) (swpF v859 v961 (IntKind.i64.wrap (v961 - (1:Int)))))) else none)))) else none
def f191.l515 (k:Nat) (x2:Int) (fam:Fam) (x1:Int):Nat → ((Array Nat) × Int × Int)→Option (Bool × (Array Nat))
 | 0,_ => none
 | m515+1,(v859,v860,v861) => if (decide (v861 < (5:Int))) then (f191.l955 k x2 v859 fam x1 (f191.j946 k v861 ((f191.l515 k x2 fam x1) m515)) k v860) else (some (false,v859))
def f191 (k:Nat) (fam:Fam) (X:(Array Nat)) (x1:Int) (x2:Int):Option (Bool × (Array Nat)):=f191.l515 k x2 fam x1 k (X,(IntKind.i64.wrap (x1 + (1:Int))),(0:Int))
theorem c191 (k:Nat) {lv sv:Value} (fam:Fam) (X:(Array Nat)) (x1:Int) (x2:Int) (fo:FamOk Try.prog lv sv fam) (r:(Bool × (Array Nat))) (hF:f191 k fam X x1 x2=some r):PMut Try.prog 191 [⟨sh1,((lv,(fam,X)),sv)⟩,⟨iS,x1⟩,⟨iS,x2⟩] [⟨.bool,r.1⟩] (List.set [⟨sh1,((lv,(fam,X)),sv)⟩,⟨iS,x1⟩,⟨iS,x2⟩] 0 ⟨sh1,((lv,(fam,r.2)),sv)⟩):=by
 refine pmut_intro (j:=0) (fin:=⟨sh1,((lv,(fam,r.2)),sv)⟩) Try.func191 rfl rfl (Nat.le_of_ble_eq_true rfl) (Nat.le_of_ble_eq_true rfl) (by kernel_rfl) ?_
 intro w0 Zi f0 v0 a w h
 rw [f191] at hF
 refine wp_reg_seq tok (orc:=o0) (fz:=[]) (l:=[0,1,2,3]) (.inl rfl) h (by kernel_rfl) an fun a w h => ?_
 refine wp_reg_seq tok (orc:=o0) (fz:=[]) (l:=[0,1,2,3,7]) (.inl rfl) h (by kernel_rfl) an fun a w h => ?_
 refine wp_seq ?_
 refine wp_reg_seq tok (orc:=o0) (fz:=[]) (l:=[0,1,2,3,7,8]) (.inl rfl) h (by kernel_rfl) an fun a w h => ?_
 refine wp_block ?_
 refine wp_loop_fuel (f191.l515 k x2 fam x1) (fun ((v859,v860,v861):((Array Nat) × Int × Int)) => [(0,.copy 3 [.der]),(1,.val iS x1),(2,.val iS x2),(3,.val sh0 (some ((lv,(fam,v859)),sv))),(7,.val iS v860),(8,.val iS v861)]) (fun v h => by obtain ⟨v859,v860,v861⟩:=v; rw [f191.l515] at h; cases h) ?_ hF (h.arrive (fz:=[]) (l:=[0,1,2,3,7,8]) (.inl rfl) (by kernel_rfl))
 intro m515 v a w hF h
 obtain ⟨v859,v860,v861⟩:=v
 rw [f191.l515] at hF
 refine wp_seq ?_
 refine wp_reg_seq tok (orc:=o0) (fz:=[]) (l:=[0,1,2,3,7,8,14]) (.inl rfl) h (by kernel_rfl) an fun a w h => ?_
 refine zi h hF (fun hF => ?_) (fun hF => ?_)
 ·refine wp_skip ?_
  refine wp_mid (fun a w => ∃ v:((Array Nat) × Int),f191.j946 k v861 ((f191.l515 k x2 fam x1) m515) v=some r∧Rel w0 f0 Zi ⟨Try.f191.ntmps,[0],fun _ => v0⟩ ((fun ((v944,v945):((Array Nat) × Int)) => ([(0,.copy 3 [.der]),(1,.val iS x1),(2,.val iS x2),(3,.val sh0 (some ((lv,(fam,v944)),sv))),(7,.val iS v945),(8,.val iS v861)]:SS)) v) a w) ?_ ?_
  ·
   refine wp_block ?_
   refine wp_seq <| wp_block ?_
   refine wp_loop_fuel (f191.l955 k x2 v859 fam x1 (f191.j946 k v861 ((f191.l515 k x2 fam x1) m515))) (fun v961 => [(0,.copy 3 [.der]),(1,.val iS x1),(2,.val iS x2),(3,.val sh0 (some ((lv,(fam,v859)),sv))),(7,.val iS v961),(8,.val iS v861)]) (fun v h => by rw [f191.l955] at h; cases h) ?_ hF (h.arrive (fz:=[]) (l:=[0,1,2,3,7,8]) (.inl rfl) (by kernel_rfl))
   intro m955 v961 a w hF h
   rw [f191.l955] at hF
   refine wp_seq ?_
   obtain ⟨hc1028,hF⟩:=of_if hF
   refine wp_seqX_seq (sxG_ok tok (orc:=o0) (sp:=[(9,.less (lessF fam v859 v961 (w64 (v961 - (1:Int)))))])) h (by kernel_rfl) (ac (fun hg => fo.less _ _ _ (hc1028 hg)) an) fun a w h => ?_
   replace h:=h.only [0,1,2,3,7,8,28] (by kernel_rfl)
   refine zi h hF (fun hF => ?_) (fun hF => ?_)
   ·refine wp_skip ?_
    refine wp_block ?_
    refine wp_reg tok (orc:=o0) (fz:=[]) (l:=[0,1,2,3,7,8]) (.inl rfl) h (by kernel_rfl) an fun a w h => ?_
    exact ⟨(w64 (v961 + (1:Int))),hF,h.arrive (fz:=[]) (l:=[0,1,2,3,7,8]) (.inl rfl) (by kernel_rfl)⟩
   ·refine wp_exit ?_
    refine wp_seq ?_
    refine wp_reg_seq tok (orc:=o0) (fz:=[]) (l:=[0,1,2,3,7,8,33]) (.inl rfl) h (by kernel_rfl) an fun a w h => ?_
    refine zi h hF (fun hF => ?_) (fun hF => ?_)
    ·refine wp_reg_seq tok (orc:=o0) (fz:=[]) (l:=[0,3,6]) (.inl rfl) h (by kernel_rfl) an fun a w h => ?_
     cases hF
     exact wp_ret (retMS_ok (d:=3) (t:=198) tok h rfl (by kernel_rfl) (by kernel_rfl)).1
    ·refine wp_skip ?_
     refine wp_seq ?_
     refine wp_reg_seq tok (orc:=o0) (fz:=[]) (l:=[0,1,2,3,7,8,37]) (.inl rfl) h (by kernel_rfl) an fun a w h => ?_
     refine zi h hF (fun hF => ?_) (fun hF => ?_)
     ·refine wp_reg_seq tok (orc:=o0) (fz:=[]) (l:=[0,3,6]) (.inl rfl) h (by kernel_rfl) an fun a w h => ?_
      cases hF
      exact wp_ret (retMS_ok (d:=3) (t:=198) tok h rfl (by kernel_rfl) (by kernel_rfl)).1
     ·refine wp_skip ?_
      obtain ⟨hc1027,hF⟩:=of_if hF
      refine wp_seqX_seq (sxG_ok tok (orc:=o0) (sp:=[(5,.swap (swpF v859 v961 (w64 (v961 - (1:Int)))))])) h (by kernel_rfl) (ac (fo.swap _ _ _ hc1027) an) fun a w h => ?_
      replace h:=h.only [0,1,2,3,7,8] (by kernel_rfl)
      refine wp_seq ?_
      refine wp_reg_seq tok (orc:=o0) (fz:=[]) (l:=[0,1,2,3,7,8,47]) (.inl rfl) h (by kernel_rfl) an fun a w h => ?_
      refine wp_midT (fun a w => ∃ v:(Array Nat),f191.j984 k x2 v961 fam (f191.j946 k v861 ((f191.l515 k x2 fam x1) m515)) v=some r∧Rel w0 f0 Zi ⟨Try.f191.ntmps,[0],fun _ => v0⟩ ((fun (v983:(Array Nat)) => ([(0,.copy 3 [.der]),(1,.val iS x1),(2,.val iS x2),(3,.val sh0 (some ((lv,(fam,v983)),sv))),(7,.val iS v961),(8,.val iS v861)]:SS)) v) a w) ?_ ?_
      ·
       refine zi h hF (fun hF => ?_) (fun hF => ?_)
       ·refine wp_reg_seq tok (orc:=o0) (fz:=[]) (l:=[0,1,2,3,7,8,9]) (.inl rfl) h (by kernel_rfl) an fun a w h => ?_
        refine wp_block ?_
        refine wp_loop_fuel (f191.l1006 k fam (f191.j984 k x2 v961 fam (f191.j946 k v861 ((f191.l515 k x2 fam x1) m515)))) (fun ((v1021,v1022):((Array Nat) × Int)) => [(0,.copy 3 [.der]),(1,.val iS x1),(2,.val iS x2),(3,.val sh0 (some ((lv,(fam,v1021)),sv))),(7,.val iS v961),(8,.val iS v861),(9,.val iS v1022)]) (fun v h => by obtain ⟨v1021,v1022⟩:=v; rw [f191.l1006] at h; cases h) ?_ hF (h.arrive (fz:=[]) (l:=[0,1,2,3,7,8,9]) (.inl rfl) (by kernel_rfl))
        intro m1006 v a w hF h
        obtain ⟨v1021,v1022⟩:=v
        rw [f191.l1006] at hF
        refine wp_seq ?_
        refine wp_reg_seq tok (orc:=o0) (fz:=[]) (l:=[0,1,2,3,7,8,9,51]) (.inl rfl) h (by kernel_rfl) an fun a w h => ?_
        refine zi h hF (fun hF => ?_) (fun hF => ?_)
        ·refine wp_skip ?_
         refine wp_seq <| wp_block ?_
         refine wp_seq ?_
         obtain ⟨hc1026,hF⟩:=of_if hF
         refine wp_seqX_seq (sxG_ok tok (orc:=o0) (sp:=[(5,.less (lessF fam v1021 v1022 (w64 (v1022 - (1:Int)))))])) h (by kernel_rfl) (ac (fo.less _ _ _ hc1026) an) fun a w h => ?_
         replace h:=h.only [0,1,2,3,7,8,9,60] (by kernel_rfl)
         refine zi h hF (fun hF => ?_) (fun hF => ?_)
         ·refine wp_exit ?_
          exact ⟨v1021,hF,h.arrive (fz:=[]) (l:=[0,1,2,3,7,8]) (.inl rfl) (by kernel_rfl)⟩
         ·refine wp_skip ?_
          obtain ⟨hc1025,hF⟩:=of_if hF
          refine wp_seqX (sxG_ok tok (orc:=o0) (sp:=[(5,.swap (swpF v1021 v1022 (w64 (v1022 - (1:Int)))))])) h (by kernel_rfl) (ac (fo.swap _ _ _ hc1025) an) fun a w h => ?_
          replace h:=h.only [0,1,2,3,7,8,9] (by kernel_rfl)
          refine wp_reg tok (orc:=o0) (fz:=[]) (l:=[0,1,2,3,7,8,9]) (.inl rfl) h (by kernel_rfl) an fun a w h => ?_
          exact ⟨((swpF v1021 v1022 (w64 (v1022 - (1:Int)))),(w64 (v1022 - (1:Int)))),hF,h.arrive (fz:=[]) (l:=[0,1,2,3,7,8,9]) (.inl rfl) (by kernel_rfl)⟩
        ·refine wp_exit ?_
         exact ⟨v1021,hF,h.arrive (fz:=[]) (l:=[0,1,2,3,7,8]) (.inl rfl) (by kernel_rfl)⟩
       ·refine wp_skip ?_
        exact ⟨(swpF v859 v961 (w64 (v961 - (1:Int)))),hF,h.arrive (fz:=[]) (l:=[0,1,2,3,7,8]) (.inl rfl) (by kernel_rfl)⟩
      ·rintro a w ⟨v983,hF,h⟩
       rw [f191.j984] at hF
       refine wp_reg_seq tok (orc:=o0) (fz:=[]) (l:=[0,1,2,3,7,8,70]) (.inl rfl) h (by kernel_rfl) an fun a w h => ?_
       refine zi h hF (fun hF => ?_) (fun hF => ?_)
       ·refine wp_reg_seq tok (orc:=o0) (fz:=[]) (l:=[0,1,2,3,7,8,10]) (.inl rfl) h (by kernel_rfl) an fun a w h => ?_
        refine wp_block ?_
        refine wp_loop_fuel (f191.l985 k x2 fam v961 (f191.j946 k v861 ((f191.l515 k x2 fam x1) m515))) (fun ((v1000,v1001):((Array Nat) × Int)) => [(0,.copy 3 [.der]),(1,.val iS x1),(2,.val iS x2),(3,.val sh0 (some ((lv,(fam,v1000)),sv))),(7,.val iS v961),(8,.val iS v861),(10,.val iS v1001)]) (fun v h => by obtain ⟨v1000,v1001⟩:=v; rw [f191.l985] at h; cases h) ?_ hF (h.arrive (fz:=[]) (l:=[0,1,2,3,7,8,10]) (.inl rfl) (by kernel_rfl))
        intro m985 v a w hF h
        obtain ⟨v1000,v1001⟩:=v
        rw [f191.l985] at hF
        refine wp_seq ?_
        refine wp_reg_seq tok (orc:=o0) (fz:=[]) (l:=[0,1,2,3,7,8,10,75]) (.inl rfl) h (by kernel_rfl) an fun a w h => ?_
        refine zi h hF (fun hF => ?_) (fun hF => ?_)
        ·refine wp_skip ?_
         refine wp_seq <| wp_block ?_
         refine wp_seq ?_
         obtain ⟨hc1005,hF⟩:=of_if hF
         refine wp_seqX_seq (sxG_ok tok (orc:=o0) (sp:=[(5,.less (lessF fam v1000 v1001 (w64 (v1001 - (1:Int)))))])) h (by kernel_rfl) (ac (fo.less _ _ _ hc1005) an) fun a w h => ?_
         replace h:=h.only [0,1,2,3,7,8,10,84] (by kernel_rfl)
         refine zi h hF (fun hF => ?_) (fun hF => ?_)
         ·refine wp_exit ?_
          exact ⟨(v1000,v961),hF,h.arrive (fz:=[]) (l:=[0,1,2,3,7,8]) (.inl rfl) (by kernel_rfl)⟩
         ·refine wp_skip ?_
          obtain ⟨hc1004,hF⟩:=of_if hF
          refine wp_seqX (sxG_ok tok (orc:=o0) (sp:=[(5,.swap (swpF v1000 v1001 (w64 (v1001 - (1:Int)))))])) h (by kernel_rfl) (ac (fo.swap _ _ _ hc1004) an) fun a w h => ?_
          replace h:=h.only [0,1,2,3,7,8,10] (by kernel_rfl)
          refine wp_reg tok (orc:=o0) (fz:=[]) (l:=[0,1,2,3,7,8,10]) (.inl rfl) h (by kernel_rfl) an fun a w h => ?_
          exact ⟨((swpF v1000 v1001 (w64 (v1001 - (1:Int)))),(w64 (v1001 + (1:Int)))),hF,h.arrive (fz:=[]) (l:=[0,1,2,3,7,8,10]) (.inl rfl) (by kernel_rfl)⟩
        ·refine wp_exit ?_
         exact ⟨(v1000,v961),hF,h.arrive (fz:=[]) (l:=[0,1,2,3,7,8]) (.inl rfl) (by kernel_rfl)⟩
       ·refine wp_skip ?_
        exact ⟨(v983,v961),hF,h.arrive (fz:=[]) (l:=[0,1,2,3,7,8]) (.inl rfl) (by kernel_rfl)⟩
  ·rintro a w ⟨v,hF,h⟩
   obtain ⟨v944,v945⟩:=v
   rw [f191.j946] at hF
   refine wp_reg tok (orc:=o0) (fz:=[]) (l:=[0,1,2,3,7,8]) (.inl rfl) h (by kernel_rfl) an fun a w h => ?_
   exact ⟨(v944,v945,(w64 (v861 + (1:Int)))),hF,h.arrive (fz:=[]) (l:=[0,1,2,3,7,8]) (.inl rfl) (by kernel_rfl)⟩
 ·refine wp_exit ?_
  refine wp_reg_seq tok (orc:=o0) (fz:=[]) (l:=[0,3,6]) (.inl rfl) h (by kernel_rfl) an fun a w h => ?_
  cases hF
  exact wp_ret (retMS_ok (d:=3) (t:=198) tok h rfl (by kernel_rfl) (by kernel_rfl)).1
def f192.l215 (k:Nat) (v206:Int) (v189:(Array Nat)) (x1:Int) (fam:Fam) (q113:((Array Nat) × Int × Int)→Option (Int × (Array Nat))):Nat→Int→Option (Int × (Array Nat))
 | 0,_ => none
 | m215+1,v221 => if (((decide (v206≤v221))=true) → (inX v189 x1 v221)) then (if (bif (decide (v206≤v221)) then (lessF fam v189 x1 v221) else false) then ((f192.l215 k v206 v189 x1 fam q113) m215 (IntKind.i64.wrap (v221 - (1:Int)))) else (if (decide (v206 > v221)) then (some (v206,v189)) else (if (inX v189 v206 v221) then (q113 ((swpF v189 v206 v221),(IntKind.i64.wrap (v206 + (1:Int))),(IntKind.i64.wrap (v221 - (1:Int))))) else none))) else none
def f192.l200 (k:Nat) (v191:Int) (v189:(Array Nat)) (x1:Int) (fam:Fam) (q113:((Array Nat) × Int × Int)→Option (Int × (Array Nat))):Nat→Int→Option (Int × (Array Nat))
 | 0,_ => none
 | m200+1,v206 => if (((decide (v206≤v191))=true) → (inX v189 x1 v206)) then (if (bif (decide (v206≤v191)) then (!(lessF fam v189 x1 v206)) else false) then ((f192.l200 k v191 v189 x1 fam q113) m200 (IntKind.i64.wrap (v206 + (1:Int)))) else (f192.l215 k v206 v189 x1 fam (q113) k v191)) else none
def f192.l113 (k:Nat) (x1:Int) (fam:Fam):Nat → ((Array Nat) × Int × Int)→Option (Int × (Array Nat))
 | 0,_ => none
 | m113+1,(v189,v190,v191) => f192.l200 k v191 v189 x1 fam ((f192.l113 k x1 fam) m113) k v190
def f192 (k:Nat) (fam:Fam) (X:(Array Nat)) (x1:Int) (x2:Int) (x3:Int):Option (Int × (Array Nat)):=if (inX X x1 x3) then (f192.l113 k x1 fam k ((swpF X x1 x3),(IntKind.i64.wrap (x1 + (1:Int))),(IntKind.i64.wrap (x2 - (1:Int))))) else none
theorem c192 (k:Nat) {lv sv:Value} (fam:Fam) (X:(Array Nat)) (x1:Int) (x2:Int) (x3:Int) (fo:FamOk Try.prog lv sv fam) (r:(Int × (Array Nat))) (hF:f192 k fam X x1 x2 x3=some r):PMut Try.prog 192 [⟨sh1,((lv,(fam,X)),sv)⟩,⟨iS,x1⟩,⟨iS,x2⟩,⟨iS,x3⟩] [⟨iS,r.1⟩] (List.set [⟨sh1,((lv,(fam,X)),sv)⟩,⟨iS,x1⟩,⟨iS,x2⟩,⟨iS,x3⟩] 0 ⟨sh1,((lv,(fam,r.2)),sv)⟩):=by
 refine pmut_intro (j:=0) (fin:=⟨sh1,((lv,(fam,r.2)),sv)⟩) Try.func192 rfl rfl (Nat.le_of_ble_eq_true rfl) (Nat.le_of_ble_eq_true rfl) (by kernel_rfl) ?_
 intro w0 Zi f0 v0 a w h
 rw [f192] at hF
 refine wp_reg_seq tok (orc:=o0) (fz:=[]) (l:=[0,1,2,3,4]) (.inl rfl) h (by kernel_rfl) an fun a w h => ?_
 obtain ⟨hc225,hF⟩:=of_if hF
 refine wp_seqX_seq (sxG_ok tok (orc:=o0) (sp:=[(4,.swap (swpF X x1 x3))])) h (by kernel_rfl) (ac (fo.swap _ _ _ hc225) an) fun a w h => ?_
 replace h:=h.only [0,1,2,4] (by kernel_rfl)
 refine wp_reg_seq tok (orc:=o0) (fz:=[]) (l:=[0,1,4,9,10]) (.inl rfl) h (by kernel_rfl) an fun a w h => ?_
 refine wp_seq <| wp_block ?_
 refine wp_loop_fuel (f192.l113 k x1 fam) (fun ((v189,v190,v191):((Array Nat) × Int × Int)) => [(0,.copy 4 [.der]),(1,.val iS x1),(4,.val sh0 (some ((lv,(fam,v189)),sv))),(9,.val iS v190),(10,.val iS v191)]) (fun v h => by obtain ⟨v189,v190,v191⟩:=v; rw [f192.l113] at h; cases h) ?_ hF (h.arrive (fz:=[]) (l:=[0,1,4,9,10]) (.inl rfl) (by kernel_rfl))
 intro m113 v a w hF h
 obtain ⟨v189,v190,v191⟩:=v
 rw [f192.l113] at hF
 refine wp_block ?_
 refine wp_seq <| wp_block ?_
 refine wp_loop_fuel (f192.l200 k v191 v189 x1 fam ((f192.l113 k x1 fam) m113)) (fun v206 => [(0,.copy 4 [.der]),(1,.val iS x1),(4,.val sh0 (some ((lv,(fam,v189)),sv))),(9,.val iS v206),(10,.val iS v191)]) (fun v h => by rw [f192.l200] at h; cases h) ?_ hF (h.arrive (fz:=[]) (l:=[0,1,4,9,10]) (.inl rfl) (by kernel_rfl))
 intro m200 v206 a w hF h
 rw [f192.l200] at hF
 refine wp_seq ?_
 obtain ⟨hc224,hF⟩:=of_if hF
 refine wp_seqX_seq (sxG_ok tok (orc:=o0) (sp:=[(8,.less (lessF fam v189 x1 v206))])) h (by kernel_rfl) (ac (fun hg => fo.less _ _ _ (hc224 hg)) an) fun a w h => ?_
 replace h:=h.only [0,1,4,9,10,30] (by kernel_rfl)
 refine zi h hF (fun hF => ?_) (fun hF => ?_)
 ·refine wp_skip ?_
  refine wp_block ?_
  refine wp_reg tok (orc:=o0) (fz:=[]) (l:=[0,1,4,9,10]) (.inl rfl) h (by kernel_rfl) an fun a w h => ?_
  exact ⟨(w64 (v206 + (1:Int))),hF,h.arrive (fz:=[]) (l:=[0,1,4,9,10]) (.inl rfl) (by kernel_rfl)⟩
 ·refine wp_exit ?_
  refine wp_seq <| wp_block ?_
  refine wp_loop_fuel (f192.l215 k v206 v189 x1 fam ((f192.l113 k x1 fam) m113)) (fun v221 => [(0,.copy 4 [.der]),(1,.val iS x1),(4,.val sh0 (some ((lv,(fam,v189)),sv))),(9,.val iS v206),(10,.val iS v221)]) (fun v h => by rw [f192.l215] at h; cases h) ?_ hF (h.arrive (fz:=[]) (l:=[0,1,4,9,10]) (.inl rfl) (by kernel_rfl))
  intro m215 v221 a w hF h
  rw [f192.l215] at hF
  refine wp_seq ?_
  obtain ⟨hc223,hF⟩:=of_if hF
  refine wp_seqX_seq (sxG_ok tok (orc:=o0) (sp:=[(8,.less (lessF fam v189 x1 v221))])) h (by kernel_rfl) (ac (fun hg => fo.less _ _ _ (hc223 hg)) an) fun a w h => ?_
  replace h:=h.only [0,1,4,9,10,42] (by kernel_rfl)
  refine zi h hF (fun hF => ?_) (fun hF => ?_)
  ·refine wp_skip ?_
   refine wp_block ?_
   refine wp_reg tok (orc:=o0) (fz:=[]) (l:=[0,1,4,9,10]) (.inl rfl) h (by kernel_rfl) an fun a w h => ?_
   exact ⟨(w64 (v221 - (1:Int))),hF,h.arrive (fz:=[]) (l:=[0,1,4,9,10]) (.inl rfl) (by kernel_rfl)⟩
  ·refine wp_exit ?_
   refine wp_seq ?_
   refine wp_reg_seq tok (orc:=o0) (fz:=[]) (l:=[0,1,4,9,10,47]) (.inl rfl) h (by kernel_rfl) an fun a w h => ?_
   refine zi h hF (fun hF => ?_) (fun hF => ?_)
   ·refine wp_exit ?_
    refine wp_reg_seq tok (orc:=o0) (fz:=[]) (l:=[0,4,8]) (.inl rfl) h (by kernel_rfl) an fun a w h => ?_
    cases hF
    exact wp_ret (retMS_ok (d:=4) (t:=198) tok h rfl (by kernel_rfl) (by kernel_rfl)).1
   ·refine wp_skip ?_
    obtain ⟨hc222,hF⟩:=of_if hF
    refine wp_seqX_seq (sxG_ok tok (orc:=o0) (sp:=[(4,.swap (swpF v189 v206 v221))])) h (by kernel_rfl) (ac (fo.swap _ _ _ hc222) an) fun a w h => ?_
    replace h:=h.only [0,1,4,9,10] (by kernel_rfl)
    refine wp_reg_seq tok (orc:=o0) (fz:=[]) (l:=[0,1,4,9,10]) (.inl rfl) h (by kernel_rfl) an fun a w h => ?_
    refine wp_reg tok (orc:=o0) (fz:=[]) (l:=[0,1,4,9,10]) (.inl rfl) h (by kernel_rfl) an fun a w h => ?_
    exact ⟨((swpF v189 v206 v221),(w64 (v206 + (1:Int))),(w64 (v221 - (1:Int)))),hF,h.arrive (fz:=[]) (l:=[0,1,4,9,10]) (.inl rfl) (by kernel_rfl)⟩
def f193.l247 (k:Nat) (v238:Int) (v221:(Array Nat)) (x1:Int) (fam:Fam) (q145:((Array Nat) × Int × Int)→Option (Int × Bool × (Array Nat))):Nat→Int→Option (Int × Bool × (Array Nat))
 | 0,_ => none
 | m247+1,v253 => if (((decide (v238≤v253))=true) → (inX v221 v253 x1)) then (if (bif (decide (v238≤v253)) then (!(lessF fam v221 v253 x1)) else false) then ((f193.l247 k v238 v221 x1 fam q145) m247 (IntKind.i64.wrap (v253 - (1:Int)))) else (if (decide (v238 > v253)) then (if (inX v221 v253 x1) then (some (v253,false,(swpF v221 v253 x1))) else none) else (if (inX v221 v238 v253) then (q145 ((swpF v221 v238 v253),(IntKind.i64.wrap (v238 + (1:Int))),(IntKind.i64.wrap (v253 - (1:Int))))) else none))) else none
def f193.l232 (k:Nat) (v223:Int) (v221:(Array Nat)) (x1:Int) (fam:Fam) (q145:((Array Nat) × Int × Int)→Option (Int × Bool × (Array Nat))):Nat→Int→Option (Int × Bool × (Array Nat))
 | 0,_ => none
 | m232+1,v238 => if (((decide (v238≤v223))=true) → (inX v221 v238 x1)) then (if (bif (decide (v238≤v223)) then (lessF fam v221 v238 x1) else false) then ((f193.l232 k v223 v221 x1 fam q145) m232 (IntKind.i64.wrap (v238 + (1:Int)))) else (f193.l247 k v238 v221 x1 fam (q145) k v223)) else none
def f193.l145 (k:Nat) (x1:Int) (fam:Fam):Nat → ((Array Nat) × Int × Int)→Option (Int × Bool × (Array Nat))
 | 0,_ => none
 | m145+1,(v221,v222,v223) => f193.l232 k v223 v221 x1 fam ((f193.l145 k x1 fam) m145) k v222
def f193.l24 (k:Nat) (v15:Int) (X:(Array Nat)) (x1:Int) (x3:Int) (fam:Fam):Nat→Int→Option (Int × Bool × (Array Nat))
 | 0,_ => none
 | m24+1,v30 => if (((decide (v15≤v30))=true) → (inX (swpF X x1 x3) v30 x1)) then (if (bif (decide (v15≤v30)) then (!(lessF fam (swpF X x1 x3) v30 x1)) else false) then ((f193.l24 k v15 X x1 x3 fam) m24 (IntKind.i64.wrap (v30 - (1:Int)))) else (if (decide (v15 > v30)) then (if (inX (swpF X x1 x3) v30 x1) then (some (v30,true,(swpF (swpF X x1 x3) v30 x1))) else none) else (if (inX (swpF X x1 x3) v15 v30) then (f193.l145 k x1 fam k ((swpF (swpF X x1 x3) v15 v30),(IntKind.i64.wrap (v15 + (1:Int))),(IntKind.i64.wrap (v30 - (1:Int))))) else none))) else none
def f193.l9 (k:Nat) (x2:Int) (X:(Array Nat)) (x1:Int) (x3:Int) (fam:Fam):Nat→Int→Option (Int × Bool × (Array Nat))
 | 0,_ => none
 | m9+1,v15 => if (((decide (v15 ≤ (IntKind.i64.wrap (x2 - (1:Int)))))=true) → (inX (swpF X x1 x3) v15 x1)) then (if (bif (decide (v15 ≤ (IntKind.i64.wrap (x2 - (1:Int))))) then (lessF fam (swpF X x1 x3) v15 x1) else false) then ((f193.l9 k x2 X x1 x3 fam) m9 (IntKind.i64.wrap (v15 + (1:Int)))) else (f193.l24 k v15 X x1 x3 fam k (IntKind.i64.wrap (x2 - (1:Int))))) else none
def f193 (k:Nat) (fam:Fam) (X:(Array Nat)) (x1:Int) (x2:Int) (x3:Int):Option (Int × Bool × (Array Nat)):=if (inX X x1 x3) then (f193.l9 k x2 X x1 x3 fam k (IntKind.i64.wrap (x1 + (1:Int)))) else none
theorem c193 (k:Nat) {lv sv:Value} (fam:Fam) (X:(Array Nat)) (x1:Int) (x2:Int) (x3:Int) (fo:FamOk Try.prog lv sv fam) (r:(Int × Bool × (Array Nat))) (hF:f193 k fam X x1 x2 x3=some r):PMut Try.prog 193 [⟨sh1,((lv,(fam,X)),sv)⟩,⟨iS,x1⟩,⟨iS,x2⟩,⟨iS,x3⟩] [⟨iS,r.1⟩,⟨.bool,r.2.1⟩] (List.set [⟨sh1,((lv,(fam,X)),sv)⟩,⟨iS,x1⟩,⟨iS,x2⟩,⟨iS,x3⟩] 0 ⟨sh1,((lv,(fam,r.2.2)),sv)⟩):=by
 refine pmut_intro (j:=0) (fin:=⟨sh1,((lv,(fam,r.2.2)),sv)⟩) Try.func193 rfl rfl (Nat.le_of_ble_eq_true rfl) (Nat.le_of_ble_eq_true rfl) (by kernel_rfl) ?_
 intro w0 Zi f0 v0 a w h
 rw [f193] at hF
 refine wp_reg_seq tok (orc:=o0) (fz:=[]) (l:=[0,1,2,3,4]) (.inl rfl) h (by kernel_rfl) an fun a w h => ?_
 obtain ⟨hc261,hF⟩:=of_if hF
 refine wp_seqX_seq (sxG_ok tok (orc:=o0) (sp:=[(4,.swap (swpF X x1 x3))])) h (by kernel_rfl) (ac (fo.swap _ _ _ hc261) an) fun a w h => ?_
 replace h:=h.only [0,1,2,4] (by kernel_rfl)
 refine wp_reg_seq tok (orc:=o0) (fz:=[]) (l:=[0,1,4,10,11]) (.inl rfl) h (by kernel_rfl) an fun a w h => ?_
 refine wp_seq <| wp_block ?_
 refine wp_loop_fuel (f193.l9 k x2 X x1 x3 fam) (fun v15 => [(0,.copy 4 [.der]),(1,.val iS x1),(4,.val sh0 (some ((lv,(fam,(swpF X x1 x3))),sv))),(10,.val iS v15),(11,.val iS (w64 (x2 - (1:Int))))]) (fun v h => by rw [f193.l9] at h; cases h) ?_ hF (h.arrive (fz:=[]) (l:=[0,1,4,10,11]) (.inl rfl) (by kernel_rfl))
 intro m9 v15 a w hF h
 rw [f193.l9] at hF
 refine wp_seq ?_
 obtain ⟨hc260,hF⟩:=of_if hF
 refine wp_seqX_seq (sxG_ok tok (orc:=o0) (sp:=[(8,.less (lessF fam (swpF X x1 x3) v15 x1))])) h (by kernel_rfl) (ac (fun hg => fo.less _ _ _ (hc260 hg)) an) fun a w h => ?_
 replace h:=h.only [0,1,4,10,11,30] (by kernel_rfl)
 refine zi h hF (fun hF => ?_) (fun hF => ?_)
 ·refine wp_skip ?_
  refine wp_block ?_
  refine wp_reg tok (orc:=o0) (fz:=[]) (l:=[0,1,4,10,11]) (.inl rfl) h (by kernel_rfl) an fun a w h => ?_
  exact ⟨(w64 (v15 + (1:Int))),hF,h.arrive (fz:=[]) (l:=[0,1,4,10,11]) (.inl rfl) (by kernel_rfl)⟩
 ·refine wp_exit ?_
  refine wp_seq <| wp_block ?_
  refine wp_loop_fuel (f193.l24 k v15 X x1 x3 fam) (fun v30 => [(0,.copy 4 [.der]),(1,.val iS x1),(4,.val sh0 (some ((lv,(fam,(swpF X x1 x3))),sv))),(10,.val iS v15),(11,.val iS v30)]) (fun v h => by rw [f193.l24] at h; cases h) ?_ hF (h.arrive (fz:=[]) (l:=[0,1,4,10,11]) (.inl rfl) (by kernel_rfl))
  intro m24 v30 a w hF h
  rw [f193.l24] at hF
  refine wp_seq ?_
  obtain ⟨hc259,hF⟩:=of_if hF
  refine wp_seqX_seq (sxG_ok tok (orc:=o0) (sp:=[(8,.less (lessF fam (swpF X x1 x3) v30 x1))])) h (by kernel_rfl) (ac (fun hg => fo.less _ _ _ (hc259 hg)) an) fun a w h => ?_
  replace h:=h.only [0,1,4,10,11,43] (by kernel_rfl)
  refine zi h hF (fun hF => ?_) (fun hF => ?_)
  ·refine wp_skip ?_
   refine wp_block ?_
   refine wp_reg tok (orc:=o0) (fz:=[]) (l:=[0,1,4,10,11]) (.inl rfl) h (by kernel_rfl) an fun a w h => ?_
   exact ⟨(w64 (v30 - (1:Int))),hF,h.arrive (fz:=[]) (l:=[0,1,4,10,11]) (.inl rfl) (by kernel_rfl)⟩
  ·refine wp_exit ?_
   refine wp_seq ?_
   refine wp_reg_seq tok (orc:=o0) (fz:=[]) (l:=[0,1,4,10,11,48]) (.inl rfl) h (by kernel_rfl) an fun a w h => ?_
   refine zi h hF (fun hF => ?_) (fun hF => ?_)
   ·obtain ⟨hc32,hF⟩:=of_if hF
    refine wp_seqX_seq (sxG_ok tok (orc:=o0) (sp:=[(4,.swap (swpF (swpF X x1 x3) v30 x1))])) h (by kernel_rfl) (ac (fo.swap _ _ _ hc32) an) fun a w h => ?_
    replace h:=h.only [0,4,11] (by kernel_rfl)
    refine wp_reg_seq tok (orc:=o0) (fz:=[]) (l:=[0,4,8,9]) (.inl rfl) h (by kernel_rfl) an fun a w h => ?_
    cases hF
    exact wp_ret (retMS_ok (d:=4) (t:=198) tok h rfl (by kernel_rfl) (by kernel_rfl)).1
   ·refine wp_skip ?_
    obtain ⟨hc258,hF⟩:=of_if hF
    refine wp_seqX_seq (sxG_ok tok (orc:=o0) (sp:=[(4,.swap (swpF (swpF X x1 x3) v15 v30))])) h (by kernel_rfl) (ac (fo.swap _ _ _ hc258) an) fun a w h => ?_
    replace h:=h.only [0,1,4,10,11] (by kernel_rfl)
    refine wp_reg_seq tok (orc:=o0) (fz:=[]) (l:=[0,1,4,10,11]) (.inl rfl) h (by kernel_rfl) an fun a w h => ?_
    refine wp_reg_seq tok (orc:=o0) (fz:=[]) (l:=[0,1,4,10,11]) (.inl rfl) h (by kernel_rfl) an fun a w h => ?_
    refine wp_seq <| wp_block ?_
    refine wp_loop_fuel (f193.l145 k x1 fam) (fun ((v221,v222,v223):((Array Nat) × Int × Int)) => [(0,.copy 4 [.der]),(1,.val iS x1),(4,.val sh0 (some ((lv,(fam,v221)),sv))),(10,.val iS v222),(11,.val iS v223)]) (fun v h => by obtain ⟨v221,v222,v223⟩:=v; rw [f193.l145] at h; cases h) ?_ hF (h.arrive (fz:=[]) (l:=[0,1,4,10,11]) (.inl rfl) (by kernel_rfl))
    intro m145 v a w hF h
    obtain ⟨v221,v222,v223⟩:=v
    rw [f193.l145] at hF
    refine wp_block ?_
    refine wp_seq <| wp_block ?_
    refine wp_loop_fuel (f193.l232 k v223 v221 x1 fam ((f193.l145 k x1 fam) m145)) (fun v238 => [(0,.copy 4 [.der]),(1,.val iS x1),(4,.val sh0 (some ((lv,(fam,v221)),sv))),(10,.val iS v238),(11,.val iS v223)]) (fun v h => by rw [f193.l232] at h; cases h) ?_ hF (h.arrive (fz:=[]) (l:=[0,1,4,10,11]) (.inl rfl) (by kernel_rfl))
    intro m232 v238 a w hF h
    rw [f193.l232] at hF
    refine wp_seq ?_
    obtain ⟨hc257,hF⟩:=of_if hF
    refine wp_seqX_seq (sxG_ok tok (orc:=o0) (sp:=[(8,.less (lessF fam v221 v238 x1))])) h (by kernel_rfl) (ac (fun hg => fo.less _ _ _ (hc257 hg)) an) fun a w h => ?_
    replace h:=h.only [0,1,4,10,11,73] (by kernel_rfl)
    refine zi h hF (fun hF => ?_) (fun hF => ?_)
    ·refine wp_skip ?_
     refine wp_block ?_
     refine wp_reg tok (orc:=o0) (fz:=[]) (l:=[0,1,4,10,11]) (.inl rfl) h (by kernel_rfl) an fun a w h => ?_
     exact ⟨(w64 (v238 + (1:Int))),hF,h.arrive (fz:=[]) (l:=[0,1,4,10,11]) (.inl rfl) (by kernel_rfl)⟩
    ·refine wp_exit ?_
     refine wp_seq <| wp_block ?_
     refine wp_loop_fuel (f193.l247 k v238 v221 x1 fam ((f193.l145 k x1 fam) m145)) (fun v253 => [(0,.copy 4 [.der]),(1,.val iS x1),(4,.val sh0 (some ((lv,(fam,v221)),sv))),(10,.val iS v238),(11,.val iS v253)]) (fun v h => by rw [f193.l247] at h; cases h) ?_ hF (h.arrive (fz:=[]) (l:=[0,1,4,10,11]) (.inl rfl) (by kernel_rfl))
     intro m247 v253 a w hF h
     rw [f193.l247] at hF
     refine wp_seq ?_
     obtain ⟨hc256,hF⟩:=of_if hF
     refine wp_seqX_seq (sxG_ok tok (orc:=o0) (sp:=[(8,.less (lessF fam v221 v253 x1))])) h (by kernel_rfl) (ac (fun hg => fo.less _ _ _ (hc256 hg)) an) fun a w h => ?_
     replace h:=h.only [0,1,4,10,11,86] (by kernel_rfl)
     refine zi h hF (fun hF => ?_) (fun hF => ?_)
     ·refine wp_skip ?_
      refine wp_block ?_
      refine wp_reg tok (orc:=o0) (fz:=[]) (l:=[0,1,4,10,11]) (.inl rfl) h (by kernel_rfl) an fun a w h => ?_
      exact ⟨(w64 (v253 - (1:Int))),hF,h.arrive (fz:=[]) (l:=[0,1,4,10,11]) (.inl rfl) (by kernel_rfl)⟩
     ·refine wp_exit ?_
      refine wp_seq ?_
      refine wp_reg_seq tok (orc:=o0) (fz:=[]) (l:=[0,1,4,10,11,91]) (.inl rfl) h (by kernel_rfl) an fun a w h => ?_
      refine zi h hF (fun hF => ?_) (fun hF => ?_)
      ·refine wp_exit ?_
       obtain ⟨hc254,hF⟩:=of_if hF
       refine wp_seqX_seq (sxG_ok tok (orc:=o0) (sp:=[(4,.swap (swpF v221 v253 x1))])) h (by kernel_rfl) (ac (fo.swap _ _ _ hc254) an) fun a w h => ?_
       replace h:=h.only [0,4,11] (by kernel_rfl)
       refine wp_reg_seq tok (orc:=o0) (fz:=[]) (l:=[0,4,8,9]) (.inl rfl) h (by kernel_rfl) an fun a w h => ?_
       cases hF
       exact wp_ret (retMS_ok (d:=4) (t:=198) tok h rfl (by kernel_rfl) (by kernel_rfl)).1
      ·refine wp_skip ?_
       obtain ⟨hc255,hF⟩:=of_if hF
       refine wp_seqX_seq (sxG_ok tok (orc:=o0) (sp:=[(4,.swap (swpF v221 v238 v253))])) h (by kernel_rfl) (ac (fo.swap _ _ _ hc255) an) fun a w h => ?_
       replace h:=h.only [0,1,4,10,11] (by kernel_rfl)
       refine wp_reg_seq tok (orc:=o0) (fz:=[]) (l:=[0,1,4,10,11]) (.inl rfl) h (by kernel_rfl) an fun a w h => ?_
       refine wp_reg tok (orc:=o0) (fz:=[]) (l:=[0,1,4,10,11]) (.inl rfl) h (by kernel_rfl) an fun a w h => ?_
       exact ⟨((swpF v221 v238 v253),(w64 (v238 + (1:Int))),(w64 (v253 - (1:Int)))),hF,h.arrive (fz:=[]) (l:=[0,1,4,10,11]) (.inl rfl) (by kernel_rfl)⟩
def f142.j135 (k:Nat) (v106:Int) (v129:Int) (fam:Fam) (v107:Int) (v122:Int) (v110:Bool) (v111:Bool) (self:(Fam → (Array Nat)→Int→Int→Int→Option (Array Nat))) (q1:(Int × Int × Int × (Array Nat) × Bool × Bool)→Option (Array Nat)):(Array Nat)→Option (Array Nat)
 | v134 => if (((decide (v106 > (0:Int)))=true) → (inX v134 (IntKind.i64.wrap (v106 - (1:Int))) v129)) then (if (bif (decide (v106 > (0:Int))) then (!(lessF fam v134 (IntKind.i64.wrap (v106 - (1:Int))) v129)) else false) then ((f192 k fam v134 v106 v107 v129).bind fun r138 => (q1 (r138.1,v107,v122,r138.2,v110,v111))) else ((f193 k fam v134 v106 v107 v129).bind fun r140 => (if (((8:Int):Int)≠0) then (if (decide (((IntKind.i64.wrap (r140.1 - v106)):Int) < (IntKind.i64.wrap (v107 - r140.1)))) then ((self fam r140.2.2 v106 r140.1 v122).bind fun r141 => (q1 ((IntKind.i64.wrap (r140.1 + (1:Int))),v107,v122,r141,(decide (((IntKind.i64.wrap (r140.1 - v106)):Int) ≥ (IntKind.i64.wrap (Int.tdiv (IntKind.i64.wrap (v107 - v106)) (8:Int))))),r140.2.1))) else ((self fam r140.2.2 (IntKind.i64.wrap (r140.1 + (1:Int))) v107 v122).bind fun r143 => (q1 (v106,r140.1,v122,r143,(decide (((IntKind.i64.wrap (v107 - r140.1)):Int) ≥ (IntKind.i64.wrap (Int.tdiv (IntKind.i64.wrap (v107 - v106)) (8:Int))))),r140.2.1)))) else none))) else none
def f142.j131 (k:Nat) (v110:Bool) (v111:Bool) (fam:Fam) (v106:Int) (v107:Int) (v122:Int) (self:(Fam → (Array Nat)→Int→Int→Int→Option (Array Nat))) (q1:(Int × Int × Int × (Array Nat) × Bool × Bool)→Option (Array Nat)):((Array Nat) × Int × Int)→Option (Array Nat)
 | (v128,v129,v130) => if (bif (bif v110 then v111 else false) then (v130 == (1:Int)) else false) then ((f191 k fam v128 v106 v107).bind fun r148 => (if r148.1 then (some r148.2) else (f142.j135 k v106 v129 fam v107 v122 v110 v111 self (q1) r148.2))) else (f142.j135 k v106 v129 fam v107 v122 v110 v111 self (q1) v128)
def f142.j124 (k:Nat) (fam:Fam) (v106:Int) (v107:Int) (v110:Bool) (v111:Bool) (self:(Fam → (Array Nat)→Int→Int→Int→Option (Array Nat))) (q1:(Int × Int × Int × (Array Nat) × Bool × Bool)→Option (Array Nat)):(Int × (Array Nat))→Option (Array Nat)
 | (v122,v123) => (f189 k fam v123 v106 v107).bind fun r125 => (if (r125.2 == (2:Int)) then ((f190 k fam v123 v106 v107).bind fun r150 => (f142.j131 k v110 v111 fam v106 v107 v122 self (q1) (r150,(IntKind.i64.wrap ((IntKind.i64.wrap (v107 - (1:Int))) - (IntKind.i64.wrap (r125.1 - v106)))),(1:Int)))) else (f142.j131 k v110 v111 fam v106 v107 v122 self (q1) (v123,r125.1,r125.2)))
def f142.l1 (k:Nat) (fam:Fam) (self:(Fam → (Array Nat)→Int→Int→Int→Option (Array Nat))):Nat → (Int × Int × Int × (Array Nat) × Bool × Bool)→Option (Array Nat)
 | 0,_ => none
 | m1+1,(v106,v107,v108,v109,v110,v111) => if (decide (((IntKind.i64.wrap (v107 - v106)):Int) ≤ (12:Int))) then ((f186 k fam v109 v106 v107).bind fun r114 => (some r114)) else (if (v108 == (0:Int)) then ((f187 k fam v109 v106 v107).bind fun r118 => (some r118)) else (if (!v110) then ((f188 k fam v109 v106 v107).bind fun r153 => (f142.j124 k fam v106 v107 v110 v111 self ((f142.l1 k fam self) m1) ((IntKind.i64.wrap (v108 - (1:Int))),r153))) else (f142.j124 k fam v106 v107 v110 v111 self ((f142.l1 k fam self) m1) (v108,v109))))
def f142:Nat→Fam → (Array Nat)→Int→Int→Int→Option (Array Nat)
 | 0,_,_,_,_,_ => none
 | k+1,fam,X,x1,x2,x3 => f142.l1 k fam (f142 k) k (x1,x2,x3,X,true,true)
theorem c142 (k:Nat) {lv sv:Value} (fam:Fam) (X:(Array Nat)) (x1:Int) (x2:Int) (x3:Int) (fo:FamOk Try.prog lv sv fam) (r:(Array Nat)) (hF:f142 k fam X x1 x2 x3=some r):PMut Try.prog 142 [⟨sh1,((lv,(fam,X)),sv)⟩,⟨iS,x1⟩,⟨iS,x2⟩,⟨iS,x3⟩] [] (List.set [⟨sh1,((lv,(fam,X)),sv)⟩,⟨iS,x1⟩,⟨iS,x2⟩,⟨iS,x3⟩] 0 ⟨sh1,((lv,(fam,r)),sv)⟩):=by
 revert X x1 x2 x3 r hF
 induction k with
 | zero => intro X x1 x2 x3 r hF; cases hF
 | succ k hself =>
   intro X x1 x2 x3 r hF
   refine pmut_intro (j:=0) (fin:=⟨sh1,((lv,(fam,r)),sv)⟩) Try.func142 rfl rfl (Nat.le_of_ble_eq_true rfl) (Nat.le_of_ble_eq_true rfl) (by kernel_rfl) ?_
   intro w0 Zi f0 v0 a w h
   rw [f142] at hF
   generalize f142 k=self at hself hF
   refine wp_reg_seq tok (orc:=o0) (fz:=[]) (l:=[0,1,2,3,4]) (.inl rfl) h (by kernel_rfl) an fun a w h => ?_
   refine wp_reg_seq tok (orc:=o0) (fz:=[]) (l:=[0,1,2,3,4,8]) (.inl rfl) h (by kernel_rfl) an fun a w h => ?_
   refine wp_reg_seq tok (orc:=o0) (fz:=[]) (l:=[0,1,2,3,4,8,9]) (.inl rfl) h (by kernel_rfl) an fun a w h => ?_
   refine wp_block ?_
   refine wp_loop_fuel (f142.l1 k fam self) (fun ((v106,v107,v108,v109,v110,v111):(Int × Int × Int × (Array Nat) × Bool × Bool)) => [(0,.copy 4 [.der]),(1,.val iS v106),(2,.val iS v107),(3,.val iS v108),(4,.val sh0 (some ((lv,(fam,v109)),sv))),(8,.val .bool v110),(9,.val .bool v111)]) (fun v h => by obtain ⟨v106,v107,v108,v109,v110,v111⟩:=v; rw [f142.l1] at h; cases h) ?_ hF (h.arrive (fz:=[]) (l:=[0,1,2,3,4,8,9]) (.inl rfl) (by kernel_rfl))
   intro m1 v a w hF h
   obtain ⟨v106,v107,v108,v109,v110,v111⟩:=v
   rw [f142.l1] at hF
   refine wp_block ?_
   refine wp_reg_seq tok (orc:=o0) (fz:=[]) (l:=[0,1,2,3,4,8,9,10]) (.inl rfl) h (by kernel_rfl) an fun a w h => ?_
   refine wp_seq ?_
   refine wp_reg_seq tok (orc:=o0) (fz:=[]) (l:=[0,1,2,3,4,8,9,10,23]) (.inl rfl) h (by kernel_rfl) an fun a w h => ?_
   refine zi h hF (fun hF => ?_) (fun hF => ?_)
   ·obtain ⟨r114,hr115,hF⟩:=of_bind hF
    refine wp_reg_seq tok (orc:=orcL [(27,[⟨.pt false 4294967295 (.st (.pair (.gh true) .raw)),some ((lv,(fam,r114)),sv)⟩])]) (fz:=[]) (l:=[0,4]) (.inl rfl) h (by kernel_rfl) (ac (c186 k fam v109 v106 v107 fo r114 hr115) an) fun a w h => ?_
    cases hF
    exact wp_ret (retMS_ok (d:=4) (t:=198) tok h rfl (by kernel_rfl) (by kernel_rfl)).1
   ·refine wp_skip ?_
    refine wp_seq ?_
    refine wp_reg_seq tok (orc:=o0) (fz:=[]) (l:=[0,1,2,3,4,8,9,10,29]) (.inl rfl) h (by kernel_rfl) an fun a w h => ?_
    refine zi h hF (fun hF => ?_) (fun hF => ?_)
    ·obtain ⟨r118,hr119,hF⟩:=of_bind hF
     refine wp_reg_seq tok (orc:=orcL [(33,[⟨.pt false 4294967295 (.st (.pair (.gh true) .raw)),some ((lv,(fam,r118)),sv)⟩])]) (fz:=[]) (l:=[0,4]) (.inl rfl) h (by kernel_rfl) (ac (c187 k fam v109 v106 v107 fo r118 hr119) an) fun a w h => ?_
     cases hF
     exact wp_ret (retMS_ok (d:=4) (t:=198) tok h rfl (by kernel_rfl) (by kernel_rfl)).1
    ·refine wp_skip ?_
     refine wp_seq ?_
     refine wp_reg_seq tok (orc:=o0) (fz:=[]) (l:=[0,1,2,3,4,8,9,10,35]) (.inl rfl) h (by kernel_rfl) an fun a w h => ?_
     refine wp_midT (fun a w => ∃ v:(Int × (Array Nat)),f142.j124 k fam v106 v107 v110 v111 self ((f142.l1 k fam self) m1) v=some r∧Rel w0 f0 Zi ⟨Try.f142.ntmps,[0],fun _ => v0⟩ ((fun ((v122,v123):(Int × (Array Nat))) => ([(0,.copy 4 [.der]),(1,.val iS v106),(2,.val iS v107),(3,.val iS v122),(4,.val sh0 (some ((lv,(fam,v123)),sv))),(8,.val .bool v110),(9,.val .bool v111),(10,.val iS (w64 (v107 - v106)))]:SS)) v) a w) ?_ ?_
     ·
      refine zi h hF (fun hF => ?_) (fun hF => ?_)
      ·obtain ⟨r153,hr154,hF⟩:=of_bind hF
       refine wp_reg_seq tok (orc:=orcL [(39,[⟨.pt false 4294967295 (.st (.pair (.gh true) .raw)),some ((lv,(fam,r153)),sv)⟩])]) (fz:=[]) (l:=[0,1,2,3,4,8,9,10]) (.inl rfl) h (by kernel_rfl) (ac (c188 k fam v109 v106 v107 fo r153 hr154) an) fun a w h => ?_
       refine wp_reg tok (orc:=o0) (fz:=[]) (l:=[0,1,2,3,4,8,9,10]) (.inl rfl) h (by kernel_rfl) an fun a w h => ?_
       exact ⟨((w64 (v108 - (1:Int))),r153),hF,h.arrive (fz:=[]) (l:=[0,1,2,3,4,8,9,10]) (.inl rfl) (by kernel_rfl)⟩
      ·refine wp_skip ?_
       exact ⟨(v108,v109),hF,h.arrive (fz:=[]) (l:=[0,1,2,3,4,8,9,10]) (.inl rfl) (by kernel_rfl)⟩
     ·rintro a w ⟨v,hF,h⟩
      obtain ⟨v122,v123⟩:=v
      rw [f142.j124] at hF
      obtain ⟨r125,hr152,hF⟩:=of_bind hF
      refine wp_reg_seq tok (orc:=orcL [(46,[⟨iS,r125.1⟩,⟨iS,r125.2⟩])]) (fz:=[]) (l:=[0,1,2,3,4,8,9,10,11,12]) (.inl rfl) h (by kernel_rfl) (ac (c189 k fam v123 v106 v107 fo r125 hr152) an) fun a w h => ?_
      refine wp_seq ?_
      refine wp_reg_seq tok (orc:=o0) (fz:=[]) (l:=[0,1,2,3,4,8,9,10,11,12,50]) (.inl rfl) h (by kernel_rfl) an fun a w h => ?_
      refine wp_midT (fun a w => ∃ v:((Array Nat) × Int × Int),f142.j131 k v110 v111 fam v106 v107 v122 self ((f142.l1 k fam self) m1) v=some r∧Rel w0 f0 Zi ⟨Try.f142.ntmps,[0],fun _ => v0⟩ ((fun ((v128,v129,v130):((Array Nat) × Int × Int)) => ([(0,.copy 4 [.der]),(1,.val iS v106),(2,.val iS v107),(3,.val iS v122),(4,.val sh0 (some ((lv,(fam,v128)),sv))),(8,.val .bool v110),(9,.val .bool v111),(10,.val iS (w64 (v107 - v106))),(11,.val iS v129),(12,.val iS v130)]:SS)) v) a w) ?_ ?_
      ·
       refine zi h hF (fun hF => ?_) (fun hF => ?_)
       ·obtain ⟨r150,hr151,hF⟩:=of_bind hF
        refine wp_reg_seq tok (orc:=orcL [(54,[⟨.pt false 4294967295 (.st (.pair (.gh true) .raw)),some ((lv,(fam,r150)),sv)⟩])]) (fz:=[]) (l:=[0,1,2,3,4,8,9,10,11]) (.inl rfl) h (by kernel_rfl) (ac (c190 k fam v123 v106 v107 fo r150 hr151) an) fun a w h => ?_
        refine wp_reg_seq tok (orc:=o0) (fz:=[]) (l:=[0,1,2,3,4,8,9,10,11]) (.inl rfl) h (by kernel_rfl) an fun a w h => ?_
        refine wp_reg tok (orc:=o0) (fz:=[]) (l:=[0,1,2,3,4,8,9,10,11,12]) (.inl rfl) h (by kernel_rfl) an fun a w h => ?_
        exact ⟨(r150,(w64 ((w64 (v107 - (1:Int))) - (w64 (r125.1 - v106)))),(1:Int)),hF,h.arrive (fz:=[]) (l:=[0,1,2,3,4,8,9,10,11,12]) (.inl rfl) (by kernel_rfl)⟩
       ·refine wp_skip ?_
        exact ⟨(v123,r125.1,r125.2),hF,h.arrive (fz:=[]) (l:=[0,1,2,3,4,8,9,10,11,12]) (.inl rfl) (by kernel_rfl)⟩
      ·rintro a w ⟨v,hF,h⟩
       obtain ⟨v128,v129,v130⟩:=v
       rw [f142.j131] at hF
       refine wp_seq ?_
       refine wp_reg_seq tok (orc:=o0) (fz:=[]) (l:=[0,1,2,3,4,8,9,10,11,68]) (.inl rfl) h (by kernel_rfl) an fun a w h => ?_
       refine wp_midT (fun a w => ∃ v:(Array Nat),f142.j135 k v106 v129 fam v107 v122 v110 v111 self ((f142.l1 k fam self) m1) v=some r∧Rel w0 f0 Zi ⟨Try.f142.ntmps,[0],fun _ => v0⟩ ((fun (v134:(Array Nat)) => ([(0,.copy 4 [.der]),(1,.val iS v106),(2,.val iS v107),(3,.val iS v122),(4,.val sh0 (some ((lv,(fam,v134)),sv))),(8,.val .bool v110),(9,.val .bool v111),(10,.val iS (w64 (v107 - v106))),(11,.val iS v129)]:SS)) v) a w) ?_ ?_
       ·
        refine zi h hF (fun hF => ?_) (fun hF => ?_)
        ·obtain ⟨r148,hr149,hF⟩:=of_bind hF
         refine wp_reg_seq tok (orc:=orcL [(72,[⟨.pt false 4294967295 (.st (.pair (.gh true) .raw)),some ((lv,(fam,r148.2)),sv)⟩,⟨.bool,r148.1⟩])]) (fz:=[]) (l:=[0,1,2,3,4,8,9,10,11,72]) (.inl rfl) h (by kernel_rfl) (ac (c191 k fam v128 v106 v107 fo r148 hr149) an) fun a w h => ?_
         refine zi h hF (fun hF => ?_) (fun hF => ?_)
         ·cases hF
          exact wp_ret (retMS_ok (d:=4) (t:=198) tok h rfl (by kernel_rfl) (by kernel_rfl)).1
         ·refine wp_skip ?_
          exact ⟨r148.2,hF,h.arrive (fz:=[]) (l:=[0,1,2,3,4,8,9,10,11]) (.inl rfl) (by kernel_rfl)⟩
        ·refine wp_skip ?_
         exact ⟨v128,hF,h.arrive (fz:=[]) (l:=[0,1,2,3,4,8,9,10,11]) (.inl rfl) (by kernel_rfl)⟩
       ·rintro a w ⟨v134,hF,h⟩
        rw [f142.j135] at hF
        refine wp_seq ?_
        obtain ⟨hc147,hF⟩:=of_if hF
        refine wp_seqX_seq (sxG_ok tok (orc:=o0) (sp:=[(8,.less (lessF fam v134 (w64 (v106 - (1:Int))) v129))])) h (by kernel_rfl) (ac (fun hg => fo.less _ _ _ (hc147 hg)) an) fun a w h => ?_
        replace h:=h.only [0,1,2,3,4,8,9,10,11,83] (by kernel_rfl)
        refine zi h hF (fun hF => ?_) (fun hF => ?_)
        ·obtain ⟨r138,hr139,hF⟩:=of_bind hF
         refine wp_reg_seq tok (orc:=orcL [(88,[⟨.pt false 4294967295 (.st (.pair (.gh true) .raw)),some ((lv,(fam,r138.2)),sv)⟩,⟨iS,r138.1⟩])]) (fz:=[]) (l:=[0,2,3,4,8,9,13]) (.inl rfl) h (by kernel_rfl) (ac (c192 k fam v134 v106 v107 v129 fo r138 hr139) an) fun a w h => ?_
         refine wp_reg_seq tok (orc:=o0) (fz:=[]) (l:=[0,1,2,3,4,8,9]) (.inl rfl) h (by kernel_rfl) an fun a w h => ?_
         refine wp_exit ?_
         exact ⟨(r138.1,v107,v122,r138.2,v110,v111),hF,h.arrive (fz:=[]) (l:=[0,1,2,3,4,8,9]) (.inl rfl) (by kernel_rfl)⟩
        ·refine wp_skip ?_
         obtain ⟨r140,hr146,hF⟩:=of_bind hF
         refine wp_reg_seq tok (orc:=orcL [(95,[⟨.pt false 4294967295 (.st (.pair (.gh true) .raw)),some ((lv,(fam,r140.2.2)),sv)⟩,⟨iS,r140.1⟩,⟨.bool,r140.2.1⟩])]) (fz:=[]) (l:=[0,1,2,3,4,10,14,15]) (.inl rfl) h (by kernel_rfl) (ac (c193 k fam v134 v106 v107 v129 fo r140 hr146) an) fun a w h => ?_
         refine wp_reg_seq tok (orc:=o0) (fz:=[]) (l:=[0,1,2,3,4,9,10,14]) (.inl rfl) h (by kernel_rfl) an fun a w h => ?_
         refine wp_reg_seq tok (orc:=o0) (fz:=[]) (l:=[0,1,2,3,4,9,10,14,16,17]) (.inl rfl) h (by kernel_rfl) an fun a w h => ?_
         obtain ⟨hc145,hF⟩:=of_if hF
         refine wp_reg_seq tok (orc:=o0) (fz:=[]) (l:=[0,1,2,3,4,9,14,16,17,18]) (.inl rfl) h (by kernel_rfl) (ac hc145 an) fun a w h => ?_
         refine wp_reg_seq tok (orc:=o0) (fz:=[]) (l:=[0,1,2,3,4,9,14,16,17,18,109]) (.inl rfl) h (by kernel_rfl) an fun a w h => ?_
         refine zi h hF (fun hF => ?_) (fun hF => ?_)
         ·refine wp_reg_seq tok (orc:=o0) (fz:=[]) (l:=[0,1,2,3,4,8,9,14]) (.inl rfl) h (by kernel_rfl) an fun a w h => ?_
          obtain ⟨r141,hr142,hF⟩:=of_bind hF
          refine wp_reg_seq tok (orc:=orcL [(117,[⟨.pt false 4294967295 (.st (.pair (.gh true) .raw)),some ((lv,(fam,r141)),sv)⟩])]) (fz:=[]) (l:=[0,2,3,4,8,9,14]) (.inl rfl) h (by kernel_rfl) (ac (hself r140.2.2 v106 r140.1 v122 r141 hr142) an) fun a w h => ?_
          refine wp_reg tok (orc:=o0) (fz:=[]) (l:=[0,1,2,3,4,8,9]) (.inl rfl) h (by kernel_rfl) an fun a w h => ?_
          exact ⟨((w64 (r140.1 + (1:Int))),v107,v122,r141,(decide (((w64 (r140.1 - v106)):Int) ≥ (w64 (Int.tdiv (w64 (v107 - v106)) (8:Int))))),r140.2.1),hF,h.arrive (fz:=[]) (l:=[0,1,2,3,4,8,9]) (.inl rfl) (by kernel_rfl)⟩
         ·refine wp_reg_seq tok (orc:=o0) (fz:=[]) (l:=[0,1,2,3,4,8,9,14]) (.inl rfl) h (by kernel_rfl) an fun a w h => ?_
          obtain ⟨r143,hr144,hF⟩:=of_bind hF
          refine wp_reg_seq tok (orc:=orcL [(128,[⟨.pt false 4294967295 (.st (.pair (.gh true) .raw)),some ((lv,(fam,r143)),sv)⟩])]) (fz:=[]) (l:=[0,1,3,4,8,9,14]) (.inl rfl) h (by kernel_rfl) (ac (hself r140.2.2 (w64 (r140.1 + (1:Int))) v107 v122 r143 hr144) an) fun a w h => ?_
          refine wp_reg tok (orc:=o0) (fz:=[]) (l:=[0,1,2,3,4,8,9]) (.inl rfl) h (by kernel_rfl) an fun a w h => ?_
          exact ⟨(v106,r140.1,v122,r143,(decide (((w64 (v107 - r140.1)):Int) ≥ (w64 (Int.tdiv (w64 (v107 - v106)) (8:Int))))),r140.2.1),hF,h.arrive (fz:=[]) (l:=[0,1,2,3,4,8,9]) (.inl rfl) (by kernel_rfl)⟩
def f226.l1 (k:Nat) (x3:Int) (x1:Int) (x2:Int):Nat → ((Array Nat) × Int)→Option (Array Nat)
 | 0,_ => none
 | m1+1,(v12,v13) => if (decide (v13 < x3)) then (if (inX v12 (IntKind.i64.wrap (x1+v13)) (IntKind.i64.wrap (x2+v13))) then ((f226.l1 k x3 x1 x2) m1 ((swpF v12 (IntKind.i64.wrap (x1+v13)) (IntKind.i64.wrap (x2+v13))),(IntKind.i64.wrap (v13 + (1:Int))))) else none) else (some v12)
def f226 (k:Nat) (fam:Fam) (X:(Array Nat)) (x1:Int) (x2:Int) (x3:Int):Option (Array Nat):=f226.l1 k x3 x1 x2 k (X,(0:Int))
theorem c226 (k:Nat) {lv sv:Value} (fam:Fam) (X:(Array Nat)) (x1:Int) (x2:Int) (x3:Int) (fo:FamOk Try.prog lv sv fam) (r:(Array Nat)) (hF:f226 k fam X x1 x2 x3=some r):PMut Try.prog 226 [⟨sh1,((lv,(fam,X)),sv)⟩,⟨iS,x1⟩,⟨iS,x2⟩,⟨iS,x3⟩] [] (List.set [⟨sh1,((lv,(fam,X)),sv)⟩,⟨iS,x1⟩,⟨iS,x2⟩,⟨iS,x3⟩] 0 ⟨sh1,((lv,(fam,r)),sv)⟩):=by
 refine pmut_intro (j:=0) (fin:=⟨sh1,((lv,(fam,r)),sv)⟩) Try.func226 rfl rfl (Nat.le_of_ble_eq_true rfl) (Nat.le_of_ble_eq_true rfl) (by kernel_rfl) ?_
 intro w0 Zi f0 v0 a w h
 rw [f226] at hF
 refine wp_reg_seq tok (orc:=o0) (fz:=[]) (l:=[0,1,2,3,4]) (.inl rfl) h (by kernel_rfl) an fun a w h => ?_
 refine wp_reg_seq tok (orc:=o0) (fz:=[]) (l:=[0,1,2,3,4,8]) (.inl rfl) h (by kernel_rfl) an fun a w h => ?_
 refine wp_block ?_
 refine wp_loop_fuel (f226.l1 k x3 x1 x2) (fun ((v12,v13):((Array Nat) × Int)) => [(0,.copy 4 [.der]),(1,.val iS x1),(2,.val iS x2),(3,.val iS x3),(4,.val sh0 (some ((lv,(fam,v12)),sv))),(8,.val iS v13)]) (fun v h => by obtain ⟨v12,v13⟩:=v; rw [f226.l1] at h; cases h) ?_ hF (h.arrive (fz:=[]) (l:=[0,1,2,3,4,8]) (.inl rfl) (by kernel_rfl))
 intro m1 v a w hF h
 obtain ⟨v12,v13⟩:=v
 rw [f226.l1] at hF
 refine wp_seq ?_
 refine wp_reg_seq tok (orc:=o0) (fz:=[]) (l:=[0,1,2,3,4,8,11]) (.inl rfl) h (by kernel_rfl) an fun a w h => ?_
 refine zi h hF (fun hF => ?_) (fun hF => ?_)
 ·refine wp_skip ?_
  refine wp_seq <| wp_block ?_
  obtain ⟨hc15,hF⟩:=of_if hF
  refine wp_seqX (sxG_ok tok (orc:=o0) (sp:=[(8,.swap (swpF v12 (w64 (x1+v13)) (w64 (x2+v13))))])) h (by kernel_rfl) (ac (fo.swap _ _ _ hc15) an) fun a w h => ?_
  replace h:=h.only [0,1,2,3,4,8] (by kernel_rfl)
  refine wp_reg tok (orc:=o0) (fz:=[]) (l:=[0,1,2,3,4,8]) (.inl rfl) h (by kernel_rfl) an fun a w h => ?_
  exact ⟨((swpF v12 (w64 (x1+v13)) (w64 (x2+v13))),(w64 (v13 + (1:Int)))),hF,h.arrive (fz:=[]) (l:=[0,1,2,3,4,8]) (.inl rfl) (by kernel_rfl)⟩
 ·refine wp_exit ?_
  cases hF
  exact (retMS_ok (d:=4) (t:=198) tok h rfl (by kernel_rfl) (by kernel_rfl)).2
def f220.l26 (k:Nat) (fam:Fam) (x2:Int):Nat → ((Array Nat) × Int × Int)→Option (Array Nat)
 | 0,_ => none
 | m26+1,(v44,v45,v46) => if (v45 != v46) then (if (decide (v45 > v46)) then ((f226 k fam v44 (IntKind.i64.wrap (x2 - v45)) x2 v46).bind fun r47 => ((f220.l26 k fam x2) m26 (r47,(IntKind.i64.wrap (v45 - v46)),v46))) else ((f226 k fam v44 (IntKind.i64.wrap (x2 - v45)) (IntKind.i64.wrap ((IntKind.i64.wrap (x2+v46)) - v45)) v45).bind fun r49 => ((f220.l26 k fam x2) m26 (r49,v45,(IntKind.i64.wrap (v46 - v45)))))) else ((f226 k fam v44 (IntKind.i64.wrap (x2 - v45)) x2 v45).bind fun r51 => (some r51))
def f220 (k:Nat) (fam:Fam) (X:(Array Nat)) (x1:Int) (x2:Int) (x3:Int):Option (Array Nat):=f220.l26 k fam x2 k (X,(IntKind.i64.wrap (x2 - x1)),(IntKind.i64.wrap (x3 - x2)))
theorem c220 (k:Nat) {lv sv:Value} (fam:Fam) (X:(Array Nat)) (x1:Int) (x2:Int) (x3:Int) (fo:FamOk Try.prog lv sv fam) (r:(Array Nat)) (hF:f220 k fam X x1 x2 x3=some r):PMut Try.prog 220 [⟨sh1,((lv,(fam,X)),sv)⟩,⟨iS,x1⟩,⟨iS,x2⟩,⟨iS,x3⟩] [] (List.set [⟨sh1,((lv,(fam,X)),sv)⟩,⟨iS,x1⟩,⟨iS,x2⟩,⟨iS,x3⟩] 0 ⟨sh1,((lv,(fam,r)),sv)⟩):=by
 refine pmut_intro (j:=0) (fin:=⟨sh1,((lv,(fam,r)),sv)⟩) Try.func220 rfl rfl (Nat.le_of_ble_eq_true rfl) (Nat.le_of_ble_eq_true rfl) (by kernel_rfl) ?_
 intro w0 Zi f0 v0 a w h
 rw [f220] at hF
 refine wp_reg_seq tok (orc:=o0) (fz:=[]) (l:=[0,1,2,3,4]) (.inl rfl) h (by kernel_rfl) an fun a w h => ?_
 refine wp_reg_seq tok (orc:=o0) (fz:=[]) (l:=[0,2,3,4,8]) (.inl rfl) h (by kernel_rfl) an fun a w h => ?_
 refine wp_reg_seq tok (orc:=o0) (fz:=[]) (l:=[0,2,4,8,9]) (.inl rfl) h (by kernel_rfl) an fun a w h => ?_
 refine wp_seq <| wp_block ?_
 refine wp_loop_fuel (f220.l26 k fam x2) (fun ((v44,v45,v46):((Array Nat) × Int × Int)) => [(0,.copy 4 [.der]),(2,.val iS x2),(4,.val sh0 (some ((lv,(fam,v44)),sv))),(8,.val iS v45),(9,.val iS v46)]) (fun v h => by obtain ⟨v44,v45,v46⟩:=v; rw [f220.l26] at h; cases h) ?_ hF (h.arrive (fz:=[]) (l:=[0,2,4,8,9]) (.inl rfl) (by kernel_rfl))
 intro m26 v a w hF h
 obtain ⟨v44,v45,v46⟩:=v
 rw [f220.l26] at hF
 refine wp_seq ?_
 refine wp_reg_seq tok (orc:=o0) (fz:=[]) (l:=[0,2,4,8,9,18]) (.inl rfl) h (by kernel_rfl) an fun a w h => ?_
 refine zi h hF (fun hF => ?_) (fun hF => ?_)
 ·refine wp_skip ?_
  refine wp_block ?_
  refine wp_reg_seq tok (orc:=o0) (fz:=[]) (l:=[0,2,4,8,9,21]) (.inl rfl) h (by kernel_rfl) an fun a w h => ?_
  refine zi h hF (fun hF => ?_) (fun hF => ?_)
  ·obtain ⟨r47,hr48,hF⟩:=of_bind hF
   refine wp_reg_seq tok (orc:=orcL [(28,[⟨.pt false 4294967295 (.st (.pair (.gh true) .raw)),some ((lv,(fam,r47)),sv)⟩])]) (fz:=[]) (l:=[0,2,4,8,9]) (.inl rfl) h (by kernel_rfl) (ac (c226 k fam v44 (w64 (x2 - v45)) x2 v46 fo r47 hr48) an) fun a w h => ?_
   refine wp_reg tok (orc:=o0) (fz:=[]) (l:=[0,2,4,8,9]) (.inl rfl) h (by kernel_rfl) an fun a w h => ?_
   exact ⟨(r47,(w64 (v45 - v46)),v46),hF,h.arrive (fz:=[]) (l:=[0,2,4,8,9]) (.inl rfl) (by kernel_rfl)⟩
  ·obtain ⟨r49,hr50,hF⟩:=of_bind hF
   refine wp_reg_seq tok (orc:=orcL [(42,[⟨.pt false 4294967295 (.st (.pair (.gh true) .raw)),some ((lv,(fam,r49)),sv)⟩])]) (fz:=[]) (l:=[0,2,4,8,9]) (.inl rfl) h (by kernel_rfl) (ac (c226 k fam v44 (w64 (x2 - v45)) (w64 ((w64 (x2+v46)) - v45)) v45 fo r49 hr50) an) fun a w h => ?_
   refine wp_reg tok (orc:=o0) (fz:=[]) (l:=[0,2,4,8,9]) (.inl rfl) h (by kernel_rfl) an fun a w h => ?_
   exact ⟨(r49,v45,(w64 (v46 - v45))),hF,h.arrive (fz:=[]) (l:=[0,2,4,8,9]) (.inl rfl) (by kernel_rfl)⟩
 ·refine wp_exit ?_
  obtain ⟨r51,hr52,hF⟩:=of_bind hF
  refine wp_reg tok (orc:=orcL [(52,[⟨.pt false 4294967295 (.st (.pair (.gh true) .raw)),some ((lv,(fam,r51)),sv)⟩])]) (fz:=[]) (l:=[0,4]) (.inl rfl) h (by kernel_rfl) (ac (c226 k fam v44 (w64 (x2 - v45)) x2 v45 fo r51 hr52) an) fun a w h => ?_
  cases hF
  exact (retMS_ok (d:=4) (t:=198) tok h rfl (by kernel_rfl) (by kernel_rfl)).2
def f200.l106 (k:Nat) (v87:Int):Nat → ((Array Nat) × Int)→Option (Array Nat)
 | 0,_ => none
 | m106+1,(v117,v118) => if (decide (v118 < (IntKind.i64.wrap (v87 - (1:Int))))) then (if (inX v117 v118 (IntKind.i64.wrap (v118 + (1:Int)))) then ((f200.l106 k v87) m106 ((swpF v117 v118 (IntKind.i64.wrap (v118 + (1:Int)))),(IntKind.i64.wrap (v118 + (1:Int))))) else none) else (some v117)
def f200.l76 (k:Nat) (X:(Array Nat)) (x1:Int) (fam:Fam):Nat → (Int × Int)→Option (Array Nat)
 | 0,_ => none
 | m76+1,(v87,v88) => if (decide (v87 < v88)) then (if ((0:Int) ≤ (1:Int)) then (if (inX X (IntKind.i64.wrap (Int.fdiv (IntKind.u64.wrap (IntKind.i64.wrap (v87+v88))) (2 ^ (min (Int.toNat (1:Int)) IntKind.u64.bits)))) x1) then (if (lessF fam X (IntKind.i64.wrap (Int.fdiv (IntKind.u64.wrap (IntKind.i64.wrap (v87+v88))) (2 ^ (min (Int.toNat (1:Int)) IntKind.u64.bits)))) x1) then ((f200.l76 k X x1 fam) m76 ((IntKind.i64.wrap ((IntKind.i64.wrap (Int.fdiv (IntKind.u64.wrap (IntKind.i64.wrap (v87+v88))) (2 ^ (min (Int.toNat (1:Int)) IntKind.u64.bits)))) + (1:Int))),v88)) else ((f200.l76 k X x1 fam) m76 (v87,(IntKind.i64.wrap (Int.fdiv (IntKind.u64.wrap (IntKind.i64.wrap (v87+v88))) (2 ^ (min (Int.toNat (1:Int)) IntKind.u64.bits))))))) else none) else none) else (f200.l106 k v87 k (X,x1))
def f200.l226 (k:Nat) (v207:Int):Nat → ((Array Nat) × Int)→Option (Array Nat)
 | 0,_ => none
 | m226+1,(v237,v238) => if (decide (v238 > v207)) then (if (inX v237 v238 (IntKind.i64.wrap (v238 - (1:Int)))) then ((f200.l226 k v207) m226 ((swpF v237 v238 (IntKind.i64.wrap (v238 - (1:Int)))),(IntKind.i64.wrap (v238 - (1:Int))))) else none) else (some v237)
def f200.l196 (k:Nat) (X:(Array Nat)) (x2:Int) (fam:Fam):Nat → (Int × Int)→Option (Array Nat)
 | 0,_ => none
 | m196+1,(v207,v208) => if (decide (v207 < v208)) then (if ((0:Int) ≤ (1:Int)) then (if (inX X x2 (IntKind.i64.wrap (Int.fdiv (IntKind.u64.wrap (IntKind.i64.wrap (v207+v208))) (2 ^ (min (Int.toNat (1:Int)) IntKind.u64.bits))))) then (if (!(lessF fam X x2 (IntKind.i64.wrap (Int.fdiv (IntKind.u64.wrap (IntKind.i64.wrap (v207+v208))) (2 ^ (min (Int.toNat (1:Int)) IntKind.u64.bits)))))) then ((f200.l196 k X x2 fam) m196 ((IntKind.i64.wrap ((IntKind.i64.wrap (Int.fdiv (IntKind.u64.wrap (IntKind.i64.wrap (v207+v208))) (2 ^ (min (Int.toNat (1:Int)) IntKind.u64.bits)))) + (1:Int))),v208)) else ((f200.l196 k X x2 fam) m196 (v207,(IntKind.i64.wrap (Int.fdiv (IntKind.u64.wrap (IntKind.i64.wrap (v207+v208))) (2 ^ (min (Int.toNat (1:Int)) IntKind.u64.bits))))))) else none) else none) else (f200.l226 k v207 k (X,x2))
def f200.j281 (k:Nat) (x1:Int) (x3:Int) (x2:Int) (v270:Int) (self:(Fam → (Array Nat)→Int→Int→Int→Option (Array Nat))) (fam:Fam):(Array Nat)→Option (Array Nat)
 | v280 => (some ((bif (decide (((IntKind.i64.wrap (Int.fdiv (IntKind.u64.wrap (IntKind.i64.wrap (x1+x3))) (2 ^ (min (Int.toNat (1:Int)) IntKind.u64.bits)))):Int) < (IntKind.i64.wrap ((IntKind.i64.wrap ((IntKind.i64.wrap (Int.fdiv (IntKind.u64.wrap (IntKind.i64.wrap (x1+x3))) (2 ^ (min (Int.toNat (1:Int)) IntKind.u64.bits))))+x2)) - v270)))) then (decide (((IntKind.i64.wrap ((IntKind.i64.wrap ((IntKind.i64.wrap (Int.fdiv (IntKind.u64.wrap (IntKind.i64.wrap (x1+x3))) (2 ^ (min (Int.toNat (1:Int)) IntKind.u64.bits))))+x2)) - v270)):Int) < x3)) else false):Bool)).bind fun v282 => (if v282 then ((self fam v280 (IntKind.i64.wrap (Int.fdiv (IntKind.u64.wrap (IntKind.i64.wrap (x1+x3))) (2 ^ (min (Int.toNat (1:Int)) IntKind.u64.bits)))) (IntKind.i64.wrap ((IntKind.i64.wrap ((IntKind.i64.wrap (Int.fdiv (IntKind.u64.wrap (IntKind.i64.wrap (x1+x3))) (2 ^ (min (Int.toNat (1:Int)) IntKind.u64.bits))))+x2)) - v270)) x3).bind fun r283 => (some r283)) else (some v280))
def f200.j277 (k:Nat) (x1:Int) (v270:Int) (x3:Int) (self:(Fam → (Array Nat)→Int→Int→Int→Option (Array Nat))) (fam:Fam) (x2:Int):(Array Nat)→Option (Array Nat)
 | v276 => if (bif (decide (x1 < v270)) then (decide (v270 < (IntKind.i64.wrap (Int.fdiv (IntKind.u64.wrap (IntKind.i64.wrap (x1+x3))) (2 ^ (min (Int.toNat (1:Int)) IntKind.u64.bits)))))) else false) then ((self fam v276 x1 v270 (IntKind.i64.wrap (Int.fdiv (IntKind.u64.wrap (IntKind.i64.wrap (x1+x3))) (2 ^ (min (Int.toNat (1:Int)) IntKind.u64.bits))))).bind fun r286 => (f200.j281 k x1 x3 x2 v270 self fam r286)) else (f200.j281 k x1 x3 x2 v270 self fam v276)
def f200.l259 (k:Nat) (X:(Array Nat)) (x1:Int) (x3:Int) (x2:Int) (fam:Fam) (self:(Fam → (Array Nat)→Int→Int→Int→Option (Array Nat))):Nat → (Int × Int)→Option (Array Nat)
 | 0,_ => none
 | m259+1,(v270,v271) => if (decide (v270 < v271)) then (if ((0:Int) ≤ (1:Int)) then (if (inX X (IntKind.i64.wrap ((IntKind.i64.wrap ((IntKind.i64.wrap ((IntKind.i64.wrap (Int.fdiv (IntKind.u64.wrap (IntKind.i64.wrap (x1+x3))) (2 ^ (min (Int.toNat (1:Int)) IntKind.u64.bits))))+x2)) - (1:Int))) - (IntKind.i64.wrap (Int.fdiv (IntKind.u64.wrap (IntKind.i64.wrap (v270+v271))) (2 ^ (min (Int.toNat (1:Int)) IntKind.u64.bits)))))) (IntKind.i64.wrap (Int.fdiv (IntKind.u64.wrap (IntKind.i64.wrap (v270+v271))) (2 ^ (min (Int.toNat (1:Int)) IntKind.u64.bits))))) then (if (!(lessF fam X (IntKind.i64.wrap ((IntKind.i64.wrap ((IntKind.i64.wrap ((IntKind.i64.wrap (Int.fdiv (IntKind.u64.wrap (IntKind.i64.wrap (x1+x3))) (2 ^ (min (Int.toNat (1:Int)) IntKind.u64.bits))))+x2)) - (1:Int))) - (IntKind.i64.wrap (Int.fdiv (IntKind.u64.wrap (IntKind.i64.wrap (v270+v271))) (2 ^ (min (Int.toNat (1:Int)) IntKind.u64.bits)))))) (IntKind.i64.wrap (Int.fdiv (IntKind.u64.wrap (IntKind.i64.wrap (v270+v271))) (2 ^ (min (Int.toNat (1:Int)) IntKind.u64.bits)))))) then ((f200.l259 k X x1 x3 x2 fam self) m259 ((IntKind.i64.wrap ((IntKind.i64.wrap (Int.fdiv (IntKind.u64.wrap (IntKind.i64.wrap (v270+v271))) (2 ^ (min (Int.toNat (1:Int)) IntKind.u64.bits)))) + (1:Int))),v271)) else ((f200.l259 k X x1 x3 x2 fam self) m259 (v270,(IntKind.i64.wrap (Int.fdiv (IntKind.u64.wrap (IntKind.i64.wrap (v270+v271))) (2 ^ (min (Int.toNat (1:Int)) IntKind.u64.bits))))))) else none) else none) else (if (bif (decide (v270 < x2)) then (decide (x2 < (IntKind.i64.wrap ((IntKind.i64.wrap ((IntKind.i64.wrap (Int.fdiv (IntKind.u64.wrap (IntKind.i64.wrap (x1+x3))) (2 ^ (min (Int.toNat (1:Int)) IntKind.u64.bits))))+x2)) - v270)))) else false) then ((f220 k fam X v270 x2 (IntKind.i64.wrap ((IntKind.i64.wrap ((IntKind.i64.wrap (Int.fdiv (IntKind.u64.wrap (IntKind.i64.wrap (x1+x3))) (2 ^ (min (Int.toNat (1:Int)) IntKind.u64.bits))))+x2)) - v270))).bind fun r288 => (f200.j277 k x1 v270 x3 self fam x2 r288)) else (f200.j277 k x1 v270 x3 self fam x2 X))
def f200.j243 (k:Nat) (X:(Array Nat)) (x1:Int) (x3:Int) (x2:Int) (fam:Fam) (self:(Fam → (Array Nat)→Int→Int→Int→Option (Array Nat))):(Int × Int)→Option (Array Nat)
 | (v241,v242) => f200.l259 k X x1 x3 x2 fam self k (v241,v242)
def f200:Nat→Fam → (Array Nat)→Int→Int→Int→Option (Array Nat)
 | 0,_,_,_,_,_ => none
 | k+1,fam,X,x1,x2,x3 => if (((IntKind.i64.wrap (x2 - x1)):Int) == (1:Int)) then (f200.l76 k X x1 fam k (x2,x3)) else (if (((IntKind.i64.wrap (x3 - x2)):Int) == (1:Int)) then (f200.l196 k X x2 fam k (x1,x2)) else (if ((0:Int) ≤ (1:Int)) then (if (decide (x2 > (IntKind.i64.wrap (Int.fdiv (IntKind.u64.wrap (IntKind.i64.wrap (x1+x3))) (2 ^ (min (Int.toNat (1:Int)) IntKind.u64.bits)))))) then (f200.j243 k X x1 x3 x2 fam (f200 k) ((IntKind.i64.wrap ((IntKind.i64.wrap ((IntKind.i64.wrap (Int.fdiv (IntKind.u64.wrap (IntKind.i64.wrap (x1+x3))) (2 ^ (min (Int.toNat (1:Int)) IntKind.u64.bits))))+x2)) - x3)),(IntKind.i64.wrap (Int.fdiv (IntKind.u64.wrap (IntKind.i64.wrap (x1+x3))) (2 ^ (min (Int.toNat (1:Int)) IntKind.u64.bits)))))) else (f200.j243 k X x1 x3 x2 fam (f200 k) (x1,x2))) else none))
theorem c200 (k:Nat) {lv sv:Value} (fam:Fam) (X:(Array Nat)) (x1:Int) (x2:Int) (x3:Int) (fo:FamOk Try.prog lv sv fam) (r:(Array Nat)) (hF:f200 k fam X x1 x2 x3=some r):PMut Try.prog 200 [⟨sh1,((lv,(fam,X)),sv)⟩,⟨iS,x1⟩,⟨iS,x2⟩,⟨iS,x3⟩] [] (List.set [⟨sh1,((lv,(fam,X)),sv)⟩,⟨iS,x1⟩,⟨iS,x2⟩,⟨iS,x3⟩] 0 ⟨sh1,((lv,(fam,r)),sv)⟩):=by
 revert X x1 x2 x3 r hF
 induction k with
 | zero => intro X x1 x2 x3 r hF; cases hF
 | succ k hself =>
   intro X x1 x2 x3 r hF
   refine pmut_intro (j:=0) (fin:=⟨sh1,((lv,(fam,r)),sv)⟩) Try.func200 rfl rfl (Nat.le_of_ble_eq_true rfl) (Nat.le_of_ble_eq_true rfl) (by kernel_rfl) ?_
   intro w0 Zi f0 v0 a w h
   rw [f200] at hF
   generalize f200 k=self at hself hF
   refine wp_reg_seq tok (orc:=o0) (fz:=[]) (l:=[0,1,2,3,4]) (.inl rfl) h (by kernel_rfl) an fun a w h => ?_
   refine wp_seq ?_
   refine wp_reg_seq tok (orc:=o0) (fz:=[]) (l:=[0,1,2,3,4,26]) (.inl rfl) h (by kernel_rfl) an fun a w h => ?_
   refine zi h hF (fun hF => ?_) (fun hF => ?_)
   ·refine wp_reg_seq tok (orc:=o0) (fz:=[]) (l:=[0,1,3,4,8]) (.inl rfl) h (by kernel_rfl) an fun a w h => ?_
    refine wp_reg_seq tok (orc:=o0) (fz:=[]) (l:=[0,1,4,8,9]) (.inl rfl) h (by kernel_rfl) an fun a w h => ?_
    refine wp_seq <| wp_block ?_
    refine wp_loop_fuel (f200.l76 k X x1 fam) (fun ((v87,v88):(Int × Int)) => [(0,.copy 4 [.der]),(1,.val iS x1),(4,.val sh0 (some ((lv,(fam,X)),sv))),(8,.val iS v87),(9,.val iS v88)]) (fun v h => by obtain ⟨v87,v88⟩:=v; rw [f200.l76] at h; cases h) ?_ hF (h.arrive (fz:=[]) (l:=[0,1,4,8,9]) (.inl rfl) (by kernel_rfl))
    intro m76 v a w hF h
    obtain ⟨v87,v88⟩:=v
    rw [f200.l76] at hF
    refine wp_seq ?_
    refine wp_reg_seq tok (orc:=o0) (fz:=[]) (l:=[0,1,4,8,9,31]) (.inl rfl) h (by kernel_rfl) an fun a w h => ?_
    refine zi h hF (fun hF => ?_) (fun hF => ?_)
    ·refine wp_skip ?_
     refine wp_block ?_
     obtain ⟨hc90,hF⟩:=of_if hF
     refine wp_reg_seq tok (orc:=o0) (fz:=[]) (l:=[0,1,4,8,9,10]) (.inl rfl) h (by kernel_rfl) (ac hc90 an) fun a w h => ?_
     obtain ⟨hc89,hF⟩:=of_if hF
     refine wp_seqX_seq (sxG_ok tok (orc:=o0) (sp:=[(4,.less (lessF fam X (w64 (Int.fdiv (IntKind.u64.wrap (w64 (v87+v88))) (2 ^ (min (tZ (1:Int)) IntKind.u64.bits)))) x1))])) h (by kernel_rfl) (ac (fo.less _ _ _ hc89) an) fun a w h => ?_
     replace h:=h.only [0,1,4,8,9,10,42] (by kernel_rfl)
     refine zi h hF (fun hF => ?_) (fun hF => ?_)
     ·refine wp_reg tok (orc:=o0) (fz:=[]) (l:=[0,1,4,8,9]) (.inl rfl) h (by kernel_rfl) an fun a w h => ?_
      exact ⟨((w64 ((w64 (Int.fdiv (IntKind.u64.wrap (w64 (v87+v88))) (2 ^ (min (tZ (1:Int)) IntKind.u64.bits)))) + (1:Int))),v88),hF,h.arrive (fz:=[]) (l:=[0,1,4,8,9]) (.inl rfl) (by kernel_rfl)⟩
     ·refine wp_reg tok (orc:=o0) (fz:=[]) (l:=[0,1,4,8,9]) (.inl rfl) h (by kernel_rfl) an fun a w h => ?_
      exact ⟨(v87,(w64 (Int.fdiv (IntKind.u64.wrap (w64 (v87+v88))) (2 ^ (min (tZ (1:Int)) IntKind.u64.bits))))),hF,h.arrive (fz:=[]) (l:=[0,1,4,8,9]) (.inl rfl) (by kernel_rfl)⟩
    ·refine wp_exit ?_
     refine wp_seq ?_
     refine wp_reg_seq tok (orc:=o0) (fz:=[]) (l:=[0,4,8,11]) (.inl rfl) h (by kernel_rfl) an fun a w h => ?_
     refine wp_block ?_
     refine wp_loop_fuel (f200.l106 k v87) (fun ((v117,v118):((Array Nat) × Int)) => [(0,.copy 4 [.der]),(4,.val sh0 (some ((lv,(fam,v117)),sv))),(8,.val iS v87),(11,.val iS v118)]) (fun v h => by obtain ⟨v117,v118⟩:=v; rw [f200.l106] at h; cases h) ?_ hF (h.arrive (fz:=[]) (l:=[0,4,8,11]) (.inl rfl) (by kernel_rfl))
     intro m106 v a w hF h
     obtain ⟨v117,v118⟩:=v
     rw [f200.l106] at hF
     refine wp_seq ?_
     refine wp_reg_seq tok (orc:=o0) (fz:=[]) (l:=[0,4,8,11,50]) (.inl rfl) h (by kernel_rfl) an fun a w h => ?_
     refine zi h hF (fun hF => ?_) (fun hF => ?_)
     ·refine wp_skip ?_
      refine wp_seq <| wp_block ?_
      obtain ⟨hc120,hF⟩:=of_if hF
      refine wp_seqX (sxG_ok tok (orc:=o0) (sp:=[(5,.swap (swpF v117 v118 (w64 (v118 + (1:Int)))))])) h (by kernel_rfl) (ac (fo.swap _ _ _ hc120) an) fun a w h => ?_
      replace h:=h.only [0,4,8,11] (by kernel_rfl)
      refine wp_reg tok (orc:=o0) (fz:=[]) (l:=[0,4,8,11]) (.inl rfl) h (by kernel_rfl) an fun a w h => ?_
      exact ⟨((swpF v117 v118 (w64 (v118 + (1:Int)))),(w64 (v118 + (1:Int)))),hF,h.arrive (fz:=[]) (l:=[0,4,8,11]) (.inl rfl) (by kernel_rfl)⟩
     ·refine wp_exit ?_
      cases hF
      exact wp_ret (retMS_ok (d:=4) (t:=198) tok h rfl (by kernel_rfl) (by kernel_rfl)).1
   ·refine wp_skip ?_
    refine wp_seq ?_
    refine wp_reg_seq tok (orc:=o0) (fz:=[]) (l:=[0,1,2,3,4,62]) (.inl rfl) h (by kernel_rfl) an fun a w h => ?_
    refine zi h hF (fun hF => ?_) (fun hF => ?_)
    ·refine wp_reg_seq tok (orc:=o0) (fz:=[]) (l:=[0,2,4,12]) (.inl rfl) h (by kernel_rfl) an fun a w h => ?_
     refine wp_reg_seq tok (orc:=o0) (fz:=[]) (l:=[0,2,4,12,13]) (.inl rfl) h (by kernel_rfl) an fun a w h => ?_
     refine wp_seq <| wp_block ?_
     refine wp_loop_fuel (f200.l196 k X x2 fam) (fun ((v207,v208):(Int × Int)) => [(0,.copy 4 [.der]),(2,.val iS x2),(4,.val sh0 (some ((lv,(fam,X)),sv))),(12,.val iS v207),(13,.val iS v208)]) (fun v h => by obtain ⟨v207,v208⟩:=v; rw [f200.l196] at h; cases h) ?_ hF (h.arrive (fz:=[]) (l:=[0,2,4,12,13]) (.inl rfl) (by kernel_rfl))
     intro m196 v a w hF h
     obtain ⟨v207,v208⟩:=v
     rw [f200.l196] at hF
     refine wp_seq ?_
     refine wp_reg_seq tok (orc:=o0) (fz:=[]) (l:=[0,2,4,12,13,67]) (.inl rfl) h (by kernel_rfl) an fun a w h => ?_
     refine zi h hF (fun hF => ?_) (fun hF => ?_)
     ·refine wp_skip ?_
      refine wp_block ?_
      obtain ⟨hc210,hF⟩:=of_if hF
      refine wp_reg_seq tok (orc:=o0) (fz:=[]) (l:=[0,2,4,12,13,14]) (.inl rfl) h (by kernel_rfl) (ac hc210 an) fun a w h => ?_
      obtain ⟨hc209,hF⟩:=of_if hF
      refine wp_seqX_seq (sxG_ok tok (orc:=o0) (sp:=[(4,.less (lessF fam X x2 (w64 (Int.fdiv (IntKind.u64.wrap (w64 (v207+v208))) (2 ^ (min (tZ (1:Int)) IntKind.u64.bits))))))])) h (by kernel_rfl) (ac (fo.less _ _ _ hc209) an) fun a w h => ?_
      replace h:=h.only [0,2,4,12,13,14,79] (by kernel_rfl)
      refine zi h hF (fun hF => ?_) (fun hF => ?_)
      ·refine wp_reg tok (orc:=o0) (fz:=[]) (l:=[0,2,4,12,13]) (.inl rfl) h (by kernel_rfl) an fun a w h => ?_
       exact ⟨((w64 ((w64 (Int.fdiv (IntKind.u64.wrap (w64 (v207+v208))) (2 ^ (min (tZ (1:Int)) IntKind.u64.bits)))) + (1:Int))),v208),hF,h.arrive (fz:=[]) (l:=[0,2,4,12,13]) (.inl rfl) (by kernel_rfl)⟩
      ·refine wp_reg tok (orc:=o0) (fz:=[]) (l:=[0,2,4,12,13]) (.inl rfl) h (by kernel_rfl) an fun a w h => ?_
       exact ⟨(v207,(w64 (Int.fdiv (IntKind.u64.wrap (w64 (v207+v208))) (2 ^ (min (tZ (1:Int)) IntKind.u64.bits))))),hF,h.arrive (fz:=[]) (l:=[0,2,4,12,13]) (.inl rfl) (by kernel_rfl)⟩
     ·refine wp_exit ?_
      refine wp_seq ?_
      refine wp_reg_seq tok (orc:=o0) (fz:=[]) (l:=[0,4,12,15]) (.inl rfl) h (by kernel_rfl) an fun a w h => ?_
      refine wp_block ?_
      refine wp_loop_fuel (f200.l226 k v207) (fun ((v237,v238):((Array Nat) × Int)) => [(0,.copy 4 [.der]),(4,.val sh0 (some ((lv,(fam,v237)),sv))),(12,.val iS v207),(15,.val iS v238)]) (fun v h => by obtain ⟨v237,v238⟩:=v; rw [f200.l226] at h; cases h) ?_ hF (h.arrive (fz:=[]) (l:=[0,4,12,15]) (.inl rfl) (by kernel_rfl))
      intro m226 v a w hF h
      obtain ⟨v237,v238⟩:=v
      rw [f200.l226] at hF
      refine wp_seq ?_
      refine wp_reg_seq tok (orc:=o0) (fz:=[]) (l:=[0,4,12,15,86]) (.inl rfl) h (by kernel_rfl) an fun a w h => ?_
      refine zi h hF (fun hF => ?_) (fun hF => ?_)
      ·refine wp_skip ?_
       refine wp_seq <| wp_block ?_
       obtain ⟨hc240,hF⟩:=of_if hF
       refine wp_seqX (sxG_ok tok (orc:=o0) (sp:=[(5,.swap (swpF v237 v238 (w64 (v238 - (1:Int)))))])) h (by kernel_rfl) (ac (fo.swap _ _ _ hc240) an) fun a w h => ?_
       replace h:=h.only [0,4,12,15] (by kernel_rfl)
       refine wp_reg tok (orc:=o0) (fz:=[]) (l:=[0,4,12,15]) (.inl rfl) h (by kernel_rfl) an fun a w h => ?_
       exact ⟨((swpF v237 v238 (w64 (v238 - (1:Int)))),(w64 (v238 - (1:Int)))),hF,h.arrive (fz:=[]) (l:=[0,4,12,15]) (.inl rfl) (by kernel_rfl)⟩
      ·refine wp_exit ?_
       cases hF
       exact wp_ret (retMS_ok (d:=4) (t:=198) tok h rfl (by kernel_rfl) (by kernel_rfl)).1
    ·refine wp_skip ?_
     obtain ⟨hc290,hF⟩:=of_if hF
     refine wp_reg_seq tok (orc:=o0) (fz:=[]) (l:=[0,1,2,3,4,16]) (.inl rfl) h (by kernel_rfl) (ac hc290 an) fun a w h => ?_
     refine wp_reg_seq tok (orc:=o0) (fz:=[]) (l:=[0,1,2,3,4,16,17]) (.inl rfl) h (by kernel_rfl) an fun a w h => ?_
     refine wp_reg_seq tok (orc:=o0) (fz:=[]) (l:=[0,1,2,3,4,16,17]) (.inl rfl) h (by kernel_rfl) an fun a w h => ?_
     refine wp_seq ?_
     refine wp_reg_seq tok (orc:=o0) (fz:=[]) (l:=[0,1,2,3,4,16,17,106]) (.inl rfl) h (by kernel_rfl) an fun a w h => ?_
     refine wp_midT (fun a w => ∃ v:(Int × Int),f200.j243 k X x1 x3 x2 fam self v=some r∧Rel w0 f0 Zi ⟨Try.f200.ntmps,[0],fun _ => v0⟩ ((fun ((v241,v242):(Int × Int)) => ([(0,.copy 4 [.der]),(1,.val iS x1),(2,.val iS x2),(3,.val iS x3),(4,.val sh0 (some ((lv,(fam,X)),sv))),(16,.val iS (w64 (Int.fdiv (IntKind.u64.wrap (w64 (x1+x3))) (2 ^ (min (tZ (1:Int)) IntKind.u64.bits))))),(17,.val iS (w64 ((w64 (Int.fdiv (IntKind.u64.wrap (w64 (x1+x3))) (2 ^ (min (tZ (1:Int)) IntKind.u64.bits))))+x2))),(18,.val iS v241),(19,.val iS v242)]:SS)) v) a w) ?_ ?_
     ·
      refine zi h hF (fun hF => ?_) (fun hF => ?_)
      ·refine wp_reg_seq tok (orc:=o0) (fz:=[]) (l:=[0,1,2,3,4,16,17,18]) (.inl rfl) h (by kernel_rfl) an fun a w h => ?_
       refine wp_reg tok (orc:=o0) (fz:=[]) (l:=[0,1,2,3,4,16,17,18,19]) (.inl rfl) h (by kernel_rfl) an fun a w h => ?_
       exact ⟨((w64 ((w64 ((w64 (Int.fdiv (IntKind.u64.wrap (w64 (x1+x3))) (2 ^ (min (tZ (1:Int)) IntKind.u64.bits))))+x2)) - x3)),(w64 (Int.fdiv (IntKind.u64.wrap (w64 (x1+x3))) (2 ^ (min (tZ (1:Int)) IntKind.u64.bits))))),hF,h.arrive (fz:=[]) (l:=[0,1,2,3,4,16,17,18,19]) (.inl rfl) (by kernel_rfl)⟩
      ·refine wp_reg_seq tok (orc:=o0) (fz:=[]) (l:=[0,1,2,3,4,16,17,18]) (.inl rfl) h (by kernel_rfl) an fun a w h => ?_
       refine wp_reg tok (orc:=o0) (fz:=[]) (l:=[0,1,2,3,4,16,17,18,19]) (.inl rfl) h (by kernel_rfl) an fun a w h => ?_
       exact ⟨(x1,x2),hF,h.arrive (fz:=[]) (l:=[0,1,2,3,4,16,17,18,19]) (.inl rfl) (by kernel_rfl)⟩
     ·rintro a w ⟨v,hF,h⟩
      obtain ⟨v241,v242⟩:=v
      rw [f200.j243] at hF
      refine wp_reg_seq tok (orc:=o0) (fz:=[]) (l:=[0,1,2,3,4,16,17,18,19,20]) (.inl rfl) h (by kernel_rfl) an fun a w h => ?_
      refine wp_seq <| wp_block ?_
      refine wp_loop_fuel (f200.l259 k X x1 x3 x2 fam self) (fun ((v270,v271):(Int × Int)) => [(0,.copy 4 [.der]),(1,.val iS x1),(2,.val iS x2),(3,.val iS x3),(4,.val sh0 (some ((lv,(fam,X)),sv))),(16,.val iS (w64 (Int.fdiv (IntKind.u64.wrap (w64 (x1+x3))) (2 ^ (min (tZ (1:Int)) IntKind.u64.bits))))),(17,.val iS (w64 ((w64 (Int.fdiv (IntKind.u64.wrap (w64 (x1+x3))) (2 ^ (min (tZ (1:Int)) IntKind.u64.bits))))+x2))),(18,.val iS v270),(19,.val iS v271),(20,.val iS (w64 ((w64 ((w64 (Int.fdiv (IntKind.u64.wrap (w64 (x1+x3))) (2 ^ (min (tZ (1:Int)) IntKind.u64.bits))))+x2)) - (1:Int))))]) (fun v h => by obtain ⟨v270,v271⟩:=v; rw [f200.l259] at h; cases h) ?_ hF (h.arrive (fz:=[]) (l:=[0,1,2,3,4,16,17,18,19,20]) (.inl rfl) (by kernel_rfl))
      intro m259 v a w hF h
      obtain ⟨v270,v271⟩:=v
      rw [f200.l259] at hF
      refine wp_seq ?_
      refine wp_reg_seq tok (orc:=o0) (fz:=[]) (l:=[0,1,2,3,4,16,17,18,19,20,117]) (.inl rfl) h (by kernel_rfl) an fun a w h => ?_
      refine zi h hF (fun hF => ?_) (fun hF => ?_)
      ·refine wp_skip ?_
       refine wp_block ?_
       obtain ⟨hc273,hF⟩:=of_if hF
       refine wp_reg_seq tok (orc:=o0) (fz:=[]) (l:=[0,1,2,3,4,16,17,18,19,20,21]) (.inl rfl) h (by kernel_rfl) (ac hc273 an) fun a w h => ?_
       obtain ⟨hc272,hF⟩:=of_if hF
       refine wp_seqX_seq (sxG_ok tok (orc:=o0) (sp:=[(6,.less (lessF fam X (w64 ((w64 ((w64 ((w64 (Int.fdiv (IntKind.u64.wrap (w64 (x1+x3))) (2 ^ (min (tZ (1:Int)) IntKind.u64.bits))))+x2)) - (1:Int))) - (w64 (Int.fdiv (IntKind.u64.wrap (w64 (v270+v271))) (2 ^ (min (tZ (1:Int)) IntKind.u64.bits)))))) (w64 (Int.fdiv (IntKind.u64.wrap (w64 (v270+v271))) (2 ^ (min (tZ (1:Int)) IntKind.u64.bits))))))])) h (by kernel_rfl) (ac (fo.less _ _ _ hc272) an) fun a w h => ?_
       replace h:=h.only [0,1,2,3,4,16,17,18,19,20,21,131] (by kernel_rfl)
       refine zi h hF (fun hF => ?_) (fun hF => ?_)
       ·refine wp_reg tok (orc:=o0) (fz:=[]) (l:=[0,1,2,3,4,16,17,18,19,20]) (.inl rfl) h (by kernel_rfl) an fun a w h => ?_
        exact ⟨((w64 ((w64 (Int.fdiv (IntKind.u64.wrap (w64 (v270+v271))) (2 ^ (min (tZ (1:Int)) IntKind.u64.bits)))) + (1:Int))),v271),hF,h.arrive (fz:=[]) (l:=[0,1,2,3,4,16,17,18,19,20]) (.inl rfl) (by kernel_rfl)⟩
       ·refine wp_reg tok (orc:=o0) (fz:=[]) (l:=[0,1,2,3,4,16,17,18,19,20]) (.inl rfl) h (by kernel_rfl) an fun a w h => ?_
        exact ⟨(v270,(w64 (Int.fdiv (IntKind.u64.wrap (w64 (v270+v271))) (2 ^ (min (tZ (1:Int)) IntKind.u64.bits))))),hF,h.arrive (fz:=[]) (l:=[0,1,2,3,4,16,17,18,19,20]) (.inl rfl) (by kernel_rfl)⟩
      ·refine wp_exit ?_
       refine wp_reg_seq tok (orc:=o0) (fz:=[]) (l:=[0,1,2,3,4,16,18,22]) (.inl rfl) h (by kernel_rfl) an fun a w h => ?_
       refine wp_seq ?_
       refine wp_reg_seq tok (orc:=o0) (fz:=[]) (l:=[0,1,2,3,4,16,18,22,145]) (.inl rfl) h (by kernel_rfl) an fun a w h => ?_
       refine wp_midT (fun a w => ∃ v:(Array Nat),f200.j277 k x1 v270 x3 self fam x2 v=some r∧Rel w0 f0 Zi ⟨Try.f200.ntmps,[0],fun _ => v0⟩ ((fun (v276:(Array Nat)) => ([(0,.copy 4 [.der]),(1,.val iS x1),(3,.val iS x3),(4,.val sh0 (some ((lv,(fam,v276)),sv))),(16,.val iS (w64 (Int.fdiv (IntKind.u64.wrap (w64 (x1+x3))) (2 ^ (min (tZ (1:Int)) IntKind.u64.bits))))),(18,.val iS v270),(22,.val iS (w64 ((w64 ((w64 (Int.fdiv (IntKind.u64.wrap (w64 (x1+x3))) (2 ^ (min (tZ (1:Int)) IntKind.u64.bits))))+x2)) - v270)))]:SS)) v) a w) ?_ ?_
       ·
        refine zi h hF (fun hF => ?_) (fun hF => ?_)
        ·obtain ⟨r288,hr289,hF⟩:=of_bind hF
         refine wp_reg tok (orc:=orcL [(150,[⟨.pt false 4294967295 (.st (.pair (.gh true) .raw)),some ((lv,(fam,r288)),sv)⟩])]) (fz:=[]) (l:=[0,1,3,4,16,18,22]) (.inl rfl) h (by kernel_rfl) (ac (c220 k fam X v270 x2 (w64 ((w64 ((w64 (Int.fdiv (IntKind.u64.wrap (w64 (x1+x3))) (2 ^ (min (tZ (1:Int)) IntKind.u64.bits))))+x2)) - v270)) fo r288 hr289) an) fun a w h => ?_
         exact ⟨r288,hF,h.arrive (fz:=[]) (l:=[0,1,3,4,16,18,22]) (.inl rfl) (by kernel_rfl)⟩
        ·refine wp_skip ?_
         exact ⟨X,hF,h.arrive (fz:=[]) (l:=[0,1,3,4,16,18,22]) (.inl rfl) (by kernel_rfl)⟩
       ·rintro a w ⟨v276,hF,h⟩
        rw [f200.j277] at hF
        refine wp_seq ?_
        refine wp_reg_seq tok (orc:=o0) (fz:=[]) (l:=[0,1,3,4,16,18,22,158]) (.inl rfl) h (by kernel_rfl) an fun a w h => ?_
        refine wp_midT (fun a w => ∃ v:(Array Nat),f200.j281 k x1 x3 x2 v270 self fam v=some r∧Rel w0 f0 Zi ⟨Try.f200.ntmps,[0],fun _ => v0⟩ ((fun (v280:(Array Nat)) => ([(0,.copy 4 [.der]),(3,.val iS x3),(4,.val sh0 (some ((lv,(fam,v280)),sv))),(16,.val iS (w64 (Int.fdiv (IntKind.u64.wrap (w64 (x1+x3))) (2 ^ (min (tZ (1:Int)) IntKind.u64.bits))))),(22,.val iS (w64 ((w64 ((w64 (Int.fdiv (IntKind.u64.wrap (w64 (x1+x3))) (2 ^ (min (tZ (1:Int)) IntKind.u64.bits))))+x2)) - v270)))]:SS)) v) a w) ?_ ?_
        ·
         refine zi h hF (fun hF => ?_) (fun hF => ?_)
         ·obtain ⟨r286,hr287,hF⟩:=of_bind hF
          refine wp_reg tok (orc:=orcL [(163,[⟨.pt false 4294967295 (.st (.pair (.gh true) .raw)),some ((lv,(fam,r286)),sv)⟩])]) (fz:=[]) (l:=[0,3,4,16,22]) (.inl rfl) h (by kernel_rfl) (ac (hself v276 x1 v270 (w64 (Int.fdiv (IntKind.u64.wrap (w64 (x1+x3))) (2 ^ (min (tZ (1:Int)) IntKind.u64.bits)))) r286 hr287) an) fun a w h => ?_
          exact ⟨r286,hF,h.arrive (fz:=[]) (l:=[0,3,4,16,22]) (.inl rfl) (by kernel_rfl)⟩
         ·refine wp_skip ?_
          exact ⟨v276,hF,h.arrive (fz:=[]) (l:=[0,3,4,16,22]) (.inl rfl) (by kernel_rfl)⟩
        ·rintro a w ⟨v280,hF,h⟩
         rw [f200.j281] at hF
         refine wp_reg_seq tok (orc:=o0) (fz:=[]) (l:=[0,3,4,16,22,171]) (.inl rfl) h (by kernel_rfl) an fun a w h => ?_
         obtain ⟨v282,hv285,hF⟩:=of_bind hF
         replace h:=h.cast (S':=[(0,.copy 4 [.der]),(3,.val iS x3),(4,.val sh0 (some ((lv,(fam,v280)),sv))),(16,.val iS (w64 (Int.fdiv (IntKind.u64.wrap (w64 (x1+x3))) (2 ^ (min (tZ (1:Int)) IntKind.u64.bits))))),(22,.val iS (w64 ((w64 ((w64 (Int.fdiv (IntKind.u64.wrap (w64 (x1+x3))) (2 ^ (min (tZ (1:Int)) IntKind.u64.bits))))+x2)) - v270))),(171,.val .bool v282)]) (by cases hv285; kernel_rfl)
         refine zi h hF (fun hF => ?_) (fun hF => ?_)
         ·obtain ⟨r283,hr284,hF⟩:=of_bind hF
          refine wp_reg tok (orc:=orcL [(176,[⟨.pt false 4294967295 (.st (.pair (.gh true) .raw)),some ((lv,(fam,r283)),sv)⟩])]) (fz:=[]) (l:=[0,4]) (.inl rfl) h (by kernel_rfl) (ac (hself v280 (w64 (Int.fdiv (IntKind.u64.wrap (w64 (x1+x3))) (2 ^ (min (tZ (1:Int)) IntKind.u64.bits)))) (w64 ((w64 ((w64 (Int.fdiv (IntKind.u64.wrap (w64 (x1+x3))) (2 ^ (min (tZ (1:Int)) IntKind.u64.bits))))+x2)) - v270)) x3 r283 hr284) an) fun a w h => ?_
          cases hF
          exact (retMS_ok (d:=4) (t:=198) tok h rfl (by kernel_rfl) (by kernel_rfl)).2
         ·refine wp_skip ?_
          cases hF
          exact (retMS_ok (d:=4) (t:=198) tok h rfl (by kernel_rfl) (by kernel_rfl)).2
def f158.j178 (k:Nat) (v136:Int) (q40:((Array Nat) × Int)→Option (Array Nat)):(Array Nat)→Option (Array Nat)
 | v177 => q40 (v177,(IntKind.i64.wrap (v136 * (2:Int))))
def f158.l156 (k:Nat) (x1:Int) (fam:Fam) (v136:Int) (q40:((Array Nat) × Int)→Option (Array Nat)):Nat → ((Array Nat) × Int × Int)→Option (Array Nat)
 | 0,_ => none
 | m156+1,(v170,v171,v172) => if (decide (v172≤x1)) then ((f200 k fam v170 v171 (IntKind.i64.wrap (v171+v136)) v172).bind fun r173 => ((f158.l156 k x1 fam v136 q40) m156 (r173,v172,(IntKind.i64.wrap (v172 + (IntKind.i64.wrap ((2:Int)*v136))))))) else (if (decide (((IntKind.i64.wrap (v171+v136)):Int) < x1)) then ((f200 k fam v170 v171 (IntKind.i64.wrap (v171+v136)) x1).bind fun r179 => (f158.j178 k v136 (q40) r179)) else (f158.j178 k v136 (q40) v170))
def f158.l40 (k:Nat) (x1:Int) (fam:Fam):Nat → ((Array Nat) × Int)→Option (Array Nat)
 | 0,_ => none
 | m40+1,(v135,v136) => if (decide (v136 < x1)) then (f158.l156 k x1 fam v136 ((f158.l40 k x1 fam) m40) k (v135,(0:Int),(IntKind.i64.wrap ((2:Int)*v136)))) else (some v135)
def f158.l20 (k:Nat) (x1:Int) (fam:Fam):Nat → ((Array Nat) × Int × Int)→Option (Array Nat)
 | 0,_ => none
 | m20+1,(v34,v35,v36) => if (decide (v36≤x1)) then ((f186 k fam v34 v35 v36).bind fun r37 => ((f158.l20 k x1 fam) m20 (r37,v36,(IntKind.i64.wrap (v36 + (20:Int)))))) else ((f186 k fam v34 v35 x1).bind fun r39 => (f158.l40 k x1 fam k (r39,(20:Int))))
def f158 (k:Nat) (fam:Fam) (X:(Array Nat)) (x1:Int):Option (Array Nat):=f158.l20 k x1 fam k (X,(0:Int),(20:Int))
theorem c158 (k:Nat) {lv sv:Value} (fam:Fam) (X:(Array Nat)) (x1:Int) (fo:FamOk Try.prog lv sv fam) (r:(Array Nat)) (hF:f158 k fam X x1=some r):PMut Try.prog 158 [⟨sh1,((lv,(fam,X)),sv)⟩,⟨iS,x1⟩] [] (List.set [⟨sh1,((lv,(fam,X)),sv)⟩,⟨iS,x1⟩] 0 ⟨sh1,((lv,(fam,r)),sv)⟩):=by
 refine pmut_intro (j:=0) (fin:=⟨sh1,((lv,(fam,r)),sv)⟩) Try.func158 rfl rfl (Nat.le_of_ble_eq_true rfl) (Nat.le_of_ble_eq_true rfl) (by kernel_rfl) ?_
 intro w0 Zi f0 v0 a w h
 rw [f158] at hF
 refine wp_reg_seq tok (orc:=o0) (fz:=[]) (l:=[0,1,2]) (.inl rfl) h (by kernel_rfl) an fun a w h => ?_
 refine wp_reg_seq tok (orc:=o0) (fz:=[]) (l:=[0,1,2,4]) (.inl rfl) h (by kernel_rfl) an fun a w h => ?_
 refine wp_reg_seq tok (orc:=o0) (fz:=[]) (l:=[0,1,2,4,5,6]) (.inl rfl) h (by kernel_rfl) an fun a w h => ?_
 refine wp_seq <| wp_block ?_
 refine wp_loop_fuel (f158.l20 k x1 fam) (fun ((v34,v35,v36):((Array Nat) × Int × Int)) => [(0,.copy 2 [.der]),(1,.val iS x1),(2,.val sh0 (some ((lv,(fam,v34)),sv))),(4,.val iS (20:Int)),(5,.val iS v35),(6,.val iS v36)]) (fun v h => by obtain ⟨v34,v35,v36⟩:=v; rw [f158.l20] at h; cases h) ?_ hF (h.arrive (fz:=[]) (l:=[0,1,2,4,5,6]) (.inl rfl) (by kernel_rfl))
 intro m20 v a w hF h
 obtain ⟨v34,v35,v36⟩:=v
 rw [f158.l20] at hF
 refine wp_seq ?_
 refine wp_reg_seq tok (orc:=o0) (fz:=[]) (l:=[0,1,2,4,5,6,11]) (.inl rfl) h (by kernel_rfl) an fun a w h => ?_
 refine zi h hF (fun hF => ?_) (fun hF => ?_)
 ·refine wp_skip ?_
  refine wp_block ?_
  obtain ⟨r37,hr38,hF⟩:=of_bind hF
  refine wp_reg_seq tok (orc:=orcL [(15,[⟨.pt false 4294967295 (.st (.pair (.gh true) .raw)),some ((lv,(fam,r37)),sv)⟩])]) (fz:=[]) (l:=[0,1,2,4,6]) (.inl rfl) h (by kernel_rfl) (ac (c186 k fam v34 v35 v36 fo r37 hr38) an) fun a w h => ?_
  refine wp_reg_seq tok (orc:=o0) (fz:=[]) (l:=[0,1,2,4,5,6]) (.inl rfl) h (by kernel_rfl) an fun a w h => ?_
  refine wp_reg tok (orc:=o0) (fz:=[]) (l:=[0,1,2,4,5,6]) (.inl rfl) h (by kernel_rfl) an fun a w h => ?_
  exact ⟨(r37,v36,(w64 (v36 + (20:Int)))),hF,h.arrive (fz:=[]) (l:=[0,1,2,4,5,6]) (.inl rfl) (by kernel_rfl)⟩
 ·refine wp_exit ?_
  obtain ⟨r39,hr181,hF⟩:=of_bind hF
  refine wp_reg_seq tok (orc:=orcL [(23,[⟨.pt false 4294967295 (.st (.pair (.gh true) .raw)),some ((lv,(fam,r39)),sv)⟩])]) (fz:=[]) (l:=[0,1,2,4]) (.inl rfl) h (by kernel_rfl) (ac (c186 k fam v34 v35 x1 fo r39 hr181) an) fun a w h => ?_
  refine wp_block ?_
  refine wp_loop_fuel (f158.l40 k x1 fam) (fun ((v135,v136):((Array Nat) × Int)) => [(0,.copy 2 [.der]),(1,.val iS x1),(2,.val sh0 (some ((lv,(fam,v135)),sv))),(4,.val iS v136)]) (fun v h => by obtain ⟨v135,v136⟩:=v; rw [f158.l40] at h; cases h) ?_ hF (h.arrive (fz:=[]) (l:=[0,1,2,4]) (.inl rfl) (by kernel_rfl))
  intro m40 v a w hF h
  obtain ⟨v135,v136⟩:=v
  rw [f158.l40] at hF
  refine wp_seq ?_
  refine wp_reg_seq tok (orc:=o0) (fz:=[]) (l:=[0,1,2,4,26]) (.inl rfl) h (by kernel_rfl) an fun a w h => ?_
  refine zi h hF (fun hF => ?_) (fun hF => ?_)
  ·refine wp_skip ?_
   refine wp_block ?_
   refine wp_reg_seq tok (orc:=o0) (fz:=[]) (l:=[0,1,2,4,5,6]) (.inl rfl) h (by kernel_rfl) an fun a w h => ?_
   refine wp_seq <| wp_block ?_
   refine wp_loop_fuel (f158.l156 k x1 fam v136 ((f158.l40 k x1 fam) m40)) (fun ((v170,v171,v172):((Array Nat) × Int × Int)) => [(0,.copy 2 [.der]),(1,.val iS x1),(2,.val sh0 (some ((lv,(fam,v170)),sv))),(4,.val iS v136),(5,.val iS v171),(6,.val iS v172)]) (fun v h => by obtain ⟨v170,v171,v172⟩:=v; rw [f158.l156] at h; cases h) ?_ hF (h.arrive (fz:=[]) (l:=[0,1,2,4,5,6]) (.inl rfl) (by kernel_rfl))
   intro m156 v a w hF h
   obtain ⟨v170,v171,v172⟩:=v
   rw [f158.l156] at hF
   refine wp_seq ?_
   refine wp_reg_seq tok (orc:=o0) (fz:=[]) (l:=[0,1,2,4,5,6,31]) (.inl rfl) h (by kernel_rfl) an fun a w h => ?_
   refine zi h hF (fun hF => ?_) (fun hF => ?_)
   ·refine wp_skip ?_
    refine wp_block ?_
    obtain ⟨r173,hr174,hF⟩:=of_bind hF
    refine wp_reg_seq tok (orc:=orcL [(38,[⟨.pt false 4294967295 (.st (.pair (.gh true) .raw)),some ((lv,(fam,r173)),sv)⟩])]) (fz:=[]) (l:=[0,1,2,4,6]) (.inl rfl) h (by kernel_rfl) (ac (c200 k fam v170 v171 (w64 (v171+v136)) v172 fo r173 hr174) an) fun a w h => ?_
    refine wp_reg_seq tok (orc:=o0) (fz:=[]) (l:=[0,1,2,4,5,6]) (.inl rfl) h (by kernel_rfl) an fun a w h => ?_
    refine wp_reg tok (orc:=o0) (fz:=[]) (l:=[0,1,2,4,5,6]) (.inl rfl) h (by kernel_rfl) an fun a w h => ?_
    exact ⟨(r173,v172,(w64 (v172 + (w64 ((2:Int)*v136))))),hF,h.arrive (fz:=[]) (l:=[0,1,2,4,5,6]) (.inl rfl) (by kernel_rfl)⟩
   ·refine wp_exit ?_
    refine wp_seq ?_
    refine wp_reg_seq tok (orc:=o0) (fz:=[]) (l:=[0,1,2,4,5,7]) (.inl rfl) h (by kernel_rfl) an fun a w h => ?_
    refine wp_reg_seq tok (orc:=o0) (fz:=[]) (l:=[0,1,2,4,5,7,49]) (.inl rfl) h (by kernel_rfl) an fun a w h => ?_
    refine wp_midT (fun a w => ∃ v:(Array Nat),f158.j178 k v136 ((f158.l40 k x1 fam) m40) v=some r∧Rel w0 f0 Zi ⟨Try.f158.ntmps,[0],fun _ => v0⟩ ((fun (v177:(Array Nat)) => ([(0,.copy 2 [.der]),(1,.val iS x1),(2,.val sh0 (some ((lv,(fam,v177)),sv))),(4,.val iS v136)]:SS)) v) a w) ?_ ?_
    ·
     refine zi h hF (fun hF => ?_) (fun hF => ?_)
     ·obtain ⟨r179,hr180,hF⟩:=of_bind hF
      refine wp_reg tok (orc:=orcL [(54,[⟨.pt false 4294967295 (.st (.pair (.gh true) .raw)),some ((lv,(fam,r179)),sv)⟩])]) (fz:=[]) (l:=[0,1,2,4]) (.inl rfl) h (by kernel_rfl) (ac (c200 k fam v170 v171 (w64 (v171+v136)) x1 fo r179 hr180) an) fun a w h => ?_
      exact ⟨r179,hF,h.arrive (fz:=[]) (l:=[0,1,2,4]) (.inl rfl) (by kernel_rfl)⟩
     ·refine wp_skip ?_
      exact ⟨v170,hF,h.arrive (fz:=[]) (l:=[0,1,2,4]) (.inl rfl) (by kernel_rfl)⟩
    ·rintro a w ⟨v177,hF,h⟩
     rw [f158.j178] at hF
     refine wp_reg tok (orc:=o0) (fz:=[]) (l:=[0,1,2,4]) (.inl rfl) h (by kernel_rfl) an fun a w h => ?_
     exact ⟨(v177,(w64 (v136 * (2:Int)))),hF,h.arrive (fz:=[]) (l:=[0,1,2,4]) (.inl rfl) (by kernel_rfl)⟩
  ·refine wp_exit ?_
   cases hF
   exact (retMS_ok (d:=2) (t:=198) tok h rfl (by kernel_rfl) (by kernel_rfl)).2
end Go.Proofs.Ytnpaokckkbhdjaa.S
