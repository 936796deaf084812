/-
  THE CONTRACTS OF SOME FUNCTIONS OF THIS SEAT, PRINTED BY A PROGRAM OF THIS PROJECT (wip/gen/vgen.py).
-/
import Derived.Test.YtnpaokckkbhdjaaProg
import Derived.Test.YtnpaokckkbhdjaaVmW
import Derived.Test.YtnpaokckkbhdjaaVmSr
import Derived.KernelRfl
import Derived.Test.YtnpaokckkbhdjaaVmPu
import Derived.Test.YtnpaokckkbhdjaaSoR
set_option linter.unusedVariables false
open Go Go.Vm Go.Proofs
namespace Go.Proofs.Ytnpaokckkbhdjaa.V
set_option maxRecDepth 100000
abbrev zR:Int × (Int × (Int × (Int × (Int × ByteArray)))):=((0:Int),((0:Int),((0:Int),((0:Int),((0:Int),(⟨#[]⟩:ByteArray))))))
abbrev tG:=((List (Int × (Int × Int))) × ((List (Int × (Int × (Int × (Int × (Int × ByteArray)))))) × (List (Int × Int))))
abbrev tN:=(((List (Int × (Int × Int))) × ((List (Int × (Int × (Int × (Int × (Int × ByteArray)))))) × (List (Int × Int)))) × ((List (List Int)) × ((List (List Int)) × (Option (List ((Int × Int) × Bool))))))
abbrev gD {α:Type} (l:List α) (i:Nat) (d:α):α:=List.getD l i d
abbrev tZ (n:Int):Nat:=Int.toNat n
abbrev iO:Int:=0
abbrev lO:List Int:=[]
theorem nw {p:Prop}:([]:List Nat)=[]∨p:=.inl rfl
abbrev o0:=orcL []
theorem ac {p:Prop} {l:List Prop} (h:p) (t:AllP l):AllP (p :: l):=AllP.cons h t
theorem an:AllP []:=AllP.nil
abbrev sh0:Sh:=(.pt true 201 (.st (.pair (.sl false 5 (.int .u8)) (.pair (.int .i64) (.int .i64)))))
abbrev sh1:Sh:=(.sl true 54 (.st (.pair (.int .i64) (.pair (.st (.pair (.int .i64) (.int .i64))) (.pair (.int .i64) (.pair (.int .i64) (.int .i64)))))))
abbrev sh2:Sh:=(.st (.pair (.int .i64) (.int .i64)))
abbrev sh3:Sh:=(.st (.pair (.int .i64) (.pair (.st (.pair (.int .i64) (.int .i64))) (.pair (.int .i64) (.pair (.int .i64) (.int .i64))))))
abbrev sh4:Sh:=(.mp true (.int .i64) .bool)
abbrev sh5:Sh:=(.sl false 54 (.st (.pair (.int .i64) (.pair (.st (.pair (.int .i64) (.int .i64))) (.pair (.int .i64) (.pair (.int .i64) (.int .i64)))))))
abbrev sh6:Sh:=(.pt true 111 (.mp true (.int .i64) .bool))
abbrev sh7:Sh:=(.pt false 0 (.mp false (.int .i64) .bool))
abbrev sh8:Sh:=(.pt false 0 (.fn 72 (.pair (.pt false 0 (.mp false (.int .i64) .bool)) .unit)))
abbrev sh9:Sh:=(.pt false 0 (.sl false 54 (.st (.pair (.int .i64) (.pair (.st (.pair (.int .i64) (.int .i64))) (.pair (.int .i64) (.pair (.int .i64) (.int .i64))))))))
abbrev sh10:Sh:=(.pt true 26 (.sl true 54 (.st (.pair (.int .i64) (.pair (.st (.pair (.int .i64) (.int .i64))) (.pair (.int .i64) (.pair (.int .i64) (.int .i64))))))))
abbrev sh11:Sh:=(.pt true 54 (.st (.pair (.int .i64) (.pair (.st (.pair (.int .i64) (.int .i64))) (.pair (.int .i64) (.pair (.int .i64) (.int .i64)))))))
abbrev sh12:Sh:=(.pt true 23 (.sl true 2 (.int .i64)))
abbrev sh13:Sh:=(.pt false 0 (.sl false 2 (.int .i64)))
abbrev sh14:Sh:=(.sl true 23 (.sl true 2 (.int .i64)))
abbrev sh15:Sh:=(.sl false 26 (.sl false 54 (.st (.pair (.int .i64) (.pair (.st (.pair (.int .i64) (.int .i64))) (.pair (.int .i64) (.pair (.int .i64) (.int .i64))))))))
def tbl:Tbl:=[⟨2,.int .i64,1,8,(.int .i64)⟩,
 ⟨3,.int .i64,1,8,(.int .i64)⟩,
 ⟨4,.bool,1,1,.bool⟩,
 ⟨5,.int .u8,1,1,(.int .u8)⟩,
 ⟨23,.slice 2,1,24,(.sl true 2 (.int .i64))⟩,
 ⟨26,.slice 54,1,24,(.sl true 54 (.st (.pair (.int .i64) (.pair (.st (.pair (.int .i64) (.int .i64))) (.pair (.int .i64) (.pair (.int .i64) (.int .i64)))))))⟩,
 ⟨36,.slice 23,1,24,(.sl true 23 (.sl true 2 (.int .i64)))⟩,
 ⟨38,.slice 26,1,24,(.sl true 26 (.sl true 54 (.st (.pair (.int .i64) (.pair (.st (.pair (.int .i64) (.int .i64))) (.pair (.int .i64) (.pair (.int .i64) (.int .i64))))))))⟩,
 ⟨45,.slice 5,1,24,(.sl true 5 (.int .u8))⟩,
 ⟨52,.struct [(2,0),(2,1)],2,16,(.st (.pair (.int .i64) (.int .i64)))⟩,
 ⟨54,.struct [(2,0),(52,1),(2,3),(2,4),(2,5)],6,48,(.st (.pair (.int .i64) (.pair (.st (.pair (.int .i64) (.int .i64))) (.pair (.int .i64) (.pair (.int .i64) (.int .i64))))))⟩,
 ⟨111,.map 2 4,1,8,(.mp true (.int .i64) .bool)⟩,
 ⟨112,.other,1,8,.raw⟩,
 ⟨115,.ptr 201,1,8,(.pt true 201 (.st (.pair (.sl false 5 (.int .u8)) (.pair (.int .i64) (.int .i64)))))⟩,
 ⟨201,.struct [(45,0),(3,1),(2,2)],3,40,(.st (.pair (.sl false 5 (.int .u8)) (.pair (.int .i64) (.int .i64))))⟩]
theorem tok:TOk Try.prog tbl:=by unfold TOk; kernel_rfl
abbrev iS:Sh:=.int .i64
section
variable {w0:World} {Wr Zi:Fp} {N:Fr} {S S':SS} {a:Act} {w:World} {Q:Exit→Act→World→Prop} {id:Nat} {ops:Array Oper} {rest:Code} {c:List Prop}
theorem zc (orc:Nat→List TV) (l:List Nat) (h:Rel w0 Wr Zi N S a w) (hc:AllP c) (hr:∀ a w,Rel w0 Wr Zi N (regS tbl Try.prog N orc [] ops l S) a w→rest.wp Try.prog Q a w) (e:regC tbl Try.prog N orc [] ops l S=c:=by kernel_rfl):((Code.region id ops false).seq rest).wp Try.prog Q a w:=wp_reg_seq tok nw h e hc hr
theorem zd (orc:Nat→List TV) (l:List Nat) (h:Rel w0 Wr Zi N S a w) (hc:AllP c) (hr:∀ a w,Rel w0 Wr Zi N (regS tbl Try.prog N orc [] ops l S) a w→Q .normal a w) (e:regC tbl Try.prog N orc [] ops l S=c:=by kernel_rfl):(Code.region id ops false).wp Try.prog Q a w:=wp_reg tok nw h e hc hr
theorem zs (l:List Nat) (h:Rel w0 Wr Zi N S a w) (hc:AllP c) (hr:∀ a w,Rel w0 Wr Zi N (regS tbl Try.prog N o0 [] ops l S) a w→rest.wp Try.prog Q a w) (e:regC tbl Try.prog N o0 [] ops l S=c:=by kernel_rfl):((Code.region id ops false).seq rest).wp Try.prog Q a w:=wp_reg_seq tok nw h e hc hr
theorem zt (l:List Nat) (h:Rel w0 Wr Zi N S a w) (hc:AllP c) (hr:∀ a w,Rel w0 Wr Zi N (regS tbl Try.prog N o0 [] ops l S) a w→Q .normal a w) (e:regC tbl Try.prog N o0 [] ops l S=c:=by kernel_rfl):(Code.region id ops false).wp Try.prog Q a w:=wp_reg tok nw h e hc hr
theorem ar (h:Rel w0 Wr Zi N S a w) (l:List Nat) (e:arr [] l S=some S':=by kernel_rfl):Rel w0 Wr Zi N S' a w:=h.arrive nw e
theorem zi {α:Type} {t:Nat} {x y:Code} {b:Bool} {X Y:α} {r:α} (h:Rel w0 Wr Zi N S a w) (hF:(if b=true then X else Y)=r) (h1:X=r→x.wp Try.prog Q a w) (h2:Y=r→y.wp Try.prog Q a w) (hb:boolAt S t=some b:=by kernel_rfl):(Code.cond (.tmp t) x y).wp Try.prog Q a w:=wp_if h hb (fun hb => h1 (of_t hb hF)) (fun hb => h2 (of_f hb hF))
end
def f30 (k:Nat) (x0:(List Int)):Option Bool:=some (decide (((List.length x0:Int):Int) > (1048576:Int)))
theorem c30 (k:Nat) (x0:(List Int)) (r:Bool) (hF:f30 k x0=some r):PCall Try.prog 30 [⟨(.sl false 5 (.int .u8)),x0⟩] [⟨.bool,r⟩]:=by
 refine pcall_intro Try.func30 rfl rfl (Nat.le_of_ble_eq_true rfl) ?_
 intro w0 Zi a w h
 rw [f30] at hF
 refine zs [0] h an fun a w h => ?_
 refine zs [2] h an fun a w h => ?_
 cases hF
 exact wp_ret (ret_okR tok h rfl (by kernel_rfl)).1
def f78.l16 (k:Nat) (x0:(List Int)):Nat → (Int × Int)→Option ((List Int) × (Int × Int))
 | 0,_ => none
 | m16+1,(v27,v28) => if (decide (v28 < (List.length x0:Int))) then (if (0≤v28∧v28 < (List.length x0:Int)) then ((f78.l16 k x0) m16 ((Go.bits .and .i64 (IntKind.i64.wrap ((IntKind.i64.wrap ((IntKind.i64.wrap (v27 * (149:Int))) + (IntKind.i64.wrap (List.getD x0 (Int.toNat v28) (0:Int))))) + (3:Int))) (1073741823:Int)),(IntKind.i64.wrap (v28 + (1:Int))))) else none) else (some (x0,((0:Int),v27)))
def f78 (k:Nat) (x0:(List Int)):Option ((List Int) × (Int × Int)):=f78.l16 k x0 k ((IntKind.i64.wrap ((90001:Int) + (List.length x0:Int))),(0:Int))
theorem c78 (k:Nat) (x0:(List Int)) (r:((List Int) × (Int × Int))) (hF:f78 k x0=some r):PCall Try.prog 78 [⟨(.sl false 5 (.int .u8)),x0⟩] [⟨sh0,some r⟩]:=by
 refine pcall_intro Try.func78 rfl rfl (Nat.le_of_ble_eq_true rfl) ?_
 intro w0 Zi a w h
 rw [f78] at hF
 refine zs [0] h an fun a w h => ?_
 refine zs [0,3] h an fun a w h => ?_
 refine wp_seq ?_
 refine zs [0,3,4] h an fun a w h => ?_
 refine wp_block ?_
 refine wp_loop_fuel (f78.l16 k x0) (fun ((v27,v28):(Int × Int)) => [(0,.val (.sl false 5 (.int .u8)) x0),(3,.val iS v27),(4,.val iS v28)]) (fun v h => by obtain ⟨v27,v28⟩:=v; rw [f78.l16] at h; cases h) ?_ hF (ar h [0,3,4])
 intro m16 v a w hF h
 obtain ⟨v27,v28⟩:=v
 rw [f78.l16] at hF
 refine wp_seq ?_
 refine zs [0,3,4,11] h an fun a w h => ?_
 refine zi h hF (fun hF => ?_) (fun hF => ?_)
 ·refine wp_skip ?_
  refine wp_seq <| wp_block ?_
  obtain ⟨hc30,hF⟩:=of_if hF
  refine zt [0,3,4] h (ac hc30 an) fun a w h => ?_
  refine zt [0,3,4] h an fun a w h => ?_
  exact ⟨((Go.bits .and .i64 (w64 ((w64 ((w64 (v27 * (149:Int))) + (w64 (gD x0 (tZ v28) iO)))) + (3:Int))) (1073741823:Int)),(w64 (v28 + (1:Int)))),hF,ar h [0,3,4]⟩
 ·refine wp_exit ?_
  refine zs [2] h an fun a w h => ?_
  cases hF
  exact wp_ret (ret_okR tok h rfl (by kernel_rfl)).1
def f194.j6 (k:Nat) (x0:((List Int) × (Int × Int))):(Int × Int)→Option (Int × ((List Int) × (Int × Int)))
 | (v4,v5) => some (v5,(x0.1,(v4,(IntKind.i64.wrap ((IntKind.i64.wrap (x0.2.2 * (6364136223846793005:Int))) + (1442695040888963407:Int))))))
def f194 (k:Nat) (x0:((List Int) × (Int × Int))):Option (Int × ((List Int) × (Int × Int))):=if ((0:Int) ≤ (33:Int)) then (if ((0:Int) ≤ (45:Int)) then (if (decide (x0.2.1 < (List.length x0.1:Int))) then (if (0≤x0.2.1∧x0.2.1 < (List.length x0.1:Int)) then ((some ((Go.bits .and .i64 (IntKind.i64.wrap ((Go.bits .and .i64 (Go.bits .xor .i64 (Int.fdiv (IntKind.i64.wrap ((IntKind.i64.wrap (x0.2.2 * (6364136223846793005:Int))) + (1442695040888963407:Int))) (2 ^ (min (Int.toNat (33:Int)) IntKind.i64.bits))) (Int.fdiv (IntKind.i64.wrap ((IntKind.i64.wrap (x0.2.2 * (6364136223846793005:Int))) + (1442695040888963407:Int))) (2 ^ (min (Int.toNat (45:Int)) IntKind.i64.bits)))) (255:Int)) + (IntKind.i64.wrap (List.getD x0.1 (Int.toNat x0.2.1) (0:Int))))) (255:Int)):Int)).bind fun v7 => (f194.j6 k x0 ((IntKind.i64.wrap (x0.2.1 + (1:Int))),v7))) else none) else (f194.j6 k x0 (x0.2.1,(Go.bits .and .i64 (Go.bits .xor .i64 (Int.fdiv (IntKind.i64.wrap ((IntKind.i64.wrap (x0.2.2 * (6364136223846793005:Int))) + (1442695040888963407:Int))) (2 ^ (min (Int.toNat (33:Int)) IntKind.i64.bits))) (Int.fdiv (IntKind.i64.wrap ((IntKind.i64.wrap (x0.2.2 * (6364136223846793005:Int))) + (1442695040888963407:Int))) (2 ^ (min (Int.toNat (45:Int)) IntKind.i64.bits)))) (255:Int))))) else none) else none
theorem c194 (k:Nat) (x0:((List Int) × (Int × Int))) (r:(Int × ((List Int) × (Int × Int)))) (hF:f194 k x0=some r):PMut Try.prog 194 [⟨sh0,some x0⟩] [⟨iS,r.1⟩] (List.set [⟨sh0,some x0⟩] 0 ⟨sh0,some r.2⟩):=by
 refine pmutO_intro (j:=0) (fin:=⟨sh0,some r.2⟩) Try.func194 rfl rfl (Nat.le_of_ble_eq_true rfl) (Nat.le_of_ble_eq_true rfl) (by kernel_rfl) (by kernel_rfl) ?_
 intro w0 Zi f0 v0 hw a w h
 rw [f194] at hF
 refine wp_reg_seq tok (orc:=o0) (fz:=[]) (l:=[0]) (.inl rfl) h (by kernel_rfl) an fun a w h => ?_
 refine wp_reg_seq tok (orc:=o0) (fz:=[]) (l:=[0]) (.inl rfl) h (by kernel_rfl) an fun a w h => ?_
 obtain ⟨hc10,hF⟩:=of_if hF
 obtain ⟨hc11,hF⟩:=of_if hF
 refine wp_regy_seq tok (orc:=o0) (fz:=[]) (l:=[0,3]) ([],[],[],[]) 13 (.inl rfl) h (by kernel_rfl) (by kernel_rfl) (ac hc10 (ac hc11 an)) fun a w h => ?_
 refine wp_seq ?_
 refine wp_regy_seq tok (orc:=o0) (fz:=[]) (l:=[0,3,34]) ([],[],[],[]) 10 (.inl rfl) h (by kernel_rfl) (by kernel_rfl) an fun a w h => ?_
 refine wp_midT (fun a w => ∃ v:(Int × Int),f194.j6 k x0 v=some r∧Rel w0 f0 Zi ⟨Try.f194.ntmps,[0],fun _ => v0⟩ ((fun ((v4,v5):(Int × Int)) => ([(0,.val sh0 (some (x0.1,(v4,(w64 ((w64 (x0.2.2 * (6364136223846793005:Int))) + (1442695040888963407:Int))))))),(3,.val iS v5)]:SS)) v) a w) ?_ ?_
 ·
  refine zi h hF (fun hF => ?_) (fun hF => ?_)
  ·obtain ⟨hc9,hF⟩:=of_if hF
   refine wp_regy_seq tok (orc:=o0) (fz:=[]) (l:=[0,3]) ([],[],[],[]) 15 (.inl rfl) h (by kernel_rfl) (by kernel_rfl) (ac hc9 an) fun a w h => ?_
   obtain ⟨v7,hv8,hF⟩:=of_bind hF
   replace h:=h.cast (S':=[(0,.val sh0 (some (x0.1,(x0.2.1,(w64 ((w64 (x0.2.2 * (6364136223846793005:Int))) + (1442695040888963407:Int))))))),(3,.val iS v7)]) (by cases hv8; kernel_rfl)
   refine wp_reg tok (orc:=o0) (fz:=[]) (l:=[0,3]) (.inl rfl) h (by kernel_rfl) an fun a w h => ?_
   exact ⟨((w64 (x0.2.1 + (1:Int))),v7),hF,h.arrive (fz:=[]) (l:=[0,3]) (.inl rfl) (by kernel_rfl)⟩
  ·refine wp_skip ?_
   exact ⟨(x0.2.1,(Go.bits .and .i64 (Go.bits .xor .i64 (Int.fdiv (w64 ((w64 (x0.2.2 * (6364136223846793005:Int))) + (1442695040888963407:Int))) (2 ^ (min (tZ (33:Int)) IntKind.i64.bits))) (Int.fdiv (w64 ((w64 (x0.2.2 * (6364136223846793005:Int))) + (1442695040888963407:Int))) (2 ^ (min (tZ (45:Int)) IntKind.i64.bits)))) (255:Int))),hF,h.arrive (fz:=[]) (l:=[0,3]) (.inl rfl) (by kernel_rfl)⟩
 ·rintro a w ⟨v,hF,h⟩
  obtain ⟨v4,v5⟩:=v
  rw [f194.j6] at hF
  refine wp_reg_seq tok (orc:=o0) (fz:=[]) (l:=[0,2]) (.inl rfl) h (by kernel_rfl) an fun a w h => ?_
  cases hF
  exact wp_ret (retO_ok tok h rfl (by kernel_rfl)).1
def f144 (k:Nat) (x0:((List Int) × (Int × Int))) (x1:Int):Option (Int × ((List Int) × (Int × Int))):=if (decide (x1 ≤ (0:Int))) then (some ((0:Int),x0)) else (if (decide (x1 ≤ (256:Int))) then ((f194 k x0).bind fun r4 => (if (x1≠0) then (some ((Int.tmod r4.1 x1),r4.2)) else none)) else ((f194 k x0).bind fun r7 => ((f194 k r7.2).bind fun r8 => ((f194 k r8.2).bind fun r9 => ((f194 k r9.2).bind fun r10 => (if (x1≠0) then (some ((Int.tmod (IntKind.i64.wrap ((IntKind.i64.wrap ((IntKind.i64.wrap ((IntKind.i64.wrap (r7.1 * (16777216:Int))) + (IntKind.i64.wrap (r8.1 * (65536:Int))))) + (IntKind.i64.wrap (r9.1 * (256:Int)))))+r10.1)) x1),r10.2)) else none))))))
theorem c144 (k:Nat) (x0:((List Int) × (Int × Int))) (x1:Int) (r:(Int × ((List Int) × (Int × Int)))) (hF:f144 k x0 x1=some r):PMut Try.prog 144 [⟨sh0,some x0⟩,⟨iS,x1⟩] [⟨iS,r.1⟩] (List.set [⟨sh0,some x0⟩,⟨iS,x1⟩] 0 ⟨sh0,some r.2⟩):=by
 refine pmutO_intro (j:=0) (fin:=⟨sh0,some r.2⟩) Try.func144 rfl rfl (Nat.le_of_ble_eq_true rfl) (Nat.le_of_ble_eq_true rfl) (by kernel_rfl) (by kernel_rfl) ?_
 intro w0 Zi f0 v0 hw a w h
 rw [f144] at hF
 refine wp_reg_seq tok (orc:=o0) (fz:=[]) (l:=[0,1]) (.inl rfl) h (by kernel_rfl) an fun a w h => ?_
 refine wp_seq ?_
 refine wp_reg_seq tok (orc:=o0) (fz:=[]) (l:=[0,1,10]) (.inl rfl) h (by kernel_rfl) an fun a w h => ?_
 refine zi h hF (fun hF => ?_) (fun hF => ?_)
 ·refine wp_reg_seq tok (orc:=o0) (fz:=[]) (l:=[0,4]) (.inl rfl) h (by kernel_rfl) an fun a w h => ?_
  cases hF
  exact wp_ret (retO_ok tok h rfl (by kernel_rfl)).1
 ·refine wp_skip ?_
  refine wp_seq ?_
  refine wp_reg_seq tok (orc:=o0) (fz:=[]) (l:=[0,1,12]) (.inl rfl) h (by kernel_rfl) an fun a w h => ?_
  refine zi h hF (fun hF => ?_) (fun hF => ?_)
  ·obtain ⟨r4,hr5,hF⟩:=of_bind hF
   obtain ⟨hc6,hF⟩:=of_if hF
   refine wp_reg_seq tok (orc:=orcL [(14,[⟨.pt false 4294967295 (.pt true 201 (.st (.pair (.sl false 5 (.int .u8)) (.pair iS iS)))),some (some r4.2)⟩,⟨iS,r4.1⟩])]) (fz:=[]) (l:=[0,4]) (.inl rfl) h (by kernel_rfl) (ac (c194 k x0 r4 hr5) (ac hc6 an)) fun a w h => ?_
   cases hF
   exact wp_ret (retO_ok tok h rfl (by kernel_rfl)).1
  ·refine wp_skip ?_
   obtain ⟨r7,hr15,hF⟩:=of_bind hF
   refine wp_reg_seq tok (orc:=orcL [(18,[⟨.pt false 4294967295 (.pt true 201 (.st (.pair (.sl false 5 (.int .u8)) (.pair iS iS)))),some (some r7.2)⟩,⟨iS,r7.1⟩])]) (fz:=[]) (l:=[0,1,5]) (.inl rfl) h (by kernel_rfl) (ac (c194 k x0 r7 hr15) an) fun a w h => ?_
   obtain ⟨r8,hr14,hF⟩:=of_bind hF
   refine wp_reg_seq tok (orc:=orcL [(20,[⟨.pt false 4294967295 (.pt true 201 (.st (.pair (.sl false 5 (.int .u8)) (.pair iS iS)))),some (some r8.2)⟩,⟨iS,r8.1⟩])]) (fz:=[]) (l:=[0,1,5,6]) (.inl rfl) h (by kernel_rfl) (ac (c194 k r7.2 r8 hr14) an) fun a w h => ?_
   obtain ⟨r9,hr13,hF⟩:=of_bind hF
   refine wp_reg_seq tok (orc:=orcL [(22,[⟨.pt false 4294967295 (.pt true 201 (.st (.pair (.sl false 5 (.int .u8)) (.pair iS iS)))),some (some r9.2)⟩,⟨iS,r9.1⟩])]) (fz:=[]) (l:=[0,1,5,6,7]) (.inl rfl) h (by kernel_rfl) (ac (c194 k r8.2 r9 hr13) an) fun a w h => ?_
   obtain ⟨r10,hr12,hF⟩:=of_bind hF
   refine wp_reg_seq tok (orc:=orcL [(24,[⟨.pt false 4294967295 (.pt true 201 (.st (.pair (.sl false 5 (.int .u8)) (.pair iS iS)))),some (some r10.2)⟩,⟨iS,r10.1⟩])]) (fz:=[]) (l:=[0,1,5,6,7,8]) (.inl rfl) h (by kernel_rfl) (ac (c194 k r9.2 r10 hr12) an) fun a w h => ?_
   obtain ⟨hc11,hF⟩:=of_if hF
   refine wp_reg_seq tok (orc:=o0) (fz:=[]) (l:=[0,4]) (.inl rfl) h (by kernel_rfl) (ac hc11 an) fun a w h => ?_
   cases hF
   exact wp_ret (retO_ok tok h rfl (by kernel_rfl)).1
def f145 (k:Nat) (x0:((List Int) × (Int × Int))) (x1:Int):Option (Bool × ((List Int) × (Int × Int))):=(f144 k x0 x1).bind fun r1 => (some ((r1.1 == (0:Int)),r1.2))
theorem c145 (k:Nat) (x0:((List Int) × (Int × Int))) (x1:Int) (r:(Bool × ((List Int) × (Int × Int)))) (hF:f145 k x0 x1=some r):PMut Try.prog 145 [⟨sh0,some x0⟩,⟨iS,x1⟩] [⟨.bool,r.1⟩] (List.set [⟨sh0,some x0⟩,⟨iS,x1⟩] 0 ⟨sh0,some r.2⟩):=by
 refine pmutO_intro (j:=0) (fin:=⟨sh0,some r.2⟩) Try.func145 rfl rfl (Nat.le_of_ble_eq_true rfl) (Nat.le_of_ble_eq_true rfl) (by kernel_rfl) (by kernel_rfl) ?_
 intro w0 Zi f0 v0 hw a w h
 rw [f145] at hF
 refine wp_reg_seq tok (orc:=o0) (fz:=[]) (l:=[0,1]) (.inl rfl) h (by kernel_rfl) an fun a w h => ?_
 obtain ⟨r1,hr2,hF⟩:=of_bind hF
 refine wp_reg_seq tok (orc:=orcL [(7,[⟨.pt false 4294967295 (.pt true 201 (.st (.pair (.sl false 5 (.int .u8)) (.pair iS iS)))),some (some r1.2)⟩,⟨iS,r1.1⟩])]) (fz:=[]) (l:=[0,4]) (.inl rfl) h (by kernel_rfl) (ac (c144 k x0 x1 r1 hr2) an) fun a w h => ?_
 cases hF
 exact wp_ret (retO_ok tok h rfl (by kernel_rfl)).1
def f79.j204 (k:Nat):(((List Int) × (Int × Int)) × (List (Int × ((Int × Int) × (Int × (Int × Int))))))→Option ((List (Int × ((Int × Int) × (Int × (Int × Int))))) × ((List Int) × (Int × Int)))
 | (v202,v203) => some (v203,v202)
def f79.l206 (k:Nat) (r205:(Int × ((List Int) × (Int × Int)))) (q204:(((List Int) × (Int × Int)) × (List (Int × ((Int × Int) × (Int × (Int × Int))))))→Option ((List (Int × ((Int × Int) × (Int × (Int × Int))))) × ((List Int) × (Int × Int)))):Nat → ((List (Int × ((Int × Int) × (Int × (Int × Int))))) × Int)→Option ((List (Int × ((Int × Int) × (Int × (Int × Int))))) × ((List Int) × (Int × Int)))
 | 0,_ => none
 | m206+1,(v217,v218) => if (decide (v218 > (0:Int))) then (if ((List.length v217+List.length [(v218,(((0:Int),(0:Int)),((1:Int),((1:Int),(0:Int)))))])*48≤140737488355328) then ((f79.l206 k r205 q204) m206 ((v217 ++ [(v218,(((0:Int),(0:Int)),((1:Int),((1:Int),(0:Int)))))]),(IntKind.i64.wrap (v218 - (1:Int))))) else none) else (q204 (r205.2,v217))
def f79.j183 (k:Nat):(((List Int) × (Int × Int)) × (List (Int × ((Int × Int) × (Int × (Int × Int))))))→Option ((List (Int × ((Int × Int) × (Int × (Int × Int))))) × ((List Int) × (Int × Int)))
 | (v181,v182) => (f145 k v181 (200:Int)).bind fun r184 => (if r184.1 then ((f144 k r184.2 (3:Int)).bind fun r205 => (f79.l206 k r205 (f79.j204 k) k (([]:List (Int × ((Int × Int) × (Int × (Int × Int))))),(IntKind.i64.wrap ((IntKind.i64.wrap (r205.1 + (500:Int))) - (1:Int)))))) else (f79.j204 k (r184.2,v182)))
def f79.l81 (k:Nat):Nat → (((List Int) × (Int × Int)) × (List (Int × ((Int × Int) × (Int × (Int × Int))))) × Int)→Option ((List (Int × ((Int × Int) × (Int × (Int × Int))))) × ((List Int) × (Int × Int)))
 | 0,_ => none
 | m81+1,(v135,v136,v137) => if (decide (v137 > (0:Int))) then ((f144 k v135 (60:Int)).bind fun r149 => ((f144 k r149.2 (30:Int)).bind fun r150 => ((f144 k r150.2 (20:Int)).bind fun r151 => ((f144 k r151.2 (10:Int)).bind fun r152 => ((f144 k r152.2 (12:Int)).bind fun r153 => (if ((List.length v136+List.length [((IntKind.i64.wrap ((20:Int) - v137)),((r149.1,r150.1),((IntKind.i64.wrap ((1:Int)+r151.1)),((IntKind.i64.wrap ((1:Int)+r152.1)),(IntKind.i64.wrap ((10:Int)*r153.1))))))])*48≤140737488355328) then ((f79.l81 k) m81 (r153.2,(v136 ++ [((IntKind.i64.wrap ((20:Int) - v137)),((r149.1,r150.1),((IntKind.i64.wrap ((1:Int)+r151.1)),((IntKind.i64.wrap ((1:Int)+r152.1)),(IntKind.i64.wrap ((10:Int)*r153.1))))))]),(IntKind.i64.wrap (v137 - (1:Int))))) else none)))))) else ((f145 k v135 (12:Int)).bind fun r160 => (if (bif r160.1 then (decide (((List.length v136:Int):Int) > (0:Int))) else false) then ((f144 k r160.2 (List.length v136:Int)).bind fun r223 => (if (0≤r223.1∧r223.1 < (List.length v136:Int)) then ((f144 k r223.2 (5:Int)).bind fun r224 => (if (r224.1 == (0:Int)) then ((f144 k r224.2 (4:Int)).bind fun r225 => (if (0≤r225.1∧r225.1 < (List.length [(0:Int),(19:Int),(1000000000:Int),(1000000001:Int)]:Int)) then (f79.j183 k (r225.2,(List.set v136 (Int.toNat r223.1) ((List.getD [(0:Int),(19:Int),(1000000000:Int),(1000000001:Int)] (Int.toNat r225.1) (0:Int)),(List.getD v136 (Int.toNat r223.1) ((0:Int),(((0:Int),(0:Int)),((0:Int),((0:Int),(0:Int)))))).2)))) else none)) else (if (r224.1 == (1:Int)) then ((f144 k r224.2 (3:Int)).bind fun r228 => (if (0≤r228.1∧r228.1 < (List.length [(0:Int),(100000:Int),(100001:Int)]:Int)) then (f79.j183 k (r228.2,(List.set v136 (Int.toNat r223.1) ((List.getD v136 (Int.toNat r223.1) ((0:Int),(((0:Int),(0:Int)),((0:Int),((0:Int),(0:Int)))))).1,((List.getD v136 (Int.toNat r223.1) ((0:Int),(((0:Int),(0:Int)),((0:Int),((0:Int),(0:Int)))))).2.1,((List.getD [(0:Int),(100000:Int),(100001:Int)] (Int.toNat r228.1) (0:Int)),(List.getD v136 (Int.toNat r223.1) ((0:Int),(((0:Int),(0:Int)),((0:Int),((0:Int),(0:Int)))))).2.2.2)))))) else none)) else (if (r224.1 == (2:Int)) then ((some ((List.set v136 (Int.toNat r223.1) ((List.getD v136 (Int.toNat r223.1) ((0:Int),(((0:Int),(0:Int)),((0:Int),((0:Int),(0:Int)))))).1,((List.getD v136 (Int.toNat r223.1) ((0:Int),(((0:Int),(0:Int)),((0:Int),((0:Int),(0:Int)))))).2.1,((List.getD v136 (Int.toNat r223.1) ((0:Int),(((0:Int),(0:Int)),((0:Int),((0:Int),(0:Int)))))).2.2.1,((-1:Int),(List.getD v136 (Int.toNat r223.1) ((0:Int),(((0:Int),(0:Int)),((0:Int),((0:Int),(0:Int)))))).2.2.2.2))))):(List (Int × ((Int × Int) × (Int × (Int × Int))))))).bind fun v231 => (f79.j183 k (r224.2,v231))) else (if (r224.1 == (3:Int)) then ((f144 k r224.2 (3:Int)).bind fun r233 => (if (0≤r233.1∧r233.1 < (List.length [(-1:Int),(1000:Int),(1001:Int)]:Int)) then ((some ((List.set v136 (Int.toNat r223.1) ((List.getD v136 (Int.toNat r223.1) ((0:Int),(((0:Int),(0:Int)),((0:Int),((0:Int),(0:Int)))))).1,((List.getD v136 (Int.toNat r223.1) ((0:Int),(((0:Int),(0:Int)),((0:Int),((0:Int),(0:Int)))))).2.1,((List.getD v136 (Int.toNat r223.1) ((0:Int),(((0:Int),(0:Int)),((0:Int),((0:Int),(0:Int)))))).2.2.1,((List.getD v136 (Int.toNat r223.1) ((0:Int),(((0:Int),(0:Int)),((0:Int),((0:Int),(0:Int)))))).2.2.2.1,(List.getD [(-1:Int),(1000:Int),(1001:Int)] (Int.toNat r233.1) (0:Int))))))):(List (Int × ((Int × Int) × (Int × (Int × Int))))))).bind fun v234 => (f79.j183 k (r233.2,v234))) else none)) else (if (r224.1 == (4:Int)) then ((f144 k r224.2 (2:Int)).bind fun r238 => (f79.j183 k (r238.2,(List.set v136 (Int.toNat r223.1) ((List.getD v136 (Int.toNat r223.1) ((0:Int),(((0:Int),(0:Int)),((0:Int),((0:Int),(0:Int)))))).1,(((IntKind.i64.wrap ((10000000:Int)+r238.1)),(List.getD v136 (Int.toNat r223.1) ((0:Int),(((0:Int),(0:Int)),((0:Int),((0:Int),(0:Int)))))).2.1.2),(List.getD v136 (Int.toNat r223.1) ((0:Int),(((0:Int),(0:Int)),((0:Int),((0:Int),(0:Int)))))).2.2)))))) else (f79.j183 k (r224.2,v136)))))))) else none)) else (f79.j183 k (r160.2,v136))))
def f79 (k:Nat) (x0:((List Int) × (Int × Int))):Option ((List (Int × ((Int × Int) × (Int × (Int × Int))))) × ((List Int) × (Int × Int))):=(f144 k x0 (10:Int)).bind fun r1 => (f79.l81 k k (r1.2,([]:List (Int × ((Int × Int) × (Int × (Int × Int))))),r1.1))
theorem c79 (k:Nat) (x0:((List Int) × (Int × Int))) (r:((List (Int × ((Int × Int) × (Int × (Int × Int))))) × ((List Int) × (Int × Int)))) (hF:f79 k x0=some r):PMut Try.prog 79 [⟨sh0,some x0⟩] [⟨sh1,r.1⟩] (List.set [⟨sh0,some x0⟩] 0 ⟨sh0,some r.2⟩):=by
 refine pmutO_intro (j:=0) (fin:=⟨sh0,some r.2⟩) Try.func79 rfl rfl (Nat.le_of_ble_eq_true rfl) (Nat.le_of_ble_eq_true rfl) (by kernel_rfl) (by kernel_rfl) ?_
 intro w0 Zi f0 v0 hw a w h
 rw [f79] at hF
 refine wp_reg_seq tok (orc:=o0) (fz:=[]) (l:=[0]) (.inl rfl) h (by kernel_rfl) an fun a w h => ?_
 refine wp_reg_seq tok (orc:=o0) (fz:=[]) (l:=[0,3]) (.inl rfl) h (by kernel_rfl) an fun a w h => ?_
 refine wp_seq ?_
 obtain ⟨r1,hr244,hF⟩:=of_bind hF
 refine wp_reg_seq tok (orc:=orcL [(9,[⟨.pt false 4294967295 (.pt true 201 (.st (.pair (.sl false 5 (.int .u8)) (.pair iS iS)))),some (some r1.2)⟩,⟨iS,r1.1⟩])]) (fz:=[]) (l:=[0,3,4]) (.inl rfl) h (by kernel_rfl) (ac (c144 k x0 (10:Int) r1 hr244) an) fun a w h => ?_
 refine wp_block ?_
 refine wp_loop_fuel (f79.l81 k) (fun ((v135,v136,v137):(((List Int) × (Int × Int)) × (List (Int × ((Int × Int) × (Int × (Int × Int))))) × Int)) => [(0,.val sh0 (some v135)),(3,.val sh1 v136),(4,.val iS v137)]) (fun v h => by obtain ⟨v135,v136,v137⟩:=v; rw [f79.l81] at h; cases h) ?_ hF (h.arrive (fz:=[]) (l:=[0,3,4]) (.inl rfl) (by kernel_rfl))
 intro m81 v a w hF h
 obtain ⟨v135,v136,v137⟩:=v
 rw [f79.l81] at hF
 refine wp_seq ?_
 refine wp_reg_seq tok (orc:=o0) (fz:=[]) (l:=[0,3,4,11]) (.inl rfl) h (by kernel_rfl) an fun a w h => ?_
 refine zi h hF (fun hF => ?_) (fun hF => ?_)
 ·refine wp_skip ?_
  refine wp_seq <| wp_block ?_
  obtain ⟨r149,hr154,hF⟩:=of_bind hF
  obtain ⟨r150,hr155,hF⟩:=of_bind hF
  obtain ⟨r151,hr156,hF⟩:=of_bind hF
  obtain ⟨r152,hr157,hF⟩:=of_bind hF
  obtain ⟨r153,hr158,hF⟩:=of_bind hF
  obtain ⟨hc159,hF⟩:=of_if hF
  refine wp_reg tok (orc:=orcL [(18,[⟨.pt false 4294967295 (.pt true 201 (.st (.pair (.sl false 5 (.int .u8)) (.pair iS iS)))),some (some r149.2)⟩,⟨iS,r149.1⟩]),(20,[⟨.pt false 4294967295 (.pt true 201 (.st (.pair (.sl false 5 (.int .u8)) (.pair iS iS)))),some (some r150.2)⟩,⟨iS,r150.1⟩]),(23,[⟨.pt false 4294967295 (.pt true 201 (.st (.pair (.sl false 5 (.int .u8)) (.pair iS iS)))),some (some r151.2)⟩,⟨iS,r151.1⟩]),(26,[⟨.pt false 4294967295 (.pt true 201 (.st (.pair (.sl false 5 (.int .u8)) (.pair iS iS)))),some (some r152.2)⟩,⟨iS,r152.1⟩]),(29,[⟨.pt false 4294967295 (.pt true 201 (.st (.pair (.sl false 5 (.int .u8)) (.pair iS iS)))),some (some r153.2)⟩,⟨iS,r153.1⟩])]) (fz:=[]) (l:=[0,3,4]) (.inl rfl) h (by kernel_rfl) (ac (c144 k v135 (60:Int) r149 hr154) (ac (c144 k r149.2 (30:Int) r150 hr155) (ac (c144 k r150.2 (20:Int) r151 hr156) (ac (c144 k r151.2 (10:Int) r152 hr157) (ac (c144 k r152.2 (12:Int) r153 hr158) (ac hc159 an)))))) fun a w h => ?_
  refine wp_reg tok (orc:=o0) (fz:=[]) (l:=[0,3,4]) (.inl rfl) h (by kernel_rfl) an fun a w h => ?_
  exact ⟨(r153.2,(v136 ++ [((w64 ((20:Int) - v137)),((r149.1,r150.1),((w64 ((1:Int)+r151.1)),((w64 ((1:Int)+r152.1)),(w64 ((10:Int)*r153.1))))))]),(w64 (v137 - (1:Int)))),hF,h.arrive (fz:=[]) (l:=[0,3,4]) (.inl rfl) (by kernel_rfl)⟩
 ·refine wp_exit ?_
  refine wp_seq ?_
  obtain ⟨r160,hr243,hF⟩:=of_bind hF
  refine wp_reg_seq tok (orc:=orcL [(35,[⟨.pt false 4294967295 (.pt true 201 (.st (.pair (.sl false 5 (.int .u8)) (.pair iS iS)))),some (some r160.2)⟩,⟨.bool,r160.1⟩])]) (fz:=[]) (l:=[0,3,40]) (.inl rfl) h (by kernel_rfl) (ac (c145 k v135 (12:Int) r160 hr243) an) fun a w h => ?_
  refine wp_midT (fun a w => ∃ v:(((List Int) × (Int × Int)) × (List (Int × ((Int × Int) × (Int × (Int × Int)))))),f79.j183 k v=some r∧Rel w0 f0 Zi ⟨Try.f79.ntmps,[0],fun _ => v0⟩ ((fun ((v181,v182):(((List Int) × (Int × Int)) × (List (Int × ((Int × Int) × (Int × (Int × Int))))))) => ([(0,.val sh0 (some v181)),(3,.val sh1 v182)]:SS)) v) a w) ?_ ?_
  ·
   refine zi h hF (fun hF => ?_) (fun hF => ?_)
   ·obtain ⟨r223,hr241,hF⟩:=of_bind hF
    obtain ⟨hc242,hF⟩:=of_if hF
    refine wp_reg_seq tok (orc:=orcL [(45,[⟨.pt false 4294967295 (.pt true 201 (.st (.pair (.sl false 5 (.int .u8)) (.pair iS iS)))),some (some r223.2)⟩,⟨iS,r223.1⟩])]) (fz:=[]) (l:=[0,3,5]) (.inl rfl) h (by kernel_rfl) (ac (c144 k r160.2 (List.length v136:Int) r223 hr241) (ac hc242 an)) fun a w h => ?_
    obtain ⟨r224,hr240,hF⟩:=of_bind hF
    refine wp_reg_seq tok (orc:=orcL [(48,[⟨.pt false 4294967295 (.pt true 201 (.st (.pair (.sl false 5 (.int .u8)) (.pair iS iS)))),some (some r224.2)⟩,⟨iS,r224.1⟩])]) (fz:=[]) (l:=[0,3,5,48]) (.inl rfl) h (by kernel_rfl) (ac (c144 k r223.2 (5:Int) r224 hr240) an) fun a w h => ?_
    refine wp_block ?_
    refine wp_reg_seq tok (orc:=o0) (fz:=[]) (l:=[0,3,5,48,49]) (.inl rfl) h (by kernel_rfl) an fun a w h => ?_
    refine zi h hF (fun hF => ?_) (fun hF => ?_)
    ·obtain ⟨r225,hr226,hF⟩:=of_bind hF
     obtain ⟨hc227,hF⟩:=of_if hF
     refine wp_reg tok (orc:=orcL [(54,[⟨.pt false 4294967295 (.pt true 201 (.st (.pair (.sl false 5 (.int .u8)) (.pair iS iS)))),some (some r225.2)⟩,⟨iS,r225.1⟩])]) (fz:=[]) (l:=[0,3]) (.inl rfl) h (by kernel_rfl) (ac (c144 k r224.2 (4:Int) r225 hr226) (ac hc227 an)) fun a w h => ?_
     exact ⟨(r225.2,(List.set v136 (tZ r223.1) ((gD [iO,(19:Int),(1000000000:Int),(1000000001:Int)] (tZ r225.1) iO),(gD v136 (tZ r223.1) (iO,((iO,iO),(iO,(iO,iO))))).2))),hF,h.arrive (fz:=[]) (l:=[0,3]) (.inl rfl) (by kernel_rfl)⟩
    ·refine wp_reg_seq tok (orc:=o0) (fz:=[]) (l:=[0,3,5,48,59]) (.inl rfl) h (by kernel_rfl) an fun a w h => ?_
     refine zi h hF (fun hF => ?_) (fun hF => ?_)
     ·obtain ⟨r228,hr229,hF⟩:=of_bind hF
      obtain ⟨hc230,hF⟩:=of_if hF
      refine wp_reg tok (orc:=orcL [(64,[⟨.pt false 4294967295 (.pt true 201 (.st (.pair (.sl false 5 (.int .u8)) (.pair iS iS)))),some (some r228.2)⟩,⟨iS,r228.1⟩])]) (fz:=[]) (l:=[0,3]) (.inl rfl) h (by kernel_rfl) (ac (c144 k r224.2 (3:Int) r228 hr229) (ac hc230 an)) fun a w h => ?_
      exact ⟨(r228.2,(List.set v136 (tZ r223.1) ((gD v136 (tZ r223.1) (iO,((iO,iO),(iO,(iO,iO))))).1,((gD v136 (tZ r223.1) (iO,((iO,iO),(iO,(iO,iO))))).2.1,((gD [iO,(100000:Int),(100001:Int)] (tZ r228.1) iO),(gD v136 (tZ r223.1) (iO,((iO,iO),(iO,(iO,iO))))).2.2.2))))),hF,h.arrive (fz:=[]) (l:=[0,3]) (.inl rfl) (by kernel_rfl)⟩
     ·refine wp_reg_seq tok (orc:=o0) (fz:=[]) (l:=[0,3,5,48,69]) (.inl rfl) h (by kernel_rfl) an fun a w h => ?_
      refine zi h hF (fun hF => ?_) (fun hF => ?_)
      ·refine wp_reg tok (orc:=o0) (fz:=[]) (l:=[0,3]) (.inl rfl) h (by kernel_rfl) an fun a w h => ?_
       obtain ⟨v231,hv232,hF⟩:=of_bind hF
       replace h:=h.cast (S':=[(0,.val sh0 (some r224.2)),(3,.val sh1 v231)]) (by cases hv232; kernel_rfl)
       exact ⟨(r224.2,v231),hF,h.arrive (fz:=[]) (l:=[0,3]) (.inl rfl) (by kernel_rfl)⟩
      ·refine wp_reg_seq tok (orc:=o0) (fz:=[]) (l:=[0,3,5,48,74]) (.inl rfl) h (by kernel_rfl) an fun a w h => ?_
       refine zi h hF (fun hF => ?_) (fun hF => ?_)
       ·obtain ⟨r233,hr236,hF⟩:=of_bind hF
        obtain ⟨hc237,hF⟩:=of_if hF
        refine wp_reg tok (orc:=orcL [(79,[⟨.pt false 4294967295 (.pt true 201 (.st (.pair (.sl false 5 (.int .u8)) (.pair iS iS)))),some (some r233.2)⟩,⟨iS,r233.1⟩])]) (fz:=[]) (l:=[0,3]) (.inl rfl) h (by kernel_rfl) (ac (c144 k r224.2 (3:Int) r233 hr236) (ac hc237 an)) fun a w h => ?_
        obtain ⟨v234,hv235,hF⟩:=of_bind hF
        replace h:=h.cast (S':=[(0,.val sh0 (some r233.2)),(3,.val sh1 v234)]) (by cases hv235; kernel_rfl)
        exact ⟨(r233.2,v234),hF,h.arrive (fz:=[]) (l:=[0,3]) (.inl rfl) (by kernel_rfl)⟩
       ·refine wp_reg_seq tok (orc:=o0) (fz:=[]) (l:=[0,3,5,84]) (.inl rfl) h (by kernel_rfl) an fun a w h => ?_
        refine zi h hF (fun hF => ?_) (fun hF => ?_)
        ·obtain ⟨r238,hr239,hF⟩:=of_bind hF
         refine wp_reg tok (orc:=orcL [(88,[⟨.pt false 4294967295 (.pt true 201 (.st (.pair (.sl false 5 (.int .u8)) (.pair iS iS)))),some (some r238.2)⟩,⟨iS,r238.1⟩])]) (fz:=[]) (l:=[0,3]) (.inl rfl) h (by kernel_rfl) (ac (c144 k r224.2 (2:Int) r238 hr239) an) fun a w h => ?_
         exact ⟨(r238.2,(List.set v136 (tZ r223.1) ((gD v136 (tZ r223.1) (iO,((iO,iO),(iO,(iO,iO))))).1,(((w64 ((10000000:Int)+r238.1)),(gD v136 (tZ r223.1) (iO,((iO,iO),(iO,(iO,iO))))).2.1.2),(gD v136 (tZ r223.1) (iO,((iO,iO),(iO,(iO,iO))))).2.2)))),hF,h.arrive (fz:=[]) (l:=[0,3]) (.inl rfl) (by kernel_rfl)⟩
        ·refine wp_skip ?_
         exact ⟨(r224.2,v136),hF,h.arrive (fz:=[]) (l:=[0,3]) (.inl rfl) (by kernel_rfl)⟩
   ·refine wp_skip ?_
    exact ⟨(r160.2,v136),hF,h.arrive (fz:=[]) (l:=[0,3]) (.inl rfl) (by kernel_rfl)⟩
  ·rintro a w ⟨v,hF,h⟩
   obtain ⟨v181,v182⟩:=v
   rw [f79.j183] at hF
   refine wp_seq ?_
   obtain ⟨r184,hr222,hF⟩:=of_bind hF
   refine wp_reg_seq tok (orc:=orcL [(94,[⟨.pt false 4294967295 (.pt true 201 (.st (.pair (.sl false 5 (.int .u8)) (.pair iS iS)))),some (some r184.2)⟩,⟨.bool,r184.1⟩])]) (fz:=[]) (l:=[0,3,94]) (.inl rfl) h (by kernel_rfl) (ac (c145 k v181 (200:Int) r184 hr222) an) fun a w h => ?_
   refine wp_midT (fun a w => ∃ v:(((List Int) × (Int × Int)) × (List (Int × ((Int × Int) × (Int × (Int × Int)))))),f79.j204 k v=some r∧Rel w0 f0 Zi ⟨Try.f79.ntmps,[0],fun _ => v0⟩ ((fun ((v202,v203):(((List Int) × (Int × Int)) × (List (Int × ((Int × Int) × (Int × (Int × Int))))))) => ([(0,.val sh0 (some v202)),(3,.val sh1 v203)]:SS)) v) a w) ?_ ?_
   ·
    refine zi h hF (fun hF => ?_) (fun hF => ?_)
    ·refine wp_reg_seq tok (orc:=o0) (fz:=[]) (l:=[0,3]) (.inl rfl) h (by kernel_rfl) an fun a w h => ?_
     obtain ⟨r205,hr221,hF⟩:=of_bind hF
     refine wp_reg_seq tok (orc:=orcL [(97,[⟨.pt false 4294967295 (.pt true 201 (.st (.pair (.sl false 5 (.int .u8)) (.pair iS iS)))),some (some r205.2)⟩,⟨iS,r205.1⟩])]) (fz:=[]) (l:=[0,3,6]) (.inl rfl) h (by kernel_rfl) (ac (c144 k r184.2 (3:Int) r205 hr221) an) fun a w h => ?_
     refine wp_block ?_
     refine wp_loop_fuel (f79.l206 k r205 (f79.j204 k)) (fun ((v217,v218):((List (Int × ((Int × Int) × (Int × (Int × Int))))) × Int)) => [(0,.val sh0 (some r205.2)),(3,.val sh1 v217),(6,.val iS v218)]) (fun v h => by obtain ⟨v217,v218⟩:=v; rw [f79.l206] at h; cases h) ?_ hF (h.arrive (fz:=[]) (l:=[0,3,6]) (.inl rfl) (by kernel_rfl))
     intro m206 v a w hF h
     obtain ⟨v217,v218⟩:=v
     rw [f79.l206] at hF
     refine wp_seq ?_
     refine wp_reg_seq tok (orc:=o0) (fz:=[]) (l:=[0,3,6,101]) (.inl rfl) h (by kernel_rfl) an fun a w h => ?_
     refine zi h hF (fun hF => ?_) (fun hF => ?_)
     ·refine wp_skip ?_
      refine wp_seq <| wp_block ?_
      obtain ⟨hc220,hF⟩:=of_if hF
      refine wp_reg tok (orc:=o0) (fz:=[]) (l:=[0,3,6]) (.inl rfl) h (by kernel_rfl) (ac hc220 an) fun a w h => ?_
      refine wp_reg tok (orc:=o0) (fz:=[]) (l:=[0,3,6]) (.inl rfl) h (by kernel_rfl) an fun a w h => ?_
      exact ⟨((v217 ++ [(v218,((iO,iO),((1:Int),((1:Int),iO))))]),(w64 (v218 - (1:Int)))),hF,h.arrive (fz:=[]) (l:=[0,3,6]) (.inl rfl) (by kernel_rfl)⟩
     ·refine wp_exit ?_
      exact ⟨(r205.2,v217),hF,h.arrive (fz:=[]) (l:=[0,3]) (.inl rfl) (by kernel_rfl)⟩
    ·refine wp_skip ?_
     exact ⟨(r184.2,v182),hF,h.arrive (fz:=[]) (l:=[0,3]) (.inl rfl) (by kernel_rfl)⟩
   ·rintro a w ⟨v,hF,h⟩
    obtain ⟨v202,v203⟩:=v
    rw [f79.j204] at hF
    refine wp_reg_seq tok (orc:=o0) (fz:=[]) (l:=[0,2,3]) (.inl rfl) h (by kernel_rfl) an fun a w h => ?_
    cases hF
    exact wp_ret (retO_ok tok h rfl (by kernel_rfl)).1
def f80.j77 (k:Nat) (v71:Int) (q41:(((List Int) × (Int × Int)) × (List Int) × Int)→Option ((List Int) × ((List Int) × (Int × Int)))):(((List Int) × (Int × Int)) × (List Int))→Option ((List Int) × ((List Int) × (Int × Int)))
 | (v75,v76) => q41 (v75,v76,(IntKind.i64.wrap (v71 + (1:Int))))
def f80.l41 (k:Nat):Nat → (((List Int) × (Int × Int)) × (List Int) × Int)→Option ((List Int) × ((List Int) × (Int × Int)))
 | 0,_ => none
 | m41+1,(v69,v70,v71) => if (decide (v71 < (22:Int))) then ((f145 k v69 (3:Int)).bind fun r78 => (if r78.1 then (if ((List.length v70+List.length [v71])*8≤140737488355328) then (f80.j77 k v71 ((f80.l41 k) m41) (r78.2,(v70 ++ [v71]))) else none) else (f80.j77 k v71 ((f80.l41 k) m41) (r78.2,v70)))) else (some (v70,v69))
def f80 (k:Nat) (x0:((List Int) × (Int × Int))):Option ((List Int) × ((List Int) × (Int × Int))):=f80.l41 k k (x0,([]:List Int),(8:Int))
theorem c80 (k:Nat) (x0:((List Int) × (Int × Int))) (r:((List Int) × ((List Int) × (Int × Int)))) (hF:f80 k x0=some r):PMut Try.prog 80 [⟨sh0,some x0⟩] [⟨(.sl true 2 iS),r.1⟩] (List.set [⟨sh0,some x0⟩] 0 ⟨sh0,some r.2⟩):=by
 refine pmutO_intro (j:=0) (fin:=⟨sh0,some r.2⟩) Try.func80 rfl rfl (Nat.le_of_ble_eq_true rfl) (Nat.le_of_ble_eq_true rfl) (by kernel_rfl) (by kernel_rfl) ?_
 intro w0 Zi f0 v0 hw a w h
 rw [f80] at hF
 refine wp_reg_seq tok (orc:=o0) (fz:=[]) (l:=[0]) (.inl rfl) h (by kernel_rfl) an fun a w h => ?_
 refine wp_reg_seq tok (orc:=o0) (fz:=[]) (l:=[0,3]) (.inl rfl) h (by kernel_rfl) an fun a w h => ?_
 refine wp_seq ?_
 refine wp_reg_seq tok (orc:=o0) (fz:=[]) (l:=[0,3,4]) (.inl rfl) h (by kernel_rfl) an fun a w h => ?_
 refine wp_block ?_
 refine wp_loop_fuel (f80.l41 k) (fun ((v69,v70,v71):(((List Int) × (Int × Int)) × (List Int) × Int)) => [(0,.val sh0 (some v69)),(3,.val (.sl true 2 iS) v70),(4,.val iS v71)]) (fun v h => by obtain ⟨v69,v70,v71⟩:=v; rw [f80.l41] at h; cases h) ?_ hF (h.arrive (fz:=[]) (l:=[0,3,4]) (.inl rfl) (by kernel_rfl))
 intro m41 v a w hF h
 obtain ⟨v69,v70,v71⟩:=v
 rw [f80.l41] at hF
 refine wp_seq ?_
 refine wp_reg_seq tok (orc:=o0) (fz:=[]) (l:=[0,3,4,7]) (.inl rfl) h (by kernel_rfl) an fun a w h => ?_
 refine zi h hF (fun hF => ?_) (fun hF => ?_)
 ·refine wp_skip ?_
  refine wp_mid (fun a w => ∃ v:(((List Int) × (Int × Int)) × (List Int)),f80.j77 k v71 ((f80.l41 k) m41) v=some r∧Rel w0 f0 Zi ⟨Try.f80.ntmps,[0],fun _ => v0⟩ ((fun ((v75,v76):(((List Int) × (Int × Int)) × (List Int))) => ([(0,.val sh0 (some v75)),(3,.val (.sl true 2 iS) v76),(4,.val iS v71)]:SS)) v) a w) ?_ ?_
  ·
   refine wp_block ?_
   obtain ⟨r78,hr80,hF⟩:=of_bind hF
   refine wp_reg_seq tok (orc:=orcL [(11,[⟨.pt false 4294967295 (.pt true 201 (.st (.pair (.sl false 5 (.int .u8)) (.pair iS iS)))),some (some r78.2)⟩,⟨.bool,r78.1⟩])]) (fz:=[]) (l:=[0,3,4,11]) (.inl rfl) h (by kernel_rfl) (ac (c145 k v69 (3:Int) r78 hr80) an) fun a w h => ?_
   refine zi h hF (fun hF => ?_) (fun hF => ?_)
   ·obtain ⟨hc79,hF⟩:=of_if hF
    refine wp_reg tok (orc:=o0) (fz:=[]) (l:=[0,3,4]) (.inl rfl) h (by kernel_rfl) (ac hc79 an) fun a w h => ?_
    exact ⟨(r78.2,(v70 ++ [v71])),hF,h.arrive (fz:=[]) (l:=[0,3,4]) (.inl rfl) (by kernel_rfl)⟩
   ·refine wp_skip ?_
    exact ⟨(r78.2,v70),hF,h.arrive (fz:=[]) (l:=[0,3,4]) (.inl rfl) (by kernel_rfl)⟩
  ·rintro a w ⟨v,hF,h⟩
   obtain ⟨v75,v76⟩:=v
   rw [f80.j77] at hF
   refine wp_reg tok (orc:=o0) (fz:=[]) (l:=[0,3,4]) (.inl rfl) h (by kernel_rfl) an fun a w h => ?_
   exact ⟨(v75,v76,(w64 (v71 + (1:Int)))),hF,h.arrive (fz:=[]) (l:=[0,3,4]) (.inl rfl) (by kernel_rfl)⟩
 ·refine wp_exit ?_
  refine wp_reg_seq tok (orc:=o0) (fz:=[]) (l:=[0,2,3]) (.inl rfl) h (by kernel_rfl) an fun a w h => ?_
  cases hF
  exact wp_ret (retO_ok tok h rfl (by kernel_rfl)).1
def f35 (k:Nat) (x0:(List Int)):Option ((List (Int × ((Int × Int) × (Int × (Int × Int))))) × (List Int)):=(f78 k x0).bind fun r1 => ((f79 k r1).bind fun r2 => ((f80 k r2.2).bind fun r3 => (some (r2.1,r3.1))))
theorem c35 (k:Nat) (x0:(List Int)) (r:((List (Int × ((Int × Int) × (Int × (Int × Int))))) × (List Int))) (hF:f35 k x0=some r):PCall Try.prog 35 [⟨(.sl false 5 (.int .u8)),x0⟩] [⟨sh1,r.1⟩,⟨(.sl true 2 iS),r.2⟩]:=by
 refine pcall_intro Try.func35 rfl rfl (Nat.le_of_ble_eq_true rfl) ?_
 intro w0 Zi a w h
 rw [f35] at hF
 refine zs [0] h an fun a w h => ?_
 obtain ⟨r1,hr6,hF⟩:=of_bind hF
 refine zc (orcL [(8,[⟨sh0,some r1⟩])]) [4] h (ac (c78 k x0 r1 hr6) an) fun a w h => ?_
 obtain ⟨r2,hr5,hF⟩:=of_bind hF
 refine zc (orcL [(10,[⟨.pt false 4294967295 (.pt true 201 (.st (.pair (.sl false 5 (.int .u8)) (.pair iS iS)))),some (some r2.2)⟩,⟨sh1,r2.1⟩])]) [4,5] h (ac (c79 k r1 r2 hr5) an) fun a w h => ?_
 obtain ⟨r3,hr4,hF⟩:=of_bind hF
 refine zc (orcL [(12,[⟨.pt false 4294967295 (.pt true 201 (.st (.pair (.sl false 5 (.int .u8)) (.pair iS iS)))),some (some r3.2)⟩,⟨(.sl true 2 iS),r3.1⟩])]) [5,6] h (ac (c80 k r2.2 r3 hr4) an) fun a w h => ?_
 refine zs [2,3,5,6] h an fun a w h => ?_
 cases hF
 exact wp_ret (ret_okR tok h rfl (by kernel_rfl)).1
def f146 (k:Nat) (x0:Int):Option Bool:=some (bif (decide (x0 ≥ (1:Int))) then (decide (x0 ≤ (1000000000:Int))) else false)
theorem c146 (k:Nat) (x0:Int) (r:Bool) (hF:f146 k x0=some r):PCall Try.prog 146 [⟨iS,x0⟩] [⟨.bool,r⟩]:=by
 refine pcall_intro Try.func146 rfl rfl (Nat.le_of_ble_eq_true rfl) ?_
 intro w0 Zi a w h
 rw [f146] at hF
 refine zs [0] h an fun a w h => ?_
 refine zs [2] h an fun a w h => ?_
 cases hF
 exact wp_ret (ret_okR tok h rfl (by kernel_rfl)).1
def f147 (k:Nat) (x0:(Int × Int)):Option Bool:=some (bif (bif (bif (decide (x0.1 ≥ (-10000000:Int))) then (decide (x0.1 ≤ (10000000:Int))) else false) then (decide (x0.2 ≥ (-10000000:Int))) else false) then (decide (x0.2 ≤ (10000000:Int))) else false)
theorem c147 (k:Nat) (x0:(Int × Int)) (r:Bool) (hF:f147 k x0=some r):PCall Try.prog 147 [⟨sh2,x0⟩] [⟨.bool,r⟩]:=by
 refine pcall_intro Try.func147 rfl rfl (Nat.le_of_ble_eq_true rfl) ?_
 intro w0 Zi a w h
 rw [f147] at hF
 refine zs [1] h an fun a w h => ?_
 refine zs [2] h an fun a w h => ?_
 cases hF
 exact wp_ret (ret_okR tok h rfl (by kernel_rfl)).1
def f81 (k:Nat) (x0:(Int × ((Int × Int) × (Int × (Int × Int))))):Option Bool:=(f146 k x0.1).bind fun r1 => ((if (r1=true) then f147 k x0.2.1 else some default).bind fun r2 => (some (bif (bif (bif (bif (bif (bif (bif r1 then r2 else false) then (decide (x0.2.2.1 ≥ (1:Int))) else false) then (decide (x0.2.2.1 ≤ (100000:Int))) else false) then (decide (x0.2.2.2.1 ≥ (1:Int))) else false) then (decide (x0.2.2.2.1 ≤ (100000:Int))) else false) then (decide (x0.2.2.2.2 ≥ (0:Int))) else false) then (decide (x0.2.2.2.2 ≤ (1000:Int))) else false)))
theorem c81 (k:Nat) (x0:(Int × ((Int × Int) × (Int × (Int × Int))))) (r:Bool) (hF:f81 k x0=some r):PCall Try.prog 81 [⟨sh3,x0⟩] [⟨.bool,r⟩]:=by
 refine pcall_intro Try.func81 rfl rfl (Nat.le_of_ble_eq_true rfl) ?_
 intro w0 Zi a w h
 rw [f81] at hF
 refine zs [1] h an fun a w h => ?_
 obtain ⟨r1,hr3,hF⟩:=of_bind hF
 obtain ⟨r2,hr4,hF⟩:=of_bind hF
 refine zc (orcL [(5,[⟨.bool,r1⟩]),(9,[⟨.bool,r2⟩])]) [2] h (ac (c146 k x0.1 r1 hr3) (ac (fun (hg:(r1=true)) => c147 k x0.2.1 r2 (of_g hg hr4)) an)) fun a w h => ?_
 cases hF
 exact wp_ret (ret_okR tok h rfl (by kernel_rfl)).1
def f32.l28 (k:Nat) (x0:(List (Int × ((Int × Int) × (Int × (Int × Int)))))):Nat → ((List (Int × Bool)) × Int)→Option Bool
 | 0,_ => none
 | m28+1,(v47,v48) => if (decide (v48 < (List.length x0:Int))) then (if (0≤v48∧v48 < (List.length x0:Int)) then ((f81 k (List.getD x0 (Int.toNat v48) ((0:Int),(((0:Int),(0:Int)),((0:Int),((0:Int),(0:Int))))))).bind fun r52 => (if (bif (!r52) then true else (mget (Sh.beq (.int .i64)) (some v47) (List.getD x0 (Int.toNat v48) ((0:Int),(((0:Int),(0:Int)),((0:Int),((0:Int),(0:Int)))))).1 false)) then (some false) else ((f32.l28 k x0) m28 ((mput (Sh.beq (.int .i64)) (List.getD x0 (Int.toNat v48) ((0:Int),(((0:Int),(0:Int)),((0:Int),((0:Int),(0:Int)))))).1 true v47),(IntKind.i64.wrap (v48 + (1:Int))))))) else none) else (some true)
def f32 (k:Nat) (x0:(List (Int × ((Int × Int) × (Int × (Int × Int)))))):Option Bool:=if (decide (((List.length x0:Int):Int) > (500:Int))) then (some false) else (f32.l28 k x0 k (([]:(List (Int × Bool))),(0:Int)))
theorem c32 (k:Nat) (x0:(List (Int × ((Int × Int) × (Int × (Int × Int)))))) (r:Bool) (hF:f32 k x0=some r):PCall Try.prog 32 [⟨sh5,x0⟩] [⟨.bool,r⟩]:=by
 refine pcall_intro Try.func32 rfl rfl (Nat.le_of_ble_eq_true rfl) ?_
 intro w0 Zi a w h
 rw [f32] at hF
 refine zs [0] h an fun a w h => ?_
 refine wp_seq ?_
 refine zs [0,8] h an fun a w h => ?_
 refine zi h hF (fun hF => ?_) (fun hF => ?_)
 ·refine zs [2] h an fun a w h => ?_
  cases hF
  exact wp_ret (ret_okR tok h rfl (by kernel_rfl)).1
 ·refine wp_skip ?_
  refine zs [0,3] h an fun a w h => ?_
  refine wp_seq ?_
  refine zs [3,10,11,12] h an fun a w h => ?_
  refine wp_block ?_
  refine wp_loop_fuel (f32.l28 k x0) (fun ((v47,v48):((List (Int × Bool)) × Int)) => [(3,.val sh4 (some v47)),(10,.val sh5 x0),(11,.val iS (List.length x0:Int)),(12,.val iS v48)]) (fun v h => by obtain ⟨v47,v48⟩:=v; rw [f32.l28] at h; cases h) ?_ hF (ar h [3,10,11,12])
  intro m28 v a w hF h
  obtain ⟨v47,v48⟩:=v
  rw [f32.l28] at hF
  refine zs [3,10,11,12,13] h an fun a w h => ?_
  refine wp_seq <| zi h hF (fun hF => ?_) (fun hF => ?_)
  ·refine wp_skip ?_
   refine wp_seq <| wp_block ?_
   obtain ⟨hc54,hF⟩:=of_if hF
   refine zs [3,5,10,11,12] h (ac hc54 an) fun a w h => ?_
   refine wp_seq ?_
   obtain ⟨r52,hr53,hF⟩:=of_bind hF
   refine zc (orcL [(17,[⟨.bool,r52⟩])]) [3,5,10,11,12,24] h (ac (c81 k (gD x0 (tZ v48) (iO,((iO,iO),(iO,(iO,iO))))) r52 hr53) (ac (fun (_:((!r52)=false)) => (show eqTy Try.prog 9 2 iS=true from by kernel_rfl)) an)) fun a w h => ?_
   refine zi h hF (fun hF => ?_) (fun hF => ?_)
   ·refine zs [2] h an fun a w h => ?_
    cases hF
    exact wp_ret (ret_okR tok h rfl (by kernel_rfl)).1
   ·refine wp_skip ?_
    refine zt [3,10,11,12] h (ac (show eqTy Try.prog 9 2 iS=true from by kernel_rfl) an) fun a w h => ?_
    refine zt [3,10,11,12] h an fun a w h => ?_
    exact ⟨((mput (Sh.beq iS) (gD x0 (tZ v48) (iO,((iO,iO),(iO,(iO,iO))))).1 true v47),(w64 (v48 + (1:Int)))),hF,ar h [3,10,11,12]⟩
  ·refine wp_exit ?_
   refine zs [2] h an fun a w h => ?_
   cases hF
   exact wp_ret (ret_okR tok h rfl (by kernel_rfl)).1
def f72 (k:Nat) (x0:(Int × ((Int × Int) × (Int × (Int × Int))))) (x1_0:(Option (List (Int × Bool)))):Option Int:=if (mget (Sh.beq (.int .i64)) x1_0 x0.1 false) then (some (IntKind.i64.wrap (x0.2.2.2.2 + (50:Int)))) else (some x0.2.2.2.2)
theorem c72 (k:Nat) (x0:(Int × ((Int × Int) × (Int × (Int × Int))))) (x1_0:(Option (List (Int × Bool)))) (r:Int) (hF:f72 k x0 x1_0=some r):PCall Try.prog 72 [⟨sh3,x0⟩,⟨sh7,(some x1_0)⟩] [⟨iS,r⟩]:=by
 refine pcall_intro Try.func72 rfl rfl (Nat.le_of_ble_eq_true rfl) ?_
 intro w0 Zi a w h
 rw [f72] at hF
 refine zs [1,2] h an fun a w h => ?_
 refine wp_seq ?_
 refine zs [2,7] h (ac (show eqTy Try.prog 9 2 iS=true from by kernel_rfl) an) fun a w h => ?_
 refine zi h hF (fun hF => ?_) (fun hF => ?_)
 ·refine zs [3] h an fun a w h => ?_
  cases hF
  exact wp_ret (ret_okR tok h rfl (by kernel_rfl)).1
 ·refine wp_skip ?_
  refine zs [3] h an fun a w h => ?_
  cases hF
  exact wp_ret (ret_okR tok h rfl (by kernel_rfl)).1
def f74 (k:Nat) (x0:Int) (x1:Int) (x2_0:(Option (List (Int × Bool)))) (x3_0:(List (Int × ((Int × Int) × (Int × (Int × Int)))))):Option Bool:=if (0≤x0∧x0 < (List.length x3_0:Int)) then ((f72 k (List.getD x3_0 (Int.toNat x0) ((0:Int),(((0:Int),(0:Int)),((0:Int),((0:Int),(0:Int)))))) x2_0).bind fun r1 => (if (0≤x1∧x1 < (List.length x3_0:Int)) then ((f72 k (List.getD x3_0 (Int.toNat x1) ((0:Int),(((0:Int),(0:Int)),((0:Int),((0:Int),(0:Int)))))) x2_0).bind fun r2 => (if (r1 != r2) then (some (decide (r1 > r2))) else (if (0≤x0∧x0 < (List.length x3_0:Int)) then (if (0≤x1∧x1 < (List.length x3_0:Int)) then (some (decide (((List.getD x3_0 (Int.toNat x0) ((0:Int),(((0:Int),(0:Int)),((0:Int),((0:Int),(0:Int)))))).1:Int) < (List.getD x3_0 (Int.toNat x1) ((0:Int),(((0:Int),(0:Int)),((0:Int),((0:Int),(0:Int)))))).1))) else none) else none))) else none)) else none
theorem c74 (k:Nat) (x0:Int) (x1:Int) (x2_0:(Option (List (Int × Bool)))) (x3_0:(List (Int × ((Int × Int) × (Int × (Int × Int)))))) (r:Bool) (hF:f74 k x0 x1 x2_0 x3_0=some r):PCall Try.prog 74 [⟨iS,x0⟩,⟨iS,x1⟩,⟨sh8,(some ((some x2_0),()))⟩,⟨sh9,(some x3_0)⟩] [⟨.bool,r⟩]:=by
 refine pcall_intro Try.func74 rfl rfl (Nat.le_of_ble_eq_true rfl) ?_
 intro w0 Zi a w h
 rw [f74] at hF
 refine zs [0,1,2,3] h an fun a w h => ?_
 refine wp_seq ?_
 obtain ⟨hc5,hF⟩:=of_if hF
 obtain ⟨r1,hr6,hF⟩:=of_bind hF
 obtain ⟨hc7,hF⟩:=of_if hF
 obtain ⟨r2,hr8,hF⟩:=of_bind hF
 refine wp_regy_seq tok (orc:=orcL [(14,[⟨iS,r1⟩]),(20,[⟨iS,r2⟩])]) (l:=[0,1,3,7,8]) ([],[],[],[]) 14 nw h (by kernel_rfl) (by kernel_rfl) (ac hc5 (ac (c72 k (gD x3_0 (tZ x0) (iO,((iO,iO),(iO,(iO,iO))))) x2_0 r1 hr6) (ac hc7 (ac (c72 k (gD x3_0 (tZ x1) (iO,((iO,iO),(iO,(iO,iO))))) x2_0 r2 hr8) an)))) fun a w h => ?_
 refine zs [0,1,3,7,8,23] h an fun a w h => ?_
 refine zi h hF (fun hF => ?_) (fun hF => ?_)
 ·refine zs [6] h an fun a w h => ?_
  cases hF
  exact wp_ret (ret_okR tok h rfl (by kernel_rfl)).1
 ·refine wp_skip ?_
  obtain ⟨hc3,hF⟩:=of_if hF
  obtain ⟨hc4,hF⟩:=of_if hF
  refine wp_regy_seq tok (orc:=o0) (l:=[6]) ([],[],[],[]) 12 nw h (by kernel_rfl) (by kernel_rfl) (ac hc3 (ac hc4 an)) fun a w h => ?_
  cases hF
  exact wp_ret (ret_okR tok h rfl (by kernel_rfl)).1
def f75 (k:Nat) (x0:(Int × ((Int × Int) × (Int × (Int × Int))))) (x1:(Int × ((Int × Int) × (Int × (Int × Int))))):Option Bool:=some (bif (bif (bif (decide (x0.2.1.1 < (IntKind.i64.wrap (x1.2.1.1+x1.2.2.1)))) then (decide (x1.2.1.1 < (IntKind.i64.wrap (x0.2.1.1+x0.2.2.1)))) else false) then (decide (x0.2.1.2 < (IntKind.i64.wrap (x1.2.1.2+x1.2.2.2.1)))) else false) then (decide (x1.2.1.2 < (IntKind.i64.wrap (x0.2.1.2+x0.2.2.2.1)))) else false)
theorem c75 (k:Nat) (x0:(Int × ((Int × Int) × (Int × (Int × Int))))) (x1:(Int × ((Int × Int) × (Int × (Int × Int))))) (r:Bool) (hF:f75 k x0 x1=some r):PCall Try.prog 75 [⟨sh3,x0⟩,⟨sh3,x1⟩] [⟨.bool,r⟩]:=by
 refine pcall_intro Try.func75 rfl rfl (Nat.le_of_ble_eq_true rfl) ?_
 intro w0 Zi a w h
 rw [f75] at hF
 refine zs [2,3] h an fun a w h => ?_
 refine zs [4] h an fun a w h => ?_
 cases hF
 exact wp_ret (ret_okR tok h rfl (by kernel_rfl)).1
def f76 (k:Nat) (x0:Int) (x1:Int) (x2_0:(List Int)):Option Bool:=if (0≤x0∧x0 < (List.length x2_0:Int)) then (if (0≤x1∧x1 < (List.length x2_0:Int)) then (some (decide (((List.getD x2_0 (Int.toNat x0) (0:Int)):Int) < (List.getD x2_0 (Int.toNat x1) (0:Int))))) else none) else none
theorem c76 (k:Nat) (x0:Int) (x1:Int) (x2_0:(List Int)) (r:Bool) (hF:f76 k x0 x1 x2_0=some r):PCall Try.prog 76 [⟨iS,x0⟩,⟨iS,x1⟩,⟨sh13,(some x2_0)⟩] [⟨.bool,r⟩]:=by
 refine pcall_intro Try.func76 rfl rfl (Nat.le_of_ble_eq_true rfl) ?_
 intro w0 Zi a w h
 rw [f76] at hF
 refine zs [0,1,2] h an fun a w h => ?_
 obtain ⟨hc1,hF⟩:=of_if hF
 obtain ⟨hc2,hF⟩:=of_if hF
 refine wp_regy_seq tok (orc:=o0) (l:=[5]) ([],[],[],[]) 10 nw h (by kernel_rfl) (by kernel_rfl) (ac hc1 (ac hc2 an)) fun a w h => ?_
 cases hF
 exact wp_ret (ret_okR tok h rfl (by kernel_rfl)).1
def H74:Prop:=∀ (k:Nat) (c0:(Option (List (Int × Bool)))),LessOk (α:=(Int × ((Int × Int) × (Int × (Int × Int))))) (Sh.dflt sh3) (fun (ys:List (Int × ((Int × Int) × (Int × (Int × Int))))) (i j:Int) => f74 k i j c0 ys)
def H76:Prop:=∀ (k:Nat),LessOk (α:=Int) (Sh.dflt iS) (fun (ys:List Int) (i j:Int) => f76 k i j ys)
def f15.j677 (k:Nat) (v619:Int) (q383:((List (Int × ((Int × Int) × (Int × (Int × Int))))) × Int)→Option (List Int)):(List (Int × ((Int × Int) × (Int × (Int × Int)))))→Option (List Int)
 | v676 => q383 (v676,(IntKind.i64.wrap (v619 + (1:Int))))
def f15.l705 (k:Nat) (v618:(List (Int × ((Int × Int) × (Int × (Int × Int)))))) (v28:(List (Int × Bool))) (x0:(List (Int × ((Int × Int) × (Int × (Int × Int)))))) (v619:Int) (q677:(List (Int × ((Int × Int) × (Int × (Int × Int)))))→Option (List Int)):Nat → (Bool × Int)→Option (List Int)
 | 0,_ => none
 | m705+1,(v724,v725) => if (decide (v725 < (List.length v618:Int))) then (if (0≤v725∧v725 < (List.length v618:Int)) then ((if (v724=true) then f75 k (List.getD (sortR (α:=(Int × ((Int × Int) × (Int × (Int × Int))))) pdqR (Sh.dflt sh3) (ofLess (fun (ys:List (Int × ((Int × Int) × (Int × (Int × Int))))) (i j:Int) => f74 k i j (some v28) ys)) (([]:(List (Int × ((Int × Int) × (Int × (Int × Int)))))) ++ x0)) (Int.toNat v619) ((0:Int),(((0:Int),(0:Int)),((0:Int),((0:Int),(0:Int)))))) (List.getD v618 (Int.toNat v725) ((0:Int),(((0:Int),(0:Int)),((0:Int),((0:Int),(0:Int)))))) else some default).bind fun r729 => ((f15.l705 k v618 v28 x0 v619 q677) m705 ((bif v724 then (!r729) else false),(IntKind.i64.wrap (v725 + (1:Int)))))) else none) else (if v724 then (if ((List.length v618+List.length [(List.getD (sortR (α:=(Int × ((Int × Int) × (Int × (Int × Int))))) pdqR (Sh.dflt sh3) (ofLess (fun (ys:List (Int × ((Int × Int) × (Int × (Int × Int))))) (i j:Int) => f74 k i j (some v28) ys)) (([]:(List (Int × ((Int × Int) × (Int × (Int × Int)))))) ++ x0)) (Int.toNat v619) ((0:Int),(((0:Int),(0:Int)),((0:Int),((0:Int),(0:Int))))))])*48≤140737488355328) then (q677 (v618 ++ [(List.getD (sortR (α:=(Int × ((Int × Int) × (Int × (Int × Int))))) pdqR (Sh.dflt sh3) (ofLess (fun (ys:List (Int × ((Int × Int) × (Int × (Int × Int))))) (i j:Int) => f74 k i j (some v28) ys)) (([]:(List (Int × ((Int × Int) × (Int × (Int × Int)))))) ++ x0)) (Int.toNat v619) ((0:Int),(((0:Int),(0:Int)),((0:Int),((0:Int),(0:Int))))))])) else none) else (q677 v618))
def f15.l755 (k:Nat) (v618:(List (Int × ((Int × Int) × (Int × (Int × Int)))))):Nat → ((List Int) × Int)→Option (List Int)
 | 0,_ => none
 | m755+1,(v770,v771) => if (decide (v771 < (List.length v618:Int))) then (if (0≤v771∧v771 < (List.length v618:Int)) then (if ((List.length v770+List.length [(List.getD v618 (Int.toNat v771) ((0:Int),(((0:Int),(0:Int)),((0:Int),((0:Int),(0:Int)))))).1])*8≤140737488355328) then ((f15.l755 k v618) m755 ((List.append v770 [(List.getD v618 (Int.toNat v771) ((0:Int),(((0:Int),(0:Int)),((0:Int),((0:Int),(0:Int)))))).1]),(IntKind.i64.wrap (v771 + (1:Int))))) else none) else none) else (if (List.length v770 < 2305843009213693952) then (some (sortR (α:=Int) pdqR (Sh.dflt (.int .i64)) (ofLess (fun (ys:List Int) (i j:Int) => f76 k i j ys)) v770)) else none)
def f15.l383 (k:Nat) (v28:(List (Int × Bool))) (x0:(List (Int × ((Int × Int) × (Int × (Int × Int)))))):Nat → ((List (Int × ((Int × Int) × (Int × (Int × Int))))) × Int)→Option (List Int)
 | 0,_ => none
 | m383+1,(v618,v619) => if (decide (v619 < (List.length (sortR (α:=(Int × ((Int × Int) × (Int × (Int × Int))))) pdqR (Sh.dflt sh3) (ofLess (fun (ys:List (Int × ((Int × Int) × (Int × (Int × Int))))) (i j:Int) => f74 k i j (some v28) ys)) (([]:(List (Int × ((Int × Int) × (Int × (Int × Int)))))) ++ x0)):Int))) then (if (0≤v619∧v619 < (List.length (sortR (α:=(Int × ((Int × Int) × (Int × (Int × Int))))) pdqR (Sh.dflt sh3) (ofLess (fun (ys:List (Int × ((Int × Int) × (Int × (Int × Int))))) (i j:Int) => f74 k i j (some v28) ys)) (([]:(List (Int × ((Int × Int) × (Int × (Int × Int)))))) ++ x0)):Int)) then (f15.l705 k v618 v28 x0 v619 (f15.j677 k v619 ((f15.l383 k v28 x0) m383)) k (true,(0:Int))) else none) else (f15.l755 k v618 k (([]:(List Int)),(0:Int)))
def f15.l17 (k:Nat) (x1:(List Int)) (x0:(List (Int × ((Int × Int) × (Int × (Int × Int)))))):Nat → ((List (Int × Bool)) × Int)→Option (List Int)
 | 0,_ => none
 | m17+1,(v28,v29) => if (decide (v29 < (List.length x1:Int))) then (if (0≤v29∧v29 < (List.length x1:Int)) then ((f15.l17 k x1 x0) m17 ((mput (Sh.beq (.int .i64)) (List.getD x1 (Int.toNat v29) (0:Int)) true v28),(IntKind.i64.wrap (v29 + (1:Int))))) else none) else (if ((List.length ([]:(List (Int × ((Int × Int) × (Int × (Int × Int))))))+List.length x0)*48≤140737488355328) then (if (List.length (([]:(List (Int × ((Int × Int) × (Int × (Int × Int)))))) ++ x0) < 2305843009213693952) then (f15.l383 k v28 x0 k (([]:(List (Int × ((Int × Int) × (Int × (Int × Int)))))),(0:Int))) else none) else none)
def f15 (k:Nat) (x0:(List (Int × ((Int × Int) × (Int × (Int × Int)))))) (x1:(List Int)):Option (List Int):=(f32 k x0).bind fun r1 => (if (bif (!r1) then true else (decide (((List.length x1:Int):Int) > (500:Int)))) then (some ([]:(List Int))) else (f15.l17 k x1 x0 k (([]:(List (Int × Bool))),(0:Int))))
theorem c15 (k:Nat) (x0:(List (Int × ((Int × Int) × (Int × (Int × Int)))))) (x1:(List Int)) (h74:H74) (h76:H76) (r:(List Int)) (hF:f15 k x0 x1=some r):PCall Try.prog 15 [⟨sh5,x0⟩,⟨(.sl false 2 iS),x1⟩] [⟨(.sl true 2 iS),r⟩]:=by
 refine pcall_intro Try.func15 rfl rfl (Nat.le_of_ble_eq_true rfl) ?_
 intro w0 Zi a w h
 rw [f15] at hF
 refine zs [0,1] h an fun a w h => ?_
 refine wp_seq ?_
 obtain ⟨r1,hr779,hF⟩:=of_bind hF
 refine zc (orcL [(20,[⟨.bool,r1⟩])]) [0,1,26] h (ac (c32 k x0 r1 hr779) an) fun a w h => ?_
 refine zi h hF (fun hF => ?_) (fun hF => ?_)
 ·refine zs [4] h an fun a w h => ?_
  cases hF
  exact wp_ret (ret_okR tok h rfl (by kernel_rfl)).1
 ·refine wp_skip ?_
  refine zs [0,1,5] h an fun a w h => ?_
  refine wp_seq ?_
  refine zs [0,5,28,29,30] h an fun a w h => ?_
  refine wp_block ?_
  refine wp_loop_fuel (f15.l17 k x1 x0) (fun ((v28,v29):((List (Int × Bool)) × Int)) => [(0,.val sh5 x0),(5,.val sh6 (some (some v28))),(28,.val (.sl false 2 iS) x1),(29,.val iS (List.length x1:Int)),(30,.val iS v29)]) (fun v h => by obtain ⟨v28,v29⟩:=v; rw [f15.l17] at h; cases h) ?_ hF (ar h [0,5,28,29,30])
  intro m17 v a w hF h
  obtain ⟨v28,v29⟩:=v
  rw [f15.l17] at hF
  refine zs [0,5,28,29,30,31] h an fun a w h => ?_
  refine wp_seq <| zi h hF (fun hF => ?_) (fun hF => ?_)
  ·refine wp_skip ?_
   refine wp_seq <| wp_block ?_
   obtain ⟨hc31,hF⟩:=of_if hF
   refine zs [0,5,7,28,29,30] h (ac hc31 an) fun a w h => ?_
   refine zt [0,5,28,29,30] h (ac (show eqTy Try.prog 9 2 iS=true from by kernel_rfl) an) fun a w h => ?_
   refine zt [0,5,28,29,30] h an fun a w h => ?_
   exact ⟨((mput (Sh.beq iS) (gD x1 (tZ v29) iO) true v28),(w64 (v29 + (1:Int)))),hF,ar h [0,5,28,29,30]⟩
  ·refine wp_exit ?_
   replace h:=Rel.freezeS (fz:=[5]) (.inr fun i h => h) h (by kernel_rfl)
   refine wp_seqX_seq (sxG_ok tok (orc:=o0) (sp:=[(0,.fnv)])) h (by kernel_rfl) an fun a w h => ?_
   replace h:=h.only [0,8] (by kernel_rfl)
   obtain ⟨hc778,hF⟩:=of_if hF
   refine zs [8,9] h (ac hc778 an) fun a w h => ?_
   obtain ⟨hc777,hF⟩:=of_if hF
   refine wp_sort_seq tok (fs:=73) (te:=54) (g:=74) (e:=sh3) (res:=pdqR) (cap:=#[.tmp 8,.tmp 9]) (cl:=[8,9]) (f:=(fun (ys:List (Int × ((Int × Int) × (Int × (Int × Int))))) (i j:Int) => f74 k i j (some v28) ys)) Go.Proofs.Ytnpaokckkbhdjaa.S.sc73_26 h rfl rfl rfl rfl rfl rfl rfl rfl rfl rfl rfl rfl rfl rfl (by kernel_rfl) (by kernel_rfl) (by kernel_rfl) rfl (by kernel_rfl) (by kernel_rfl) hc777 ⟨_,Try.func73,rfl,rfl⟩ ⟨_,Try.func74,rfl,rfl⟩ (h74 k (some v28)) (fun ys => ⟨[(8,[]),(9,[])],[⟨sh8,(some ((some (some v28)),()))⟩,⟨sh9,(some ys)⟩],by kernel_rfl,by kernel_rfl,fun i j r hr => c74 k i j (some v28) ys r hr⟩) fun a w h => ?_
   replace h:=h.only [9] (by kernel_rfl)
   refine zs [9,10] h an fun a w h => ?_
   refine wp_seq ?_
   refine zs [9,10,44,45,46] h an fun a w h => ?_
   refine wp_block ?_
   refine wp_loop_fuel (f15.l383 k v28 x0) (fun ((v618,v619):((List (Int × ((Int × Int) × (Int × (Int × Int))))) × Int)) => [(9,.val sh10 (some (sortR (α:=(Int × ((Int × Int) × (Int × (Int × Int))))) pdqR (Sh.dflt sh3) (ofLess (fun (ys:List (Int × ((Int × Int) × (Int × (Int × Int))))) (i j:Int) => f74 k i j (some v28) ys)) (([]:(List (Int × ((Int × Int) × (Int × (Int × Int)))))) ++ x0)))),(10,.val sh1 v618),(44,.copy 9 [.der]),(45,.val iS (List.length (sortR (α:=(Int × ((Int × Int) × (Int × (Int × Int))))) pdqR (Sh.dflt sh3) (ofLess (fun (ys:List (Int × ((Int × Int) × (Int × (Int × Int))))) (i j:Int) => f74 k i j (some v28) ys)) (([]:(List (Int × ((Int × Int) × (Int × (Int × Int)))))) ++ x0)):Int)),(46,.val iS v619)]) (fun v h => by obtain ⟨v618,v619⟩:=v; rw [f15.l383] at h; cases h) ?_ hF (ar h [9,10,44,45,46])
   intro m383 v a w hF h
   obtain ⟨v618,v619⟩:=v
   rw [f15.l383] at hF
   refine zs [9,10,44,45,46,47] h an fun a w h => ?_
   refine wp_seq <| zi h hF (fun hF => ?_) (fun hF => ?_)
   ·refine wp_skip ?_
    refine wp_mid (fun a w => ∃ v:(List (Int × ((Int × Int) × (Int × (Int × Int))))),f15.j677 k v619 ((f15.l383 k v28 x0) m383) v=some r∧Rel w0 (fun _ => False) Zi Try.f15.ntmps ((fun (v676:(List (Int × ((Int × Int) × (Int × (Int × Int)))))) => ([(9,.val sh10 (some (sortR (α:=(Int × ((Int × Int) × (Int × (Int × Int))))) pdqR (Sh.dflt sh3) (ofLess (fun (ys:List (Int × ((Int × Int) × (Int × (Int × Int))))) (i j:Int) => f74 k i j (some v28) ys)) (([]:(List (Int × ((Int × Int) × (Int × (Int × Int)))))) ++ x0)))),(10,.val sh1 v676),(44,.copy 9 [.der]),(45,.val iS (List.length (sortR (α:=(Int × ((Int × Int) × (Int × (Int × Int))))) pdqR (Sh.dflt sh3) (ofLess (fun (ys:List (Int × ((Int × Int) × (Int × (Int × Int))))) (i j:Int) => f74 k i j (some v28) ys)) (([]:(List (Int × ((Int × Int) × (Int × (Int × Int)))))) ++ x0)):Int)),(46,.val iS v619)]:SS)) v) a w) ?_ ?_
    ·
     refine wp_block ?_
     obtain ⟨hc733,hF⟩:=of_if hF
     refine zs [9,10,12,44,45,46] h (ac hc733 an) fun a w h => ?_
     refine zs [9,10,12,13,44,45,46] h an fun a w h => ?_
     refine wp_seq ?_
     refine zs [9,10,12,13,44,45,46,50,51,52] h an fun a w h => ?_
     refine wp_block ?_
     refine wp_loop_fuel (f15.l705 k v618 v28 x0 v619 (f15.j677 k v619 ((f15.l383 k v28 x0) m383))) (fun ((v724,v725):(Bool × Int)) => [(9,.val sh10 (some (sortR (α:=(Int × ((Int × Int) × (Int × (Int × Int))))) pdqR (Sh.dflt sh3) (ofLess (fun (ys:List (Int × ((Int × Int) × (Int × (Int × Int))))) (i j:Int) => f74 k i j (some v28) ys)) (([]:(List (Int × ((Int × Int) × (Int × (Int × Int)))))) ++ x0)))),(10,.val sh1 v618),(12,.val sh11 (some (gD (sortR (α:=(Int × ((Int × Int) × (Int × (Int × Int))))) pdqR (Sh.dflt sh3) (ofLess (fun (ys:List (Int × ((Int × Int) × (Int × (Int × Int))))) (i j:Int) => f74 k i j (some v28) ys)) (([]:(List (Int × ((Int × Int) × (Int × (Int × Int)))))) ++ x0)) (tZ v619) (iO,((iO,iO),(iO,(iO,iO))))))),(13,.val .bool v724),(44,.copy 9 [.der]),(45,.val iS (List.length (sortR (α:=(Int × ((Int × Int) × (Int × (Int × Int))))) pdqR (Sh.dflt sh3) (ofLess (fun (ys:List (Int × ((Int × Int) × (Int × (Int × Int))))) (i j:Int) => f74 k i j (some v28) ys)) (([]:(List (Int × ((Int × Int) × (Int × (Int × Int)))))) ++ x0)):Int)),(46,.val iS v619),(50,.copy 10 []),(51,.val iS (List.length v618:Int)),(52,.val iS v725)]) (fun v h => by obtain ⟨v724,v725⟩:=v; rw [f15.l705] at h; cases h) ?_ hF (ar h [9,10,12,13,44,45,46,50,51,52])
     intro m705 v a w hF h
     obtain ⟨v724,v725⟩:=v
     rw [f15.l705] at hF
     refine zs [9,10,12,13,44,45,46,50,51,52,53] h an fun a w h => ?_
     refine wp_seq <| zi h hF (fun hF => ?_) (fun hF => ?_)
     ·refine wp_skip ?_
      refine wp_seq <| wp_block ?_
      obtain ⟨hc731,hF⟩:=of_if hF
      refine zs [9,10,12,13,15,44,45,46,50,51,52] h (ac hc731 an) fun a w h => ?_
      obtain ⟨r729,hr730,hF⟩:=of_bind hF
      refine zd (orcL [(60,[⟨.bool,r729⟩])]) [9,10,12,13,44,45,46,50,51,52] h (ac (fun (hg:(v724=true)) => c75 k (gD (sortR (α:=(Int × ((Int × Int) × (Int × (Int × Int))))) pdqR (Sh.dflt sh3) (ofLess (fun (ys:List (Int × ((Int × Int) × (Int × (Int × Int))))) (i j:Int) => f74 k i j (some v28) ys)) (([]:(List (Int × ((Int × Int) × (Int × (Int × Int)))))) ++ x0)) (tZ v619) (iO,((iO,iO),(iO,(iO,iO))))) (gD v618 (tZ v725) (iO,((iO,iO),(iO,(iO,iO))))) r729 (of_g hg hr730)) an) fun a w h => ?_
      refine zt [9,10,12,13,44,45,46,50,51,52] h an fun a w h => ?_
      exact ⟨((bif v724 then (!r729) else false),(w64 (v725 + (1:Int)))),hF,ar h [9,10,12,13,44,45,46,50,51,52]⟩
     ·refine wp_exit ?_
      refine zs [9,10,12,44,45,46,64] h an fun a w h => ?_
      refine zi h hF (fun hF => ?_) (fun hF => ?_)
      ·obtain ⟨hc732,hF⟩:=of_if hF
       refine zt [9,10,44,45,46] h (ac hc732 an) fun a w h => ?_
       exact ⟨(v618 ++ [(gD (sortR (α:=(Int × ((Int × Int) × (Int × (Int × Int))))) pdqR (Sh.dflt sh3) (ofLess (fun (ys:List (Int × ((Int × Int) × (Int × (Int × Int))))) (i j:Int) => f74 k i j (some v28) ys)) (([]:(List (Int × ((Int × Int) × (Int × (Int × Int)))))) ++ x0)) (tZ v619) (iO,((iO,iO),(iO,(iO,iO)))))]),hF,ar h [9,10,44,45,46]⟩
      ·refine wp_skip ?_
       exact ⟨v618,hF,ar h [9,10,44,45,46]⟩
    ·rintro a w ⟨v676,hF,h⟩
     rw [f15.j677] at hF
     refine zt [9,10,44,45,46] h an fun a w h => ?_
     exact ⟨(v676,(w64 (v619 + (1:Int)))),hF,ar h [9,10,44,45,46]⟩
   ·refine wp_exit ?_
    refine zs [10,16] h an fun a w h => ?_
    refine wp_seq ?_
    refine zs [10,16,70,71,72] h an fun a w h => ?_
    refine wp_block ?_
    refine wp_loop_fuel (f15.l755 k v618) (fun ((v770,v771):((List Int) × Int)) => [(10,.val sh1 v618),(16,.val sh12 (some v770)),(70,.copy 10 []),(71,.val iS (List.length v618:Int)),(72,.val iS v771)]) (fun v h => by obtain ⟨v770,v771⟩:=v; rw [f15.l755] at h; cases h) ?_ hF (ar h [10,16,70,71,72])
    intro m755 v a w hF h
    obtain ⟨v770,v771⟩:=v
    rw [f15.l755] at hF
    refine zs [10,16,70,71,72,73] h an fun a w h => ?_
    refine wp_seq <| zi h hF (fun hF => ?_) (fun hF => ?_)
    ·refine wp_skip ?_
     refine wp_seq <| wp_block ?_
     obtain ⟨hc775,hF⟩:=of_if hF
     refine zs [10,16,18,70,71,72] h (ac hc775 an) fun a w h => ?_
     obtain ⟨hc774,hF⟩:=of_if hF
     refine zd (orcL [(80,[⟨.pt false 4294967293 .unit,some ()⟩])]) [10,16,70,71,72] h (ac (PrefL.mk (l:=[[.der]]) (p:=[.der]) rfl) (ac hc774 (ac (show ([.der]:Path)=[.der] from rfl) an))) fun a w h => ?_
     refine zt [10,16,70,71,72] h an fun a w h => ?_
     exact ⟨((List.append v770 [(gD v618 (tZ v771) (iO,((iO,iO),(iO,(iO,iO))))).1]),(w64 (v771 + (1:Int)))),hF,ar h [10,16,70,71,72]⟩
    ·refine wp_exit ?_
     obtain ⟨hc776,hF⟩:=of_if hF
     refine wp_sort_seq tok (fs:=73) (te:=2) (g:=76) (e:=iS) (res:=pdqR) (cap:=#[.tmp 16]) (cl:=[16]) (f:=(fun (ys:List Int) (i j:Int) => f76 k i j ys)) Go.Proofs.Ytnpaokckkbhdjaa.S.sc73_23 h rfl rfl rfl rfl rfl rfl rfl rfl rfl rfl rfl rfl rfl rfl (by kernel_rfl) (by kernel_rfl) (by kernel_rfl) rfl (by kernel_rfl) (by kernel_rfl) hc776 ⟨_,Try.func73,rfl,rfl⟩ ⟨_,Try.func76,rfl,rfl⟩ (h76 k) (fun ys => ⟨[(16,[])],[⟨sh13,(some ys)⟩],by kernel_rfl,by kernel_rfl,fun i j r hr => c76 k i j ys r hr⟩) fun a w h => ?_
     replace h:=h.only [16] (by kernel_rfl)
     refine zs [4,16] h an fun a w h => ?_
     cases hF
     exact wp_ret (ret_okR tok h rfl (by kernel_rfl)).1
def f82.j82 (k:Nat) (v78:Int) (q58:((List (Int × ((Int × Int) × (Int × (Int × Int))))) × Int)→Option (List (Int × ((Int × Int) × (Int × (Int × Int)))))):(List (Int × ((Int × Int) × (Int × (Int × Int)))))→Option (List (Int × ((Int × Int) × (Int × (Int × Int)))))
 | v81 => q58 (v81,(IntKind.i64.wrap (v78 + (1:Int))))
def f82.l58 (k:Nat) (x0:(List (Int × ((Int × Int) × (Int × (Int × Int)))))) (v27:(List (Int × Bool))):Nat → ((List (Int × ((Int × Int) × (Int × (Int × Int))))) × Int)→Option (List (Int × ((Int × Int) × (Int × (Int × Int)))))
 | 0,_ => none
 | m58+1,(v77,v78) => if (decide (v78 < (List.length x0:Int))) then (if (0≤v78∧v78 < (List.length x0:Int)) then (if (mget (Sh.beq (.int .i64)) (some v27) (List.getD x0 (Int.toNat v78) ((0:Int),(((0:Int),(0:Int)),((0:Int),((0:Int),(0:Int)))))).1 false) then (if ((List.length v77+List.length [(List.getD x0 (Int.toNat v78) ((0:Int),(((0:Int),(0:Int)),((0:Int),((0:Int),(0:Int))))))])*48≤140737488355328) then (f82.j82 k v78 ((f82.l58 k x0 v27) m58) (v77 ++ [(List.getD x0 (Int.toNat v78) ((0:Int),(((0:Int),(0:Int)),((0:Int),((0:Int),(0:Int))))))])) else none) else (f82.j82 k v78 ((f82.l58 k x0 v27) m58) v77)) else none) else (some v77)
def f82.l16 (k:Nat) (x1:(List Int)) (x0:(List (Int × ((Int × Int) × (Int × (Int × Int)))))):Nat → ((List (Int × Bool)) × Int)→Option (List (Int × ((Int × Int) × (Int × (Int × Int)))))
 | 0,_ => none
 | m16+1,(v27,v28) => if (decide (v28 < (List.length x1:Int))) then (if (0≤v28∧v28 < (List.length x1:Int)) then ((f82.l16 k x1 x0) m16 ((mput (Sh.beq (.int .i64)) (List.getD x1 (Int.toNat v28) (0:Int)) true v27),(IntKind.i64.wrap (v28 + (1:Int))))) else none) else (f82.l58 k x0 v27 k (([]:(List (Int × ((Int × Int) × (Int × (Int × Int)))))),(0:Int)))
def f82 (k:Nat) (x0:(List (Int × ((Int × Int) × (Int × (Int × Int)))))) (x1:(List Int)):Option (List (Int × ((Int × Int) × (Int × (Int × Int))))):=f82.l16 k x1 x0 k (([]:(List (Int × Bool))),(0:Int))
theorem c82 (k:Nat) (x0:(List (Int × ((Int × Int) × (Int × (Int × Int)))))) (x1:(List Int)) (r:(List (Int × ((Int × Int) × (Int × (Int × Int)))))) (hF:f82 k x0 x1=some r):PCall Try.prog 82 [⟨sh5,x0⟩,⟨(.sl false 2 iS),x1⟩] [⟨sh1,r⟩]:=by
 refine pcall_intro Try.func82 rfl rfl (Nat.le_of_ble_eq_true rfl) ?_
 intro w0 Zi a w h
 rw [f82] at hF
 refine zs [0,1] h an fun a w h => ?_
 refine zs [0,1,5] h an fun a w h => ?_
 refine wp_seq ?_
 refine zs [0,5,12,13,14] h an fun a w h => ?_
 refine wp_block ?_
 refine wp_loop_fuel (f82.l16 k x1 x0) (fun ((v27,v28):((List (Int × Bool)) × Int)) => [(0,.val sh5 x0),(5,.val sh4 (some v27)),(12,.val (.sl false 2 iS) x1),(13,.val iS (List.length x1:Int)),(14,.val iS v28)]) (fun v h => by obtain ⟨v27,v28⟩:=v; rw [f82.l16] at h; cases h) ?_ hF (ar h [0,5,12,13,14])
 intro m16 v a w hF h
 obtain ⟨v27,v28⟩:=v
 rw [f82.l16] at hF
 refine zs [0,5,12,13,14,15] h an fun a w h => ?_
 refine wp_seq <| zi h hF (fun hF => ?_) (fun hF => ?_)
 ·refine wp_skip ?_
  refine wp_seq <| wp_block ?_
  obtain ⟨hc30,hF⟩:=of_if hF
  refine zs [0,5,7,12,13,14] h (ac hc30 an) fun a w h => ?_
  refine zt [0,5,12,13,14] h (ac (show eqTy Try.prog 9 2 iS=true from by kernel_rfl) an) fun a w h => ?_
  refine zt [0,5,12,13,14] h an fun a w h => ?_
  exact ⟨((mput (Sh.beq iS) (gD x1 (tZ v28) iO) true v27),(w64 (v28 + (1:Int)))),hF,ar h [0,5,12,13,14]⟩
 ·refine wp_exit ?_
  refine zs [0,5,8] h an fun a w h => ?_
  refine wp_seq ?_
  refine zs [5,8,21,22,23] h an fun a w h => ?_
  refine wp_block ?_
  refine wp_loop_fuel (f82.l58 k x0 v27) (fun ((v77,v78):((List (Int × ((Int × Int) × (Int × (Int × Int))))) × Int)) => [(5,.val sh4 (some v27)),(8,.val sh1 v77),(21,.val sh5 x0),(22,.val iS (List.length x0:Int)),(23,.val iS v78)]) (fun v h => by obtain ⟨v77,v78⟩:=v; rw [f82.l58] at h; cases h) ?_ hF (ar h [5,8,21,22,23])
  intro m58 v a w hF h
  obtain ⟨v77,v78⟩:=v
  rw [f82.l58] at hF
  refine zs [5,8,21,22,23,24] h an fun a w h => ?_
  refine wp_seq <| zi h hF (fun hF => ?_) (fun hF => ?_)
  ·refine wp_skip ?_
   refine wp_mid (fun a w => ∃ v:(List (Int × ((Int × Int) × (Int × (Int × Int))))),f82.j82 k v78 ((f82.l58 k x0 v27) m58) v=some r∧Rel w0 (fun _ => False) Zi Try.f82.ntmps ((fun (v81:(List (Int × ((Int × Int) × (Int × (Int × Int)))))) => ([(5,.val sh4 (some v27)),(8,.val sh1 v81),(21,.val sh5 x0),(22,.val iS (List.length x0:Int)),(23,.val iS v78)]:SS)) v) a w) ?_ ?_
   ·
    refine wp_block ?_
    obtain ⟨hc84,hF⟩:=of_if hF
    refine zs [5,8,10,21,22,23] h (ac hc84 an) fun a w h => ?_
    refine zs [5,8,10,21,22,23,30] h (ac (show eqTy Try.prog 9 2 iS=true from by kernel_rfl) an) fun a w h => ?_
    refine zi h hF (fun hF => ?_) (fun hF => ?_)
    ·obtain ⟨hc83,hF⟩:=of_if hF
     refine zt [5,8,21,22,23] h (ac hc83 an) fun a w h => ?_
     exact ⟨(v77 ++ [(gD x0 (tZ v78) (iO,((iO,iO),(iO,(iO,iO)))))]),hF,ar h [5,8,21,22,23]⟩
    ·refine wp_skip ?_
     exact ⟨v77,hF,ar h [5,8,21,22,23]⟩
   ·rintro a w ⟨v81,hF,h⟩
    rw [f82.j82] at hF
    refine zt [5,8,21,22,23] h an fun a w h => ?_
    exact ⟨(v81,(w64 (v78 + (1:Int)))),hF,ar h [5,8,21,22,23]⟩
  ·refine wp_exit ?_
   refine zs [4,8] h an fun a w h => ?_
   cases hF
   exact wp_ret (ret_okR tok h rfl (by kernel_rfl)).1
def f36.l332 (k:Nat) (v302:Int) (r2:(List (Int × ((Int × Int) × (Int × (Int × Int)))))) (q182:Int→Option Bool):Nat→Int→Option Bool
 | 0,_ => none
 | m332+1,v352 => if (decide (v352 < v302)) then (if (0≤v302∧v302 < (List.length r2:Int)) then (if (0≤v352∧v352 < (List.length r2:Int)) then ((f75 k (List.getD r2 (Int.toNat v302) ((0:Int),(((0:Int),(0:Int)),((0:Int),((0:Int),(0:Int)))))) (List.getD r2 (Int.toNat v352) ((0:Int),(((0:Int),(0:Int)),((0:Int),((0:Int),(0:Int))))))).bind fun r357 => (if r357 then (some false) else ((f36.l332 k v302 r2 q182) m332 (IntKind.i64.wrap (v352 + (1:Int)))))) else none) else none) else (q182 (IntKind.i64.wrap (v302 + (1:Int))))
def f36.l182 (k:Nat) (r2:(List (Int × ((Int × Int) × (Int × (Int × Int)))))):Nat→Int→Option Bool
 | 0,_ => none
 | m182+1,v302 => if (decide (v302 < (List.length r2:Int))) then (f36.l332 k v302 r2 ((f36.l182 k r2) m182) k (0:Int)) else (some true)
def f36 (k:Nat) (x0:(List (Int × ((Int × Int) × (Int × (Int × Int)))))) (x1:(List Int)):Option Bool:=(f32 k x0).bind fun r1 => (if (!r1) then (some false) else ((f82 k x0 x1).bind fun r2 => (f36.l182 k r2 k (0:Int))))
theorem c36 (k:Nat) (x0:(List (Int × ((Int × Int) × (Int × (Int × Int)))))) (x1:(List Int)) (r:Bool) (hF:f36 k x0 x1=some r):PCall Try.prog 36 [⟨sh5,x0⟩,⟨(.sl false 2 iS),x1⟩] [⟨.bool,r⟩]:=by
 refine pcall_intro Try.func36 rfl rfl (Nat.le_of_ble_eq_true rfl) ?_
 intro w0 Zi a w h
 rw [f36] at hF
 refine zs [0,1] h an fun a w h => ?_
 refine wp_seq ?_
 obtain ⟨r1,hr362,hF⟩:=of_bind hF
 refine zc (orcL [(9,[⟨.bool,r1⟩])]) [0,1,10] h (ac (c32 k x0 r1 hr362) an) fun a w h => ?_
 refine zi h hF (fun hF => ?_) (fun hF => ?_)
 ·refine zs [4] h an fun a w h => ?_
  cases hF
  exact wp_ret (ret_okR tok h rfl (by kernel_rfl)).1
 ·refine wp_skip ?_
  obtain ⟨r2,hr361,hF⟩:=of_bind hF
  refine zc (orcL [(13,[⟨sh1,r2⟩])]) [5] h (ac (c82 k x0 x1 r2 hr361) an) fun a w h => ?_
  refine wp_seq ?_
  refine zs [5,15,16] h an fun a w h => ?_
  refine wp_block ?_
  refine wp_loop_fuel (f36.l182 k r2) (fun v302 => [(5,.val sh1 r2),(15,.val iS (List.length r2:Int)),(16,.val iS v302)]) (fun v h => by rw [f36.l182] at h; cases h) ?_ hF (ar h [5,15,16])
  intro m182 v302 a w hF h
  rw [f36.l182] at hF
  refine zs [5,15,16,17] h an fun a w h => ?_
  refine wp_seq <| zi h hF (fun hF => ?_) (fun hF => ?_)
  ·refine wp_skip ?_
   refine wp_seq <| wp_block ?_
   refine zs [5,6,15,16] h an fun a w h => ?_
   refine zs [5,6,15,16,19,20] h an fun a w h => ?_
   refine wp_block ?_
   refine wp_loop_fuel (f36.l332 k v302 r2 ((f36.l182 k r2) m182)) (fun v352 => [(5,.val sh1 r2),(6,.val iS v302),(15,.val iS (List.length r2:Int)),(16,.val iS v302),(19,.val iS v302),(20,.val iS v352)]) (fun v h => by rw [f36.l332] at h; cases h) ?_ hF (ar h [5,6,15,16,19,20])
   intro m332 v352 a w hF h
   rw [f36.l332] at hF
   refine zs [5,6,15,16,19,20,21] h an fun a w h => ?_
   refine wp_seq <| zi h hF (fun hF => ?_) (fun hF => ?_)
   ·refine wp_skip ?_
    refine wp_seq <| wp_block ?_
    refine zs [5,6,7,15,16,19,20] h an fun a w h => ?_
    obtain ⟨hc358,hF⟩:=of_if hF
    obtain ⟨hc359,hF⟩:=of_if hF
    obtain ⟨r357,hr360,hF⟩:=of_bind hF
    refine wp_regy_seq tok (orc:=orcL [(31,[⟨.bool,r357⟩])]) (l:=[5,6,15,16,19,20,31]) ([],[],[],[]) 9 nw h (by kernel_rfl) (by kernel_rfl) (ac hc358 (ac hc359 (ac (c75 k (gD r2 (tZ v302) (iO,((iO,iO),(iO,(iO,iO))))) (gD r2 (tZ v352) (iO,((iO,iO),(iO,(iO,iO))))) r357 hr360) an))) fun a w h => ?_
    refine zi h hF (fun hF => ?_) (fun hF => ?_)
    ·refine zs [4] h an fun a w h => ?_
     cases hF
     exact wp_ret (ret_okR tok h rfl (by kernel_rfl)).1
    ·refine wp_skip ?_
     refine zt [5,6,15,16,19,20] h an fun a w h => ?_
     exact ⟨(w64 (v352 + (1:Int))),hF,ar h [5,6,15,16,19,20]⟩
   ·refine wp_exit ?_
    refine zt [5,15,16] h an fun a w h => ?_
    exact ⟨(w64 (v302 + (1:Int))),hF,ar h [5,15,16]⟩
  ·refine wp_exit ?_
   refine zs [4] h an fun a w h => ?_
   cases hF
   exact wp_ret (ret_okR tok h rfl (by kernel_rfl)).1
def f34.l12 (k:Nat) (x0:(List Int)) (x1:Int):Nat→Int→Option Bool
 | 0,_ => none
 | m12+1,v20 => if (decide (v20 < (List.length x0:Int))) then (if (0≤v20∧v20 < (List.length x0:Int)) then (if (((List.getD x0 (Int.toNat v20) (0:Int)):Int) == x1) then (some true) else ((f34.l12 k x0 x1) m12 (IntKind.i64.wrap (v20 + (1:Int))))) else none) else (some false)
def f34 (k:Nat) (x0:(List Int)) (x1:Int):Option Bool:=f34.l12 k x0 x1 k (0:Int)
theorem c34 (k:Nat) (x0:(List Int)) (x1:Int) (r:Bool) (hF:f34 k x0 x1=some r):PCall Try.prog 34 [⟨(.sl false 2 iS),x0⟩,⟨iS,x1⟩] [⟨.bool,r⟩]:=by
 refine pcall_intro Try.func34 rfl rfl (Nat.le_of_ble_eq_true rfl) ?_
 intro w0 Zi a w h
 rw [f34] at hF
 refine zs [0,1] h an fun a w h => ?_
 refine wp_seq ?_
 refine zs [0,1,5] h an fun a w h => ?_
 refine wp_block ?_
 refine wp_loop_fuel (f34.l12 k x0 x1) (fun v20 => [(0,.val (.sl false 2 iS) x0),(1,.val iS x1),(5,.val iS v20)]) (fun v h => by rw [f34.l12] at h; cases h) ?_ hF (ar h [0,1,5])
 intro m12 v20 a w hF h
 rw [f34.l12] at hF
 refine wp_seq ?_
 refine zs [0,1,5,9] h an fun a w h => ?_
 refine zi h hF (fun hF => ?_) (fun hF => ?_)
 ·refine wp_skip ?_
  refine wp_seq <| wp_block ?_
  obtain ⟨hc22,hF⟩:=of_if hF
  refine zs [0,1,5,17] h (ac hc22 an) fun a w h => ?_
  refine zi h hF (fun hF => ?_) (fun hF => ?_)
  ·refine zs [4] h an fun a w h => ?_
   cases hF
   exact wp_ret (ret_okR tok h rfl (by kernel_rfl)).1
  ·refine wp_skip ?_
   refine zt [0,1,5] h an fun a w h => ?_
   exact ⟨(w64 (v20 + (1:Int))),hF,ar h [0,1,5]⟩
 ·refine wp_exit ?_
  refine zs [4] h an fun a w h => ?_
  cases hF
  exact wp_ret (ret_okR tok h rfl (by kernel_rfl)).1
def f37 (k:Nat) (x0:(Int × ((Int × Int) × (Int × (Int × Int))))) (x1:(Int × ((Int × Int) × (Int × (Int × Int))))):Option Bool:=(f81 k x0).bind fun r1 => ((if (r1=true) then f81 k x1 else some default).bind fun r2 => ((if ((bif r1 then r2 else false)=true) then f75 k x0 x1 else some default).bind fun r3 => (some (bif (bif r1 then r2 else false) then r3 else false))))
theorem c37 (k:Nat) (x0:(Int × ((Int × Int) × (Int × (Int × Int))))) (x1:(Int × ((Int × Int) × (Int × (Int × Int))))) (r:Bool) (hF:f37 k x0 x1=some r):PCall Try.prog 37 [⟨sh3,x0⟩,⟨sh3,x1⟩] [⟨.bool,r⟩]:=by
 refine pcall_intro Try.func37 rfl rfl (Nat.le_of_ble_eq_true rfl) ?_
 intro w0 Zi a w h
 rw [f37] at hF
 refine zs [2,3] h an fun a w h => ?_
 obtain ⟨r1,hr4,hF⟩:=of_bind hF
 obtain ⟨r2,hr5,hF⟩:=of_bind hF
 obtain ⟨r3,hr6,hF⟩:=of_bind hF
 refine zc (orcL [(6,[⟨.bool,r1⟩]),(9,[⟨.bool,r2⟩]),(14,[⟨.bool,r3⟩])]) [4] h (ac (c81 k x0 r1 hr4) (ac (fun (hg:(r1=true)) => c81 k x1 r2 (of_g hg hr5)) (ac (fun (hg:((bif r1 then r2 else false)=true)) => c75 k x0 x1 r3 (of_g hg hr6)) an))) fun a w h => ?_
 cases hF
 exact wp_ret (ret_okR tok h rfl (by kernel_rfl)).1
def f38 (k:Nat) (x0:(Int × ((Int × Int) × (Int × (Int × Int))))) (x1:(List Int)):Option Int:=(f34 k x1 x0.1).bind fun r1 => (if r1 then (some (IntKind.i64.wrap (x0.2.2.2.2 + (50:Int)))) else (some x0.2.2.2.2))
theorem c38 (k:Nat) (x0:(Int × ((Int × Int) × (Int × (Int × Int))))) (x1:(List Int)) (r:Int) (hF:f38 k x0 x1=some r):PCall Try.prog 38 [⟨sh3,x0⟩,⟨(.sl false 2 iS),x1⟩] [⟨iS,r⟩]:=by
 refine pcall_intro Try.func38 rfl rfl (Nat.le_of_ble_eq_true rfl) ?_
 intro w0 Zi a w h
 rw [f38] at hF
 refine zs [1,2] h an fun a w h => ?_
 refine wp_seq ?_
 obtain ⟨r1,hr2,hF⟩:=of_bind hF
 refine zc (orcL [(8,[⟨.bool,r1⟩])]) [2,8] h (ac (c34 k x1 x0.1 r1 hr2) an) fun a w h => ?_
 refine zi h hF (fun hF => ?_) (fun hF => ?_)
 ·refine zs [4] h an fun a w h => ?_
  cases hF
  exact wp_ret (ret_okR tok h rfl (by kernel_rfl)).1
 ·refine wp_skip ?_
  refine zs [4] h an fun a w h => ?_
  cases hF
  exact wp_ret (ret_okR tok h rfl (by kernel_rfl)).1
def f24.j47 (k:Nat):(List (List Int))→Option (List (List Int))
 | v46 => some v46
def f24.l53 (k:Nat) (x0:(List (List (Int × ((Int × Int) × (Int × (Int × Int))))))) (q47:(List (List Int))→Option (List (List Int))):Nat → ((List (List Int)) × Nat × Int)→Option (List (List Int))
 | 0,_ => none
 | m53+1,(v79,v80,v81) => if (decide (v81 < (List.length x0:Int))) then (if (0≤v81∧v81 < (List.length x0:Int)) then ((f15 k (List.getD x0 (Int.toNat v81) ([]:(List (Int × ((Int × Int) × (Int × (Int × Int))))))) (List.getD v79 v80 ([]:(List Int)))).bind fun r86 => (if ((List.length v79+1)*24≤140737488355328) then ((f24.l53 k x0 q47) m53 ((List.append v79 [r86]),(List.length v79),(IntKind.i64.wrap (v81 + (1:Int))))) else none)) else none) else (q47 v79)
def f24 (k:Nat) (x0:(List (List (Int × ((Int × Int) × (Int × (Int × Int))))))):Option (List (List Int)):=if (decide (((List.length x0:Int):Int) > (30:Int))) then (some ([]:(List (List Int)))) else (if (decide (((0:Int):Int) < (List.length x0:Int))) then (if (0 ≤ (0:Int) ∧ (0:Int) < (List.length x0:Int)) then ((f15 k (List.getD x0 (Int.toNat (0:Int)) ([]:(List (Int × ((Int × Int) × (Int × (Int × Int))))))) ([]:(List Int))).bind fun r52 => (if ((List.length ([]:(List (List Int)))+1)*24≤140737488355328) then (f24.l53 k x0 (f24.j47 k) k ((List.append ([]:(List (List Int))) [r52]),(List.length ([]:(List (List Int)))),(IntKind.i64.wrap ((0:Int) + (1:Int))))) else none)) else none) else (f24.j47 k ([]:(List (List Int)))))
theorem c24 (k:Nat) (x0:(List (List (Int × ((Int × Int) × (Int × (Int × Int))))))) (h74:H74) (h76:H76) (r:(List (List Int))) (hF:f24 k x0=some r):PCall Try.prog 24 [⟨sh15,x0⟩] [⟨sh14,r⟩]:=by
 refine pcall_intro Try.func24 rfl rfl (Nat.le_of_ble_eq_true rfl) ?_
 intro w0 Zi a w h
 rw [f24] at hF
 refine zs [0] h an fun a w h => ?_
 refine wp_seq ?_
 refine zs [0,9] h an fun a w h => ?_
 refine zi h hF (fun hF => ?_) (fun hF => ?_)
 ·refine zs [2] h an fun a w h => ?_
  cases hF
  exact wp_ret (ret_okR tok h rfl (by kernel_rfl)).1
 ·refine wp_skip ?_
  refine zs [0,3] h an fun a w h => ?_
  refine zs [0,3,4] h an fun a w h => ?_
  refine wp_seq ?_
  refine zs [3,4,10,11,12] h an fun a w h => ?_
  refine wp_midT (fun a w => ∃ v:(List (List Int)),f24.j47 k v=some r∧Rel w0 (fun _ => False) Zi Try.f24.ntmps ((fun (v46:(List (List Int))) => ([(3,.val sh14 v46)]:SS)) v) a w) ?_ ?_
  ·
   refine wp_block ?_
   refine wp_peel k ?_
   refine zs [3,4,10,11,12,13] h an fun a w h => ?_
   refine wp_seq <| zi h hF (fun hF => ?_) (fun hF => ?_)
   ·refine wp_skip ?_
    refine wp_seq <| wp_block ?_
    obtain ⟨hc92,hF⟩:=of_if hF
    refine zs [3,4,6,10,11,12] h (ac hc92 an) fun a w h => ?_
    obtain ⟨r52,hr91,hF⟩:=of_bind hF
    refine zc (orcL [(18,[⟨(.sl true 2 iS),r52⟩])]) [3,4,10,11,12] h (ac (c15 k (gD x0 (tZ iO) ([]:(List (Int × ((Int × Int) × (Int × (Int × Int))))))) lO h74 h76 r52 hr91) an) fun a w h => ?_
    obtain ⟨hc90,hF⟩:=of_if hF
    refine wp_push (t:=36) (te:=23) (p:=3) (q:=4) (d0:=19) (d1:=20) (d2:=21) (d3:=22) (by_:=24) (e:=(.sl true 2 iS)) (xs:=([]:(List (List Int)))) (y:=r52) h rfl rfl rfl rfl rfl rfl rfl rfl rfl rfl rfl rfl rfl rfl rfl rfl (by kernel_rfl) (by kernel_rfl) (by kernel_rfl) (by kernel_rfl) rfl (by kernel_rfl) hc90 fun a w h => ?_
    replace h:=h.only [3,4,10,11,12] (by kernel_rfl)
    refine zt [3,4,10,11,12] h an fun a w h => ?_
    refine rounds_fuel (f24.l53 k x0 (f24.j47 k)) (fun ((v79,v80,v81):((List (List Int)) × Nat × Int)) => [(3,.val sh14 v79),(4,.copy 3 [.idx v80]),(10,.val sh15 x0),(11,.val iS (List.length x0:Int)),(12,.val iS v81)]) (fun v h => by obtain ⟨v79,v80,v81⟩:=v; rw [f24.l53] at h; cases h) ?_ hF (ar h [3,4,10,11,12])
    intro m53 v a w hF h
    obtain ⟨v79,v80,v81⟩:=v
    rw [f24.l53] at hF
    refine zs [3,4,10,11,12,13] h an fun a w h => ?_
    refine wp_seq <| zi h hF (fun hF => ?_) (fun hF => ?_)
    ·refine wp_skip ?_
     refine wp_seq <| wp_block ?_
     obtain ⟨hc89,hF⟩:=of_if hF
     refine zs [3,4,6,10,11,12] h (ac hc89 an) fun a w h => ?_
     obtain ⟨r86,hr88,hF⟩:=of_bind hF
     refine zc (orcL [(18,[⟨(.sl true 2 iS),r86⟩])]) [3,4,10,11,12] h (ac (c15 k (gD x0 (tZ v81) ([]:(List (Int × ((Int × Int) × (Int × (Int × Int))))))) (gD v79 v80 lO) h74 h76 r86 hr88) an) fun a w h => ?_
     obtain ⟨hc87,hF⟩:=of_if hF
     refine wp_push (t:=36) (te:=23) (p:=3) (q:=4) (d0:=19) (d1:=20) (d2:=21) (d3:=22) (by_:=24) (e:=(.sl true 2 iS)) (xs:=v79) (y:=r86) h rfl rfl rfl rfl rfl rfl rfl rfl rfl rfl rfl rfl rfl rfl rfl rfl (by kernel_rfl) (by kernel_rfl) (by kernel_rfl) (by kernel_rfl) rfl (by kernel_rfl) hc87 fun a w h => ?_
     replace h:=h.only [3,4,10,11,12] (by kernel_rfl)
     refine zt [3,4,10,11,12] h an fun a w h => ?_
     exact ⟨((List.append v79 [r86]),(List.length v79),(w64 (v81 + (1:Int)))),hF,ar h [3,4,10,11,12]⟩
    ·refine wp_exit ?_
     exact ⟨v79,hF,ar h [3]⟩
   ·refine wp_exit ?_
    exact ⟨([]:(List (List Int))),hF,ar h [3]⟩
  ·rintro a w ⟨v46,hF,h⟩
   rw [f24.j47] at hF
   refine zs [2,3] h an fun a w h => ?_
   cases hF
   exact wp_ret (ret_okR tok h rfl (by kernel_rfl)).1
def f39.l18 (k:Nat) (x0:(List Int)) (x1:(List Int)):Nat→Int→Option Bool
 | 0,_ => none
 | m18+1,v30 => if (decide (v30 < (List.length x0:Int))) then (if (0≤v30∧v30 < (List.length x0:Int)) then (if (0≤v30∧v30 < (List.length x1:Int)) then (if (((List.getD x0 (Int.toNat v30) (0:Int)):Int) != (List.getD x1 (Int.toNat v30) (0:Int))) then (some false) else ((f39.l18 k x0 x1) m18 (IntKind.i64.wrap (v30 + (1:Int))))) else none) else none) else (some true)
def f39 (k:Nat) (x0:(List Int)) (x1:(List Int)):Option Bool:=if (((List.length x0:Int):Int) != (List.length x1:Int)) then (some false) else (f39.l18 k x0 x1 k (0:Int))
theorem c39 (k:Nat) (x0:(List Int)) (x1:(List Int)) (r:Bool) (hF:f39 k x0 x1=some r):PCall Try.prog 39 [⟨(.sl false 2 iS),x0⟩,⟨(.sl false 2 iS),x1⟩] [⟨.bool,r⟩]:=by
 refine pcall_intro Try.func39 rfl rfl (Nat.le_of_ble_eq_true rfl) ?_
 intro w0 Zi a w h
 rw [f39] at hF
 refine zs [0,1] h an fun a w h => ?_
 refine wp_seq ?_
 refine zs [0,1,10] h an fun a w h => ?_
 refine zi h hF (fun hF => ?_) (fun hF => ?_)
 ·refine zs [4] h an fun a w h => ?_
  cases hF
  exact wp_ret (ret_okR tok h rfl (by kernel_rfl)).1
 ·refine wp_skip ?_
  refine wp_seq ?_
  refine zs [0,1,5] h an fun a w h => ?_
  refine wp_block ?_
  refine wp_loop_fuel (f39.l18 k x0 x1) (fun v30 => [(0,.val (.sl false 2 iS) x0),(1,.val (.sl false 2 iS) x1),(5,.val iS v30)]) (fun v h => by rw [f39.l18] at h; cases h) ?_ hF (ar h [0,1,5])
  intro m18 v30 a w hF h
  rw [f39.l18] at hF
  refine wp_seq ?_
  refine zs [0,1,5,14] h an fun a w h => ?_
  refine zi h hF (fun hF => ?_) (fun hF => ?_)
  ·refine wp_skip ?_
   refine wp_seq <| wp_block ?_
   obtain ⟨hc33,hF⟩:=of_if hF
   obtain ⟨hc34,hF⟩:=of_if hF
   refine wp_regy_seq tok (orc:=o0) (l:=[0,1,5,25]) ([],[],[],[]) 9 nw h (by kernel_rfl) (by kernel_rfl) (ac hc33 (ac hc34 an)) fun a w h => ?_
   refine zi h hF (fun hF => ?_) (fun hF => ?_)
   ·refine zs [4] h an fun a w h => ?_
    cases hF
    exact wp_ret (ret_okR tok h rfl (by kernel_rfl)).1
   ·refine wp_skip ?_
    refine zt [0,1,5] h an fun a w h => ?_
    exact ⟨(w64 (v30 + (1:Int))),hF,ar h [0,1,5]⟩
  ·refine wp_exit ?_
   refine zs [4] h an fun a w h => ?_
   cases hF
   exact wp_ret (ret_okR tok h rfl (by kernel_rfl)).1
def f6.j1969 (k:Nat) (v1791:Int) (q1077:Int→Option Bool):Unit→Option Bool
 | _ => q1077 (IntKind.i64.wrap (v1791 + (1:Int)))
def f6.l2058 (k:Nat) (r2:((List (Int × ((Int × Int) × (Int × (Int × Int))))) × (List Int))) (r4:(List Int)) (v1791:Int) (q1969:Unit→Option Bool):Nat → (Bool × Int)→Option Bool
 | 0,_ => none
 | m2058+1,(v2117,v2118) => if (decide (v2118 < (List.length r2.1:Int))) then (if ((v2117=false) → (0≤v2118∧v2118 < (List.length r2.1:Int))) then ((if (v2117=false) then f34 k r4 (List.getD r2.1 (Int.toNat v2118) ((0:Int),(((0:Int),(0:Int)),((0:Int),((0:Int),(0:Int)))))).1 else some default).bind fun r2132 => (if (((v2117=false) ∧ (r2132=true)) → (0≤v1791∧v1791 < (List.length r2.1:Int))) then (if (((v2117=false) ∧ (r2132=true)) → (0≤v2118∧v2118 < (List.length r2.1:Int))) then ((if ((v2117=false) ∧ (r2132=true)) then f37 k (List.getD r2.1 (Int.toNat v1791) ((0:Int),(((0:Int),(0:Int)),((0:Int),((0:Int),(0:Int)))))) (List.getD r2.1 (Int.toNat v2118) ((0:Int),(((0:Int),(0:Int)),((0:Int),((0:Int),(0:Int)))))) else some default).bind fun r2133 => (if (((v2117=false) ∧ ((bif r2132 then r2133 else false)=true)) → (0≤v2118∧v2118 < (List.length r2.1:Int))) then ((if ((v2117=false) ∧ ((bif r2132 then r2133 else false)=true)) then f38 k (List.getD r2.1 (Int.toNat v2118) ((0:Int),(((0:Int),(0:Int)),((0:Int),((0:Int),(0:Int)))))) r2.2 else some default).bind fun r2134 => (if (((v2117=false) ∧ ((bif r2132 then r2133 else false)=true)) → (0≤v1791∧v1791 < (List.length r2.1:Int))) then ((if ((v2117=false) ∧ ((bif r2132 then r2133 else false)=true)) then f38 k (List.getD r2.1 (Int.toNat v1791) ((0:Int),(((0:Int),(0:Int)),((0:Int),((0:Int),(0:Int)))))) r2.2 else some default).bind fun r2135 => ((f6.l2058 k r2 r4 v1791 q1969) m2058 ((bif v2117 then true else (bif (bif r2132 then r2133 else false) then (decide (r2134 ≥ r2135)) else false)),(IntKind.i64.wrap (v2118 + (1:Int)))))) else none)) else none)) else none) else none)) else none) else (if (!v2117) then (some false) else (q1969 ()))
def f6.l1077 (k:Nat) (r2:((List (Int × ((Int × Int) × (Int × (Int × Int))))) × (List Int))) (r4:(List Int)):Nat→Int→Option Bool
 | 0,_ => none
 | m1077+1,v1791 => if (decide (v1791 < (List.length r2.1:Int))) then (if (0≤v1791∧v1791 < (List.length r2.1:Int)) then ((f34 k r4 (List.getD r2.1 (Int.toNat v1791) ((0:Int),(((0:Int),(0:Int)),((0:Int),((0:Int),(0:Int)))))).1).bind fun r1970 => (if r1970 then (f6.j1969 k v1791 ((f6.l1077 k r2 r4) m1077) ()) else (f6.l2058 k r2 r4 v1791 (f6.j1969 k v1791 ((f6.l1077 k r2 r4) m1077)) k (false,(0:Int))))) else none) else ((f24 k [r2.1,r2.1,r2.1]).bind fun r2147 => (if (((((List.length r2147:Int):Int) == (3:Int))=true) → (0 ≤ (1:Int) ∧ (1:Int) < (List.length r2147:Int))) then (if (((((List.length r2147:Int):Int) == (3:Int))=true) → (0 ≤ (2:Int) ∧ (2:Int) < (List.length r2147:Int))) then ((if ((((List.length r2147:Int):Int) == (3:Int))=true) then f39 k (List.getD r2147 (Int.toNat (1:Int)) ([]:(List Int))) (List.getD r2147 (Int.toNat (2:Int)) ([]:(List Int))) else some default).bind fun r2148 => (if (((bif (((List.length r2147:Int):Int) == (3:Int)) then r2148 else false)=true) → (0 ≤ (0:Int) ∧ (0:Int) < (List.length r2147:Int))) then ((if ((bif (((List.length r2147:Int):Int) == (3:Int)) then r2148 else false)=true) then f15 k r2.1 ([]:List Int) else some default).bind fun r2149 => ((if ((bif (((List.length r2147:Int):Int) == (3:Int)) then r2148 else false)=true) then f39 k (List.getD r2147 (Int.toNat (0:Int)) ([]:(List Int))) r2149 else some default).bind fun r2150 => (if (((bif (bif (((List.length r2147:Int):Int) == (3:Int)) then r2148 else false) then r2150 else false)=true) → (0 ≤ (0:Int) ∧ (0:Int) < (List.length r2147:Int))) then (if (((bif (bif (((List.length r2147:Int):Int) == (3:Int)) then r2148 else false) then r2150 else false)=true) → (0 ≤ (1:Int) ∧ (1:Int) < (List.length r2147:Int))) then ((if ((bif (bif (((List.length r2147:Int):Int) == (3:Int)) then r2148 else false) then r2150 else false)=true) then f39 k (List.getD r2147 (Int.toNat (0:Int)) ([]:(List Int))) (List.getD r2147 (Int.toNat (1:Int)) ([]:(List Int))) else some default).bind fun r2151 => (some (bif (bif (bif (((List.length r2147:Int):Int) == (3:Int)) then r2148 else false) then r2150 else false) then r2151 else false))) else none) else none))) else none)) else none) else none))
def f6 (k:Nat) (x0:(List Int)):Option Bool:=(f30 k x0).bind fun r1 => (if r1 then (some true) else ((f35 k x0).bind fun r2 => ((f32 k ([]:List (Int × ((Int × Int) × (Int × (Int × Int)))))).bind fun r3 => (if (!r3) then (some false) else ((f15 k r2.1 r2.2).bind fun r4 => ((f32 k r2.1).bind fun r5 => (if (!r5) then (some (((List.length r4:Int):Int) == (0:Int))) else ((f36 k r2.1 r4).bind fun r6 => (if (!r6) then (some false) else (f6.l1077 k r2 r4 k (0:Int)))))))))))
theorem c6 (k:Nat) (x0:(List Int)) (h74:H74) (h76:H76) (r:Bool) (hF:f6 k x0=some r):PCall Try.prog 6 [⟨(.sl false 5 (.int .u8)),x0⟩] [⟨.bool,r⟩]:=by
 refine pcall_intro Try.func6 rfl rfl (Nat.le_of_ble_eq_true rfl) ?_
 intro w0 Zi a w h
 rw [f6] at hF
 refine zs [0] h an fun a w h => ?_
 refine wp_seq ?_
 obtain ⟨r1,hr2167,hF⟩:=of_bind hF
 refine zc (orcL [(11,[⟨.bool,r1⟩])]) [0,11] h (ac (c30 k x0 r1 hr2167) an) fun a w h => ?_
 refine zi h hF (fun hF => ?_) (fun hF => ?_)
 ·refine zs [2] h an fun a w h => ?_
  cases hF
  exact wp_ret (ret_okR tok h rfl (by kernel_rfl)).1
 ·refine wp_skip ?_
  obtain ⟨r2,hr2166,hF⟩:=of_bind hF
  refine zc (orcL [(14,[⟨sh1,r2.1⟩,⟨(.sl true 2 iS),r2.2⟩]),(12,[⟨.pt false 4294967292 .unit,some ()⟩])]) [3,4] h (ac (c35 k x0 r2 hr2166) an) fun a w h => ?_
  refine wp_seq ?_
  obtain ⟨r3,hr2165,hF⟩:=of_bind hF
  refine zc (orcL [(18,[⟨.bool,r3⟩])]) [3,4,19] h (ac (c32 k ([]:List (Int × ((Int × Int) × (Int × (Int × Int))))) r3 hr2165) an) fun a w h => ?_
  refine zi h hF (fun hF => ?_) (fun hF => ?_)
  ·refine zs [2] h an fun a w h => ?_
   cases hF
   exact wp_ret (ret_okR tok h rfl (by kernel_rfl)).1
  ·refine wp_skip ?_
   obtain ⟨r4,hr2164,hF⟩:=of_bind hF
   refine zc (orcL [(22,[⟨(.sl true 2 iS),r4⟩])]) [3,4,5] h (ac (c15 k r2.1 r2.2 h74 h76 r4 hr2164) an) fun a w h => ?_
   refine wp_seq ?_
   obtain ⟨r5,hr2163,hF⟩:=of_bind hF
   refine zc (orcL [(24,[⟨.bool,r5⟩])]) [3,4,5,25] h (ac (c32 k r2.1 r5 hr2163) an) fun a w h => ?_
   refine zi h hF (fun hF => ?_) (fun hF => ?_)
   ·refine zs [2] h an fun a w h => ?_
    cases hF
    exact wp_ret (ret_okR tok h rfl (by kernel_rfl)).1
   ·refine wp_skip ?_
    refine wp_seq ?_
    obtain ⟨r6,hr2162,hF⟩:=of_bind hF
    refine zc (orcL [(31,[⟨.bool,r6⟩])]) [3,4,5,32] h (ac (c36 k r2.1 r4 r6 hr2162) an) fun a w h => ?_
    refine zi h hF (fun hF => ?_) (fun hF => ?_)
    ·refine zs [2] h an fun a w h => ?_
     cases hF
     exact wp_ret (ret_okR tok h rfl (by kernel_rfl)).1
    ·refine wp_skip ?_
     refine wp_seq ?_
     refine zs [3,4,5,6] h an fun a w h => ?_
     refine wp_block ?_
     refine wp_loop_fuel (f6.l1077 k r2 r4) (fun v1791 => [(3,.val sh1 r2.1),(4,.val (.sl true 2 iS) r2.2),(5,.val (.sl true 2 iS) r4),(6,.val iS v1791)]) (fun v h => by rw [f6.l1077] at h; cases h) ?_ hF (ar h [3,4,5,6])
     intro m1077 v1791 a w hF h
     rw [f6.l1077] at hF
     refine wp_seq ?_
     refine zs [3,4,5,6,36] h an fun a w h => ?_
     refine zi h hF (fun hF => ?_) (fun hF => ?_)
     ·refine wp_skip ?_
      refine wp_mid (fun a w => ∃ v:Unit,f6.j1969 k v1791 ((f6.l1077 k r2 r4) m1077) v=some r∧Rel w0 (fun _ => False) Zi Try.f6.ntmps ((fun (_:Unit) => ([(3,.val sh1 r2.1),(4,.val (.sl true 2 iS) r2.2),(5,.val (.sl true 2 iS) r4),(6,.val iS v1791)]:SS)) v) a w) ?_ ?_
      ·
       refine wp_block ?_
       refine wp_seq ?_
       obtain ⟨hc2145,hF⟩:=of_if hF
       obtain ⟨r1970,hr2146,hF⟩:=of_bind hF
       refine zc (orcL [(45,[⟨.bool,r1970⟩])]) [3,4,5,6,45] h (ac hc2145 (ac (c34 k r4 (gD r2.1 (tZ v1791) (iO,((iO,iO),(iO,(iO,iO))))).1 r1970 hr2146) an)) fun a w h => ?_
       refine zi h hF (fun hF => ?_) (fun hF => ?_)
       ·refine wp_exit ?_
        exact ⟨(),hF,ar h [3,4,5,6]⟩
       ·refine wp_skip ?_
        refine zs [3,4,5,6,7] h an fun a w h => ?_
        refine wp_seq ?_
        refine zs [3,4,5,6,7,8] h an fun a w h => ?_
        refine wp_block ?_
        refine wp_loop_fuel (f6.l2058 k r2 r4 v1791 (f6.j1969 k v1791 ((f6.l1077 k r2 r4) m1077))) (fun ((v2117,v2118):(Bool × Int)) => [(3,.val sh1 r2.1),(4,.val (.sl true 2 iS) r2.2),(5,.val (.sl true 2 iS) r4),(6,.val iS v1791),(7,.val .bool v2117),(8,.val iS v2118)]) (fun v h => by obtain ⟨v2117,v2118⟩:=v; rw [f6.l2058] at h; cases h) ?_ hF (ar h [3,4,5,6,7,8])
        intro m2058 v a w hF h
        obtain ⟨v2117,v2118⟩:=v
        rw [f6.l2058] at hF
        refine wp_seq ?_
        refine zs [3,4,5,6,7,8,49] h an fun a w h => ?_
        refine zi h hF (fun hF => ?_) (fun hF => ?_)
        ·refine wp_skip ?_
         refine wp_seq <| wp_block ?_
         obtain ⟨hc2136,hF⟩:=of_if hF
         obtain ⟨r2132,hr2137,hF⟩:=of_bind hF
         obtain ⟨hc2138,hF⟩:=of_if hF
         obtain ⟨hc2139,hF⟩:=of_if hF
         obtain ⟨r2133,hr2140,hF⟩:=of_bind hF
         obtain ⟨hc2141,hF⟩:=of_if hF
         obtain ⟨r2134,hr2142,hF⟩:=of_bind hF
         obtain ⟨hc2143,hF⟩:=of_if hF
         obtain ⟨r2135,hr2144,hF⟩:=of_bind hF
         refine wp_regy tok (orc:=orcL [(60,[⟨.bool,r2132⟩]),(70,[⟨.bool,r2133⟩]),(78,[⟨iS,r2134⟩]),(84,[⟨iS,r2135⟩])]) (l:=[3,4,5,6,7,8]) ([],[],[],[]) 37 nw h (by kernel_rfl) (by kernel_rfl) (ac hc2136 (ac (fun (hg:(v2117=false)) => c34 k r4 (gD r2.1 (tZ v2118) (iO,((iO,iO),(iO,(iO,iO))))).1 r2132 (of_g hg hr2137)) (ac hc2138 (ac hc2139 (ac (fun (hg:((v2117=false) ∧ (r2132=true))) => c37 k (gD r2.1 (tZ v1791) (iO,((iO,iO),(iO,(iO,iO))))) (gD r2.1 (tZ v2118) (iO,((iO,iO),(iO,(iO,iO))))) r2133 (of_g hg hr2140)) (ac hc2141 (ac (fun (hg:((v2117=false) ∧ ((bif r2132 then r2133 else false)=true))) => c38 k (gD r2.1 (tZ v2118) (iO,((iO,iO),(iO,(iO,iO))))) r2.2 r2134 (of_g hg hr2142)) (ac hc2143 (ac (fun (hg:((v2117=false) ∧ ((bif r2132 then r2133 else false)=true))) => c38 k (gD r2.1 (tZ v1791) (iO,((iO,iO),(iO,(iO,iO))))) r2.2 r2135 (of_g hg hr2144)) an))))))))) fun a w h => ?_
         refine zt [3,4,5,6,7,8] h an fun a w h => ?_
         exact ⟨((bif v2117 then true else (bif (bif r2132 then r2133 else false) then (decide (r2134 ≥ r2135)) else false)),(w64 (v2118 + (1:Int)))),hF,ar h [3,4,5,6,7,8]⟩
        ·refine wp_exit ?_
         refine zs [3,4,5,6,89] h an fun a w h => ?_
         refine zi h hF (fun hF => ?_) (fun hF => ?_)
         ·refine zs [2] h an fun a w h => ?_
          cases hF
          exact wp_ret (ret_okR tok h rfl (by kernel_rfl)).1
         ·refine wp_skip ?_
          exact ⟨(),hF,ar h [3,4,5,6]⟩
      ·rintro a w ⟨v,hF,h⟩
       obtain ⟨⟩:=v
       rw [f6.j1969] at hF
       refine zt [3,4,5,6] h an fun a w h => ?_
       exact ⟨(w64 (v1791 + (1:Int))),hF,ar h [3,4,5,6]⟩
     ·refine wp_exit ?_
      obtain ⟨r2147,hr2161,hF⟩:=of_bind hF
      refine wp_reg_seq tok (orc:=orcL [(94,[⟨sh14,r2147⟩])]) (fz:=[3]) (l:=[3,9]) (.inr fun i h => h) h (by kernel_rfl) (ac (c24 k [r2.1,r2.1,r2.1] h74 h76 r2147 hr2161) an) fun a w h => ?_
      obtain ⟨hc2152,hF⟩:=of_if hF
      obtain ⟨hc2153,hF⟩:=of_if hF
      obtain ⟨r2148,hr2154,hF⟩:=of_bind hF
      obtain ⟨hc2155,hF⟩:=of_if hF
      obtain ⟨r2149,hr2156,hF⟩:=of_bind hF
      obtain ⟨r2150,hr2157,hF⟩:=of_bind hF
      obtain ⟨hc2158,hF⟩:=of_if hF
      obtain ⟨hc2159,hF⟩:=of_if hF
      obtain ⟨r2151,hr2160,hF⟩:=of_bind hF
      refine wp_regy_seq tok (orc:=orcL [(105,[⟨.bool,r2148⟩]),(113,[⟨(.sl true 2 iS),r2149⟩]),(114,[⟨.bool,r2150⟩]),(123,[⟨.bool,r2151⟩])]) (l:=[2]) ([],[],[],[]) 31 nw h (by kernel_rfl) (by kernel_rfl) (ac hc2152 (ac hc2153 (ac (fun (hg:((((List.length r2147:Int):Int) == (3:Int))=true)) => c39 k (gD r2147 (tZ (1:Int)) lO) (gD r2147 (tZ (2:Int)) lO) r2148 (of_g hg hr2154)) (ac hc2155 (ac (fun (hg:((bif (((List.length r2147:Int):Int) == (3:Int)) then r2148 else false)=true)) => c15 k r2.1 ([]:List Int) h74 h76 r2149 (of_g hg hr2156)) (ac (fun (hg:((bif (((List.length r2147:Int):Int) == (3:Int)) then r2148 else false)=true)) => c39 k (gD r2147 (tZ iO) lO) r2149 r2150 (of_g hg hr2157)) (ac hc2158 (ac hc2159 (ac (fun (hg:((bif (bif (((List.length r2147:Int):Int) == (3:Int)) then r2148 else false) then r2150 else false)=true)) => c39 k (gD r2147 (tZ iO) lO) (gD r2147 (tZ (1:Int)) lO) r2151 (of_g hg hr2160)) an))))))))) fun a w h => ?_
      cases hF
      exact wp_ret (ret_okR tok h rfl (by kernel_rfl)).1
end Go.Proofs.Ytnpaokckkbhdjaa.V
