/-
  THE CONTRACTS OF SOME FUNCTIONS OF THIS SEAT, PRINTED BY A PROGRAM OF THIS PROJECT (wip/gen/vgen.py).
-/
import Derived.Test.YtnpaokckkbhdjaaProg
import Derived.Test.YtnpaokckkbhdjaaVmW
import Derived.Test.YtnpaokckkbhdjaaVmSr
import Derived.KernelRfl
import Derived.Test.YtnpaokckkbhdjaaVmPu
import Derived.Test.YtnpaokckkbhdjaaSoR
set_option linter.unusedVariables false
open Go Go.Vm Go.Proofs
namespace Go.Proofs.Ytnpaokckkbhdjaa.V
set_option maxRecDepth 100000
abbrev zR:Int × (Int × (Int × (Int × (Int × ByteArray)))):=((0:Int),((0:Int),((0:Int),((0:Int),((0:Int),(⟨#[]⟩:ByteArray))))))
abbrev tG:=((List (Int × (Int × Int))) × ((List (Int × (Int × (Int × (Int × (Int × ByteArray)))))) × (List (Int × Int))))
abbrev tN:=(((List (Int × (Int × Int))) × ((List (Int × (Int × (Int × (Int × (Int × ByteArray)))))) × (List (Int × Int)))) × ((List (List Int)) × ((List (List Int)) × (Option (List ((Int × Int) × Bool))))))
abbrev gD {α:Type} (l:List α) (i:Nat) (d:α):α:=List.getD l i d
abbrev tZ (n:Int):Nat:=Int.toNat n
abbrev iO:Int:=0
abbrev lO:List Int:=[]
theorem nw {p:Prop}:([]:List Nat)=[]∨p:=.inl rfl
abbrev o0:=orcL []
theorem ac {p:Prop} {l:List Prop} (h:p) (t:AllP l):AllP (p :: l):=AllP.cons h t
theorem an:AllP []:=AllP.nil
abbrev sh0:Sh:=(.sl false 110 (.st (.pair (.int .i64) (.pair (.st (.pair (.int .i64) (.int .i64))) (.pair (.int .i64) (.pair (.int .i64) (.int .i64)))))))
abbrev sh1:Sh:=(.sl false 22 (.sl false 110 (.st (.pair (.int .i64) (.pair (.st (.pair (.int .i64) (.int .i64))) (.pair (.int .i64) (.pair (.int .i64) (.int .i64))))))))
abbrev sh2:Sh:=(.st (.pair (.int .i64) (.int .i64)))
abbrev sh3:Sh:=(.st (.pair (.int .i64) (.pair (.st (.pair (.int .i64) (.int .i64))) (.pair (.int .i64) (.pair (.int .i64) (.int .i64))))))
abbrev sh4:Sh:=(.sl true 54 (.st (.pair (.int .i64) (.pair (.st (.pair (.int .i64) (.int .i64))) (.pair (.int .i64) (.pair (.int .i64) (.int .i64)))))))
abbrev sh5:Sh:=(.sl true 26 (.sl true 54 (.st (.pair (.int .i64) (.pair (.st (.pair (.int .i64) (.int .i64))) (.pair (.int .i64) (.pair (.int .i64) (.int .i64))))))))
abbrev sh6:Sh:=(.sl false 54 (.st (.pair (.int .i64) (.pair (.st (.pair (.int .i64) (.int .i64))) (.pair (.int .i64) (.pair (.int .i64) (.int .i64)))))))
abbrev sh7:Sh:=(.pt true 54 (.st (.pair (.int .i64) (.pair (.st (.pair (.int .i64) (.int .i64))) (.pair (.int .i64) (.pair (.int .i64) (.int .i64)))))))
abbrev sh8:Sh:=(.sl false 26 (.sl false 54 (.st (.pair (.int .i64) (.pair (.st (.pair (.int .i64) (.int .i64))) (.pair (.int .i64) (.pair (.int .i64) (.int .i64))))))))
abbrev sh9:Sh:=(.sl true 23 (.sl true 2 (.int .i64)))
abbrev sh10:Sh:=(.mp true (.int .i64) .bool)
abbrev sh11:Sh:=(.pt true 111 (.mp true (.int .i64) .bool))
abbrev sh12:Sh:=(.pt false 0 (.mp false (.int .i64) .bool))
abbrev sh13:Sh:=(.pt false 0 (.fn 72 (.pair (.pt false 0 (.mp false (.int .i64) .bool)) .unit)))
abbrev sh14:Sh:=(.pt false 0 (.sl false 54 (.st (.pair (.int .i64) (.pair (.st (.pair (.int .i64) (.int .i64))) (.pair (.int .i64) (.pair (.int .i64) (.int .i64))))))))
abbrev sh15:Sh:=(.pt true 26 (.sl true 54 (.st (.pair (.int .i64) (.pair (.st (.pair (.int .i64) (.int .i64))) (.pair (.int .i64) (.pair (.int .i64) (.int .i64))))))))
abbrev sh16:Sh:=(.pt true 23 (.sl true 2 (.int .i64)))
abbrev sh17:Sh:=(.pt false 0 (.sl false 2 (.int .i64)))
abbrev sh18:Sh:=(.sl false 23 (.sl false 2 (.int .i64)))
def tbl:Tbl:=[⟨2,.int .i64,1,8,(.int .i64)⟩,
 ⟨3,.int .i64,1,8,(.int .i64)⟩,
 ⟨4,.bool,1,1,.bool⟩,
 ⟨22,.slice 110,1,24,(.sl true 110 (.st (.pair (.int .i64) (.pair (.st (.pair (.int .i64) (.int .i64))) (.pair (.int .i64) (.pair (.int .i64) (.int .i64)))))))⟩,
 ⟨23,.slice 2,1,24,(.sl true 2 (.int .i64))⟩,
 ⟨26,.slice 54,1,24,(.sl true 54 (.st (.pair (.int .i64) (.pair (.st (.pair (.int .i64) (.int .i64))) (.pair (.int .i64) (.pair (.int .i64) (.int .i64)))))))⟩,
 ⟨34,.slice 22,1,24,(.sl true 22 (.sl true 110 (.st (.pair (.int .i64) (.pair (.st (.pair (.int .i64) (.int .i64))) (.pair (.int .i64) (.pair (.int .i64) (.int .i64))))))))⟩,
 ⟨36,.slice 23,1,24,(.sl true 23 (.sl true 2 (.int .i64)))⟩,
 ⟨38,.slice 26,1,24,(.sl true 26 (.sl true 54 (.st (.pair (.int .i64) (.pair (.st (.pair (.int .i64) (.int .i64))) (.pair (.int .i64) (.pair (.int .i64) (.int .i64))))))))⟩,
 ⟨52,.struct [(2,0),(2,1)],2,16,(.st (.pair (.int .i64) (.int .i64)))⟩,
 ⟨54,.struct [(2,0),(52,1),(2,3),(2,4),(2,5)],6,48,(.st (.pair (.int .i64) (.pair (.st (.pair (.int .i64) (.int .i64))) (.pair (.int .i64) (.pair (.int .i64) (.int .i64))))))⟩,
 ⟨108,.struct [(2,0),(2,1)],2,16,(.st (.pair (.int .i64) (.int .i64)))⟩,
 ⟨110,.struct [(2,0),(108,1),(2,3),(2,4),(2,5)],6,48,(.st (.pair (.int .i64) (.pair (.st (.pair (.int .i64) (.int .i64))) (.pair (.int .i64) (.pair (.int .i64) (.int .i64))))))⟩,
 ⟨111,.map 2 4,1,8,(.mp true (.int .i64) .bool)⟩,
 ⟨112,.other,1,8,.raw⟩,
 ⟨183,.slice 3,1,24,(.sl true 3 (.int .i64))⟩]
theorem tok:TOk Try.prog tbl:=by unfold TOk; kernel_rfl
abbrev iS:Sh:=.int .i64
section
variable {w0:World} {Wr Zi:Fp} {N:Fr} {S S':SS} {a:Act} {w:World} {Q:Exit→Act→World→Prop} {id:Nat} {ops:Array Oper} {rest:Code} {c:List Prop}
theorem zc (orc:Nat→List TV) (l:List Nat) (h:Rel w0 Wr Zi N S a w) (hc:AllP c) (hr:∀ a w,Rel w0 Wr Zi N (regS tbl Try.prog N orc [] ops l S) a w→rest.wp Try.prog Q a w) (e:regC tbl Try.prog N orc [] ops l S=c:=by kernel_rfl):((Code.region id ops false).seq rest).wp Try.prog Q a w:=wp_reg_seq tok nw h e hc hr
theorem zd (orc:Nat→List TV) (l:List Nat) (h:Rel w0 Wr Zi N S a w) (hc:AllP c) (hr:∀ a w,Rel w0 Wr Zi N (regS tbl Try.prog N orc [] ops l S) a w→Q .normal a w) (e:regC tbl Try.prog N orc [] ops l S=c:=by kernel_rfl):(Code.region id ops false).wp Try.prog Q a w:=wp_reg tok nw h e hc hr
theorem zs (l:List Nat) (h:Rel w0 Wr Zi N S a w) (hc:AllP c) (hr:∀ a w,Rel w0 Wr Zi N (regS tbl Try.prog N o0 [] ops l S) a w→rest.wp Try.prog Q a w) (e:regC tbl Try.prog N o0 [] ops l S=c:=by kernel_rfl):((Code.region id ops false).seq rest).wp Try.prog Q a w:=wp_reg_seq tok nw h e hc hr
theorem zt (l:List Nat) (h:Rel w0 Wr Zi N S a w) (hc:AllP c) (hr:∀ a w,Rel w0 Wr Zi N (regS tbl Try.prog N o0 [] ops l S) a w→Q .normal a w) (e:regC tbl Try.prog N o0 [] ops l S=c:=by kernel_rfl):(Code.region id ops false).wp Try.prog Q a w:=wp_reg tok nw h e hc hr
theorem ar (h:Rel w0 Wr Zi N S a w) (l:List Nat) (e:arr [] l S=some S':=by kernel_rfl):Rel w0 Wr Zi N S' a w:=h.arrive nw e
theorem zi {α:Type} {t:Nat} {x y:Code} {b:Bool} {X Y:α} {r:α} (h:Rel w0 Wr Zi N S a w) (hF:(if b=true then X else Y)=r) (h1:X=r→x.wp Try.prog Q a w) (h2:Y=r→y.wp Try.prog Q a w) (hb:boolAt S t=some b:=by kernel_rfl):(Code.cond (.tmp t) x y).wp Try.prog Q a w:=wp_if h hb (fun hb => h1 (of_t hb hF)) (fun hb => h2 (of_f hb hF))
end
def f11 (k:Nat) (x0:(List (Int × ((Int × Int) × (Int × (Int × Int)))))) (x1:Int):Option Int:=if (decide (((IntKind.i64.wrap (x1 - (List.length x0:Int))):Int) < (0:Int))) then (some (-1:Int)) else (some (IntKind.i64.wrap (x1 - (List.length x0:Int))))
theorem c11 (k:Nat) (x0:(List (Int × ((Int × Int) × (Int × (Int × Int)))))) (x1:Int) (r:Int) (hF:f11 k x0 x1=some r):PCall Try.prog 11 [⟨sh0,x0⟩,⟨iS,x1⟩] [⟨iS,r⟩]:=by
 refine pcall_intro Try.func11 rfl rfl (Nat.le_of_ble_eq_true rfl) ?_
 intro w0 Zi a w h
 rw [f11] at hF
 refine zs [0,1] h an fun a w h => ?_
 refine zs [1] h an fun a w h => ?_
 refine wp_seq ?_
 refine zs [1,10] h an fun a w h => ?_
 refine zi h hF (fun hF => ?_) (fun hF => ?_)
 ·refine zs [4] h an fun a w h => ?_
  cases hF
  exact wp_ret (ret_okR tok h rfl (by kernel_rfl)).1
 ·refine wp_skip ?_
  refine zs [4] h an fun a w h => ?_
  cases hF
  exact wp_ret (ret_okR tok h rfl (by kernel_rfl)).1
def f21.l28 (k:Nat) (x0:(List (List (Int × ((Int × Int) × (Int × (Int × Int))))))):Nat → (Int × Int)→Option Int
 | 0,_ => none
 | m28+1,(v47,v48) => if (decide (v48 < (List.length x0:Int))) then (if (0≤v48∧v48 < (List.length x0:Int)) then ((f11 k (List.getD x0 (Int.toNat v48) ([]:(List (Int × ((Int × Int) × (Int × (Int × Int))))))) v47).bind fun r52 => (if (decide (r52 < (0:Int))) then (some (-1:Int)) else ((f21.l28 k x0) m28 (r52,(IntKind.i64.wrap (v48 + (1:Int))))))) else none) else (some v47)
def f21 (k:Nat) (x0:(List (List (Int × ((Int × Int) × (Int × (Int × Int))))))) (x1:Int):Option Int:=if (decide (((IntKind.i64.wrap (x1 - (List.length x0:Int))):Int) < (0:Int))) then (some (-1:Int)) else (f21.l28 k x0 k ((IntKind.i64.wrap (x1 - (List.length x0:Int))),(0:Int)))
theorem c21 (k:Nat) (x0:(List (List (Int × ((Int × Int) × (Int × (Int × Int))))))) (x1:Int) (r:Int) (hF:f21 k x0 x1=some r):PCall Try.prog 21 [⟨sh1,x0⟩,⟨iS,x1⟩] [⟨iS,r⟩]:=by
 refine pcall_intro Try.func21 rfl rfl (Nat.le_of_ble_eq_true rfl) ?_
 intro w0 Zi a w h
 rw [f21] at hF
 refine zs [0,1] h an fun a w h => ?_
 refine zs [0,1] h an fun a w h => ?_
 refine wp_seq ?_
 refine zs [0,1,11] h an fun a w h => ?_
 refine zi h hF (fun hF => ?_) (fun hF => ?_)
 ·refine zs [4] h an fun a w h => ?_
  cases hF
  exact wp_ret (ret_okR tok h rfl (by kernel_rfl)).1
 ·refine wp_skip ?_
  refine wp_seq ?_
  refine zs [0,1,5] h an fun a w h => ?_
  refine wp_block ?_
  refine wp_loop_fuel (f21.l28 k x0) (fun ((v47,v48):(Int × Int)) => [(0,.val sh1 x0),(1,.val iS v47),(5,.val iS v48)]) (fun v h => by obtain ⟨v47,v48⟩:=v; rw [f21.l28] at h; cases h) ?_ hF (ar h [0,1,5])
  intro m28 v a w hF h
  obtain ⟨v47,v48⟩:=v
  rw [f21.l28] at hF
  refine wp_seq ?_
  refine zs [0,1,5,15] h an fun a w h => ?_
  refine zi h hF (fun hF => ?_) (fun hF => ?_)
  ·refine wp_skip ?_
   refine wp_seq <| wp_block ?_
   obtain ⟨hc53,hF⟩:=of_if hF
   obtain ⟨r52,hr54,hF⟩:=of_bind hF
   refine zc (orcL [(23,[⟨iS,r52⟩])]) [0,1,5] h (ac hc53 (ac (c11 k (gD x0 (tZ v48) ([]:(List (Int × ((Int × Int) × (Int × (Int × Int))))))) v47 r52 hr54) an)) fun a w h => ?_
   refine zs [0,1,5,25] h an fun a w h => ?_
   refine zi h hF (fun hF => ?_) (fun hF => ?_)
   ·refine zs [4] h an fun a w h => ?_
    cases hF
    exact wp_ret (ret_okR tok h rfl (by kernel_rfl)).1
   ·refine wp_skip ?_
    refine zt [0,1,5] h an fun a w h => ?_
    exact ⟨(r52,(w64 (v48 + (1:Int)))),hF,ar h [0,1,5]⟩
  ·refine wp_exit ?_
   refine zs [4] h an fun a w h => ?_
   cases hF
   exact wp_ret (ret_okR tok h rfl (by kernel_rfl)).1
def f137 (k:Nat) (x0:(Int × Int)):Option (Int × Int):=some (x0.1,x0.2)
theorem c137 (k:Nat) (x0:(Int × Int)) (r:(Int × Int)) (hF:f137 k x0=some r):PCall Try.prog 137 [⟨sh2,x0⟩] [⟨sh2,r⟩]:=by
 refine pcall_intro Try.func137 rfl rfl (Nat.le_of_ble_eq_true rfl) ?_
 intro w0 Zi a w h
 rw [f137] at hF
 refine zs [1,2] h an fun a w h => ?_
 refine zs [1,2,3] h an fun a w h => ?_
 refine zs [1,2,3] h an fun a w h => ?_
 refine zs [2,3] h an fun a w h => ?_
 refine zs [2] h an fun a w h => ?_
 cases hF
 exact wp_ret (ret_okR tok h rfl (by kernel_rfl)).1
def f71 (k:Nat) (x0:(Int × ((Int × Int) × (Int × (Int × Int))))):Option (Int × ((Int × Int) × (Int × (Int × Int)))):=(f137 k x0.2.1).bind fun r1 => (some (x0.1,(r1,(x0.2.2.1,(x0.2.2.2.1,x0.2.2.2.2)))))
theorem c71 (k:Nat) (x0:(Int × ((Int × Int) × (Int × (Int × Int))))) (r:(Int × ((Int × Int) × (Int × (Int × Int))))) (hF:f71 k x0=some r):PCall Try.prog 71 [⟨sh3,x0⟩] [⟨sh3,r⟩]:=by
 refine pcall_intro Try.func71 rfl rfl (Nat.le_of_ble_eq_true rfl) ?_
 intro w0 Zi a w h
 rw [f71] at hF
 refine zs [1,2] h an fun a w h => ?_
 refine zs [1,2,3] h an fun a w h => ?_
 refine zs [1,2,3] h an fun a w h => ?_
 obtain ⟨r1,hr2,hF⟩:=of_bind hF
 refine zc (orcL [(9,[⟨sh2,r1⟩])]) [1,2,3] h (ac (c137 k x0.2.1 r1 hr2) an) fun a w h => ?_
 refine zs [1,2,3] h an fun a w h => ?_
 refine zs [1,2,3] h an fun a w h => ?_
 refine zs [2,3] h an fun a w h => ?_
 refine zs [2] h an fun a w h => ?_
 cases hF
 exact wp_ret (ret_okR tok h rfl (by kernel_rfl)).1
def f13.l34 (k:Nat) (x0:(List (Int × ((Int × Int) × (Int × (Int × Int)))))):Nat → ((List (Int × ((Int × Int) × (Int × (Int × Int))))) × Int)→Option (List (Int × ((Int × Int) × (Int × (Int × Int)))))
 | 0,_ => none
 | m34+1,(v57,v58) => if (decide (v58 < (List.length x0:Int))) then (if (0≤v58∧v58 < (List.length x0:Int)) then ((f71 k (List.getD x0 (Int.toNat v58) ((0:Int),(((0:Int),(0:Int)),((0:Int),((0:Int),(0:Int))))))).bind fun r63 => (if (0≤v58∧v58 < (List.length v57:Int)) then ((f13.l34 k x0) m34 ((List.set v57 (Int.toNat v58) r63),(IntKind.i64.wrap (v58 + (1:Int))))) else none)) else none) else (some v57)
def f13 (k:Nat) (x0:(List (Int × ((Int × Int) × (Int × (Int × Int)))))):Option (List (Int × ((Int × Int) × (Int × (Int × Int))))):=if (0 ≤ (List.length x0:Int)∧Int.toNat (List.length x0:Int)*48≤140737488355328) then (f13.l34 k x0 k ((List.replicate (Int.toNat (List.length x0:Int)) ((0:Int),(((0:Int),(0:Int)),((0:Int),((0:Int),(0:Int)))))),(0:Int))) else none
theorem c13 (k:Nat) (x0:(List (Int × ((Int × Int) × (Int × (Int × Int)))))) (r:(List (Int × ((Int × Int) × (Int × (Int × Int)))))) (hF:f13 k x0=some r):PCall Try.prog 13 [⟨sh0,x0⟩] [⟨sh4,r⟩]:=by
 refine pcall_intro Try.func13 rfl rfl (Nat.le_of_ble_eq_true rfl) ?_
 intro w0 Zi a w h
 rw [f13] at hF
 refine zs [0] h an fun a w h => ?_
 obtain ⟨hc67,hF⟩:=of_if hF
 refine zs [0,3] h (ac hc67 an) fun a w h => ?_
 refine wp_seq ?_
 refine zs [0,3,4] h an fun a w h => ?_
 refine wp_block ?_
 refine wp_loop_fuel (f13.l34 k x0) (fun ((v57,v58):((List (Int × ((Int × Int) × (Int × (Int × Int))))) × Int)) => [(0,.val sh0 x0),(3,.val sh4 v57),(4,.val iS v58)]) (fun v h => by obtain ⟨v57,v58⟩:=v; rw [f13.l34] at h; cases h) ?_ hF (ar h [0,3,4])
 intro m34 v a w hF h
 obtain ⟨v57,v58⟩:=v
 rw [f13.l34] at hF
 refine wp_seq ?_
 refine zs [0,3,4,11] h an fun a w h => ?_
 refine zi h hF (fun hF => ?_) (fun hF => ?_)
 ·refine wp_skip ?_
  refine wp_seq <| wp_block ?_
  obtain ⟨hc64,hF⟩:=of_if hF
  obtain ⟨r63,hr65,hF⟩:=of_bind hF
  obtain ⟨hc66,hF⟩:=of_if hF
  refine zd (orcL [(20,[⟨sh3,r63⟩])]) [0,3,4] h (ac hc64 (ac (c71 k (gD x0 (tZ v58) (iO,((iO,iO),(iO,(iO,iO))))) r63 hr65) (ac hc66 an))) fun a w h => ?_
  refine zt [0,3,4] h an fun a w h => ?_
  exact ⟨((List.set v57 (tZ v58) r63),(w64 (v58 + (1:Int)))),hF,ar h [0,3,4]⟩
 ·refine wp_exit ?_
  refine zs [2,3] h an fun a w h => ?_
  cases hF
  exact wp_ret (ret_okR tok h rfl (by kernel_rfl)).1
def f23.l34 (k:Nat) (x0:(List (List (Int × ((Int × Int) × (Int × (Int × Int))))))):Nat → ((List (List (Int × ((Int × Int) × (Int × (Int × Int)))))) × Int)→Option (List (List (Int × ((Int × Int) × (Int × (Int × Int))))))
 | 0,_ => none
 | m34+1,(v57,v58) => if (decide (v58 < (List.length x0:Int))) then (if (0≤v58∧v58 < (List.length x0:Int)) then ((f13 k (List.getD x0 (Int.toNat v58) ([]:(List (Int × ((Int × Int) × (Int × (Int × Int)))))))).bind fun r63 => (if (0≤v58∧v58 < (List.length v57:Int)) then ((f23.l34 k x0) m34 ((List.set v57 (Int.toNat v58) r63),(IntKind.i64.wrap (v58 + (1:Int))))) else none)) else none) else (some v57)
def f23 (k:Nat) (x0:(List (List (Int × ((Int × Int) × (Int × (Int × Int))))))):Option (List (List (Int × ((Int × Int) × (Int × (Int × Int)))))):=if (0 ≤ (List.length x0:Int)∧Int.toNat (List.length x0:Int)*24≤140737488355328) then (f23.l34 k x0 k ((List.replicate (Int.toNat (List.length x0:Int)) ([]:(List (Int × ((Int × Int) × (Int × (Int × Int))))))),(0:Int))) else none
theorem c23 (k:Nat) (x0:(List (List (Int × ((Int × Int) × (Int × (Int × Int))))))) (r:(List (List (Int × ((Int × Int) × (Int × (Int × Int))))))) (hF:f23 k x0=some r):PCall Try.prog 23 [⟨sh1,x0⟩] [⟨sh5,r⟩]:=by
 refine pcall_intro Try.func23 rfl rfl (Nat.le_of_ble_eq_true rfl) ?_
 intro w0 Zi a w h
 rw [f23] at hF
 refine zs [0] h an fun a w h => ?_
 obtain ⟨hc67,hF⟩:=of_if hF
 refine zs [0,3] h (ac hc67 an) fun a w h => ?_
 refine wp_seq ?_
 refine zs [0,3,4] h an fun a w h => ?_
 refine wp_block ?_
 refine wp_loop_fuel (f23.l34 k x0) (fun ((v57,v58):((List (List (Int × ((Int × Int) × (Int × (Int × Int)))))) × Int)) => [(0,.val sh1 x0),(3,.val sh5 v57),(4,.val iS v58)]) (fun v h => by obtain ⟨v57,v58⟩:=v; rw [f23.l34] at h; cases h) ?_ hF (ar h [0,3,4])
 intro m34 v a w hF h
 obtain ⟨v57,v58⟩:=v
 rw [f23.l34] at hF
 refine wp_seq ?_
 refine zs [0,3,4,11] h an fun a w h => ?_
 refine zi h hF (fun hF => ?_) (fun hF => ?_)
 ·refine wp_skip ?_
  refine wp_seq <| wp_block ?_
  obtain ⟨hc64,hF⟩:=of_if hF
  obtain ⟨r63,hr65,hF⟩:=of_bind hF
  obtain ⟨hc66,hF⟩:=of_if hF
  refine zd (orcL [(20,[⟨sh4,r63⟩])]) [0,3,4] h (ac hc64 (ac (c13 k (gD x0 (tZ v58) ([]:(List (Int × ((Int × Int) × (Int × (Int × Int))))))) r63 hr65) (ac hc66 an))) fun a w h => ?_
  refine zt [0,3,4] h an fun a w h => ?_
  exact ⟨((List.set v57 (tZ v58) r63),(w64 (v58 + (1:Int)))),hF,ar h [0,3,4]⟩
 ·refine wp_exit ?_
  refine zs [2,3] h an fun a w h => ?_
  cases hF
  exact wp_ret (ret_okR tok h rfl (by kernel_rfl)).1
def f149 (k:Nat) (x0:Int):Option Bool:=some (bif (decide (x0 ≥ (1:Int))) then (decide (x0 ≤ (1000000000:Int))) else false)
theorem c149 (k:Nat) (x0:Int) (r:Bool) (hF:f149 k x0=some r):PCall Try.prog 149 [⟨iS,x0⟩] [⟨.bool,r⟩]:=by
 refine pcall_intro Try.func149 rfl rfl (Nat.le_of_ble_eq_true rfl) ?_
 intro w0 Zi a w h
 rw [f149] at hF
 refine zs [0] h an fun a w h => ?_
 refine zs [2] h an fun a w h => ?_
 cases hF
 exact wp_ret (ret_okR tok h rfl (by kernel_rfl)).1
def f150 (k:Nat) (x0:(Int × Int)):Option Bool:=some (bif (bif (bif (decide (x0.1 ≥ (-10000000:Int))) then (decide (x0.1 ≤ (10000000:Int))) else false) then (decide (x0.2 ≥ (-10000000:Int))) else false) then (decide (x0.2 ≤ (10000000:Int))) else false)
theorem c150 (k:Nat) (x0:(Int × Int)) (r:Bool) (hF:f150 k x0=some r):PCall Try.prog 150 [⟨sh2,x0⟩] [⟨.bool,r⟩]:=by
 refine pcall_intro Try.func150 rfl rfl (Nat.le_of_ble_eq_true rfl) ?_
 intro w0 Zi a w h
 rw [f150] at hF
 refine zs [1] h an fun a w h => ?_
 refine zs [2] h an fun a w h => ?_
 cases hF
 exact wp_ret (ret_okR tok h rfl (by kernel_rfl)).1
def f132 (k:Nat) (x0:(Int × ((Int × Int) × (Int × (Int × Int))))):Option Bool:=(f149 k x0.1).bind fun r1 => ((if (r1=true) then f150 k x0.2.1 else some default).bind fun r2 => (some (bif (bif (bif (bif (bif (bif (bif r1 then r2 else false) then (decide (x0.2.2.1 ≥ (1:Int))) else false) then (decide (x0.2.2.1 ≤ (100000:Int))) else false) then (decide (x0.2.2.2.1 ≥ (1:Int))) else false) then (decide (x0.2.2.2.1 ≤ (100000:Int))) else false) then (decide (x0.2.2.2.2 ≥ (0:Int))) else false) then (decide (x0.2.2.2.2 ≤ (1000:Int))) else false)))
theorem c132 (k:Nat) (x0:(Int × ((Int × Int) × (Int × (Int × Int))))) (r:Bool) (hF:f132 k x0=some r):PCall Try.prog 132 [⟨sh3,x0⟩] [⟨.bool,r⟩]:=by
 refine pcall_intro Try.func132 rfl rfl (Nat.le_of_ble_eq_true rfl) ?_
 intro w0 Zi a w h
 rw [f132] at hF
 refine zs [1] h an fun a w h => ?_
 obtain ⟨r1,hr3,hF⟩:=of_bind hF
 obtain ⟨r2,hr4,hF⟩:=of_bind hF
 refine zc (orcL [(5,[⟨.bool,r1⟩]),(9,[⟨.bool,r2⟩])]) [2] h (ac (c149 k x0.1 r1 hr3) (ac (fun (hg:(r1=true)) => c150 k x0.2.1 r2 (of_g hg hr4)) an)) fun a w h => ?_
 cases hF
 exact wp_ret (ret_okR tok h rfl (by kernel_rfl)).1
def f133.l12 (k:Nat) (x0:(List (Int × ((Int × Int) × (Int × (Int × Int)))))) (x1:Int):Nat→Int→Option Int
 | 0,_ => none
 | m12+1,v20 => if (decide (v20 < (List.length x0:Int))) then (if (0≤v20∧v20 < (List.length x0:Int)) then (if (((List.getD x0 (Int.toNat v20) ((0:Int),(((0:Int),(0:Int)),((0:Int),((0:Int),(0:Int)))))).1:Int) == x1) then (some v20) else ((f133.l12 k x0 x1) m12 (IntKind.i64.wrap (v20 + (1:Int))))) else none) else (some (-1:Int))
def f133 (k:Nat) (x0:(List (Int × ((Int × Int) × (Int × (Int × Int)))))) (x1:Int):Option Int:=f133.l12 k x0 x1 k (0:Int)
theorem c133 (k:Nat) (x0:(List (Int × ((Int × Int) × (Int × (Int × Int)))))) (x1:Int) (r:Int) (hF:f133 k x0 x1=some r):PCall Try.prog 133 [⟨sh6,x0⟩,⟨iS,x1⟩] [⟨iS,r⟩]:=by
 refine pcall_intro Try.func133 rfl rfl (Nat.le_of_ble_eq_true rfl) ?_
 intro w0 Zi a w h
 rw [f133] at hF
 refine zs [0,1] h an fun a w h => ?_
 refine wp_seq ?_
 refine zs [0,1,5] h an fun a w h => ?_
 refine wp_block ?_
 refine wp_loop_fuel (f133.l12 k x0 x1) (fun v20 => [(0,.val sh6 x0),(1,.val iS x1),(5,.val iS v20)]) (fun v h => by rw [f133.l12] at h; cases h) ?_ hF (ar h [0,1,5])
 intro m12 v20 a w hF h
 rw [f133.l12] at hF
 refine wp_seq ?_
 refine zs [0,1,5,9] h an fun a w h => ?_
 refine zi h hF (fun hF => ?_) (fun hF => ?_)
 ·refine wp_skip ?_
  refine wp_seq <| wp_block ?_
  obtain ⟨hc22,hF⟩:=of_if hF
  refine zs [0,1,5,18] h (ac hc22 an) fun a w h => ?_
  refine zi h hF (fun hF => ?_) (fun hF => ?_)
  ·refine zs [4] h an fun a w h => ?_
   cases hF
   exact wp_ret (ret_okR tok h rfl (by kernel_rfl)).1
  ·refine wp_skip ?_
   refine zt [0,1,5] h an fun a w h => ?_
   exact ⟨(w64 (v20 + (1:Int))),hF,ar h [0,1,5]⟩
 ·refine wp_exit ?_
  refine zs [4] h an fun a w h => ?_
  cases hF
  exact wp_ret (ret_okR tok h rfl (by kernel_rfl)).1
def f69.l48 (k:Nat) (x0:(List (Int × ((Int × Int) × (Int × (Int × Int)))))):Nat→Int→Option Bool
 | 0,_ => none
 | m48+1,v80 => if (decide (v80 < (List.length x0:Int))) then (if (0≤v80∧v80 < (List.length x0:Int)) then ((f132 k (List.getD x0 (Int.toNat v80) ((0:Int),(((0:Int),(0:Int)),((0:Int),((0:Int),(0:Int))))))).bind fun r88 => (if (((!r88)=false) → (True ∧ ((0:Int)≤v80)∧0 ≤ (Int.toNat v80) ∧ (Int.toNat v80) ≤ (List.length x0))) then (if (((!r88)=false) → (0≤v80∧v80 < (List.length x0:Int))) then ((if ((!r88)=false) then f133 k (List.drop 0 (List.take (Int.toNat v80) x0)) (List.getD x0 (Int.toNat v80) ((0:Int),(((0:Int),(0:Int)),((0:Int),((0:Int),(0:Int)))))).1 else some default).bind fun r89 => (if (bif (!r88) then true else (decide (r89 ≥ (0:Int)))) then (some false) else ((f69.l48 k x0) m48 (IntKind.i64.wrap (v80 + (1:Int)))))) else none) else none)) else none) else (some true)
def f69 (k:Nat) (x0:(List (Int × ((Int × Int) × (Int × (Int × Int)))))):Option Bool:=if (decide (((List.length x0:Int):Int) > (500:Int))) then (some false) else (f69.l48 k x0 k (0:Int))
theorem c69 (k:Nat) (x0:(List (Int × ((Int × Int) × (Int × (Int × Int)))))) (r:Bool) (hF:f69 k x0=some r):PCall Try.prog 69 [⟨sh6,x0⟩] [⟨.bool,r⟩]:=by
 refine pcall_intro Try.func69 rfl rfl (Nat.le_of_ble_eq_true rfl) ?_
 intro w0 Zi a w h
 rw [f69] at hF
 refine zs [0] h an fun a w h => ?_
 refine wp_seq ?_
 refine zs [0,6] h an fun a w h => ?_
 refine zi h hF (fun hF => ?_) (fun hF => ?_)
 ·refine zs [2] h an fun a w h => ?_
  cases hF
  exact wp_ret (ret_okR tok h rfl (by kernel_rfl)).1
 ·refine wp_skip ?_
  refine wp_seq ?_
  refine zs [0,3] h an fun a w h => ?_
  refine wp_block ?_
  refine wp_loop_fuel (f69.l48 k x0) (fun v80 => [(0,.val sh6 x0),(3,.val iS v80)]) (fun v h => by rw [f69.l48] at h; cases h) ?_ hF (ar h [0,3])
  intro m48 v80 a w hF h
  rw [f69.l48] at hF
  refine wp_seq ?_
  refine zs [0,3,10] h an fun a w h => ?_
  refine zi h hF (fun hF => ?_) (fun hF => ?_)
  ·refine wp_skip ?_
   refine wp_seq <| wp_block ?_
   obtain ⟨hc90,hF⟩:=of_if hF
   obtain ⟨r88,hr91,hF⟩:=of_bind hF
   obtain ⟨hc92,hF⟩:=of_if hF
   obtain ⟨hc93,hF⟩:=of_if hF
   obtain ⟨r89,hr94,hF⟩:=of_bind hF
   refine wp_regy_seq tok (orc:=orcL [(17,[⟨.bool,r88⟩]),(28,[⟨iS,r89⟩])]) (l:=[0,3,30]) ([],[],[],[]) 18 nw h (by kernel_rfl) (by kernel_rfl) (ac hc90 (ac (c132 k (gD x0 (tZ v80) (iO,((iO,iO),(iO,(iO,iO))))) r88 hr91) (ac hc92 (ac hc93 (ac (fun (hg:((!r88)=false)) => c133 k (List.drop 0 (List.take (tZ v80) x0)) (gD x0 (tZ v80) (iO,((iO,iO),(iO,(iO,iO))))).1 r89 (of_g hg hr94)) an))))) fun a w h => ?_
   refine zi h hF (fun hF => ?_) (fun hF => ?_)
   ·refine zs [2] h an fun a w h => ?_
    cases hF
    exact wp_ret (ret_okR tok h rfl (by kernel_rfl)).1
   ·refine wp_skip ?_
    refine zt [0,3] h an fun a w h => ?_
    exact ⟨(w64 (v80 + (1:Int))),hF,ar h [0,3]⟩
  ·refine wp_exit ?_
   refine zs [2] h an fun a w h => ?_
   cases hF
   exact wp_ret (ret_okR tok h rfl (by kernel_rfl)).1
def f174.l12 (k:Nat) (x0:(List Int)) (x1:Int):Nat→Int→Option Bool
 | 0,_ => none
 | m12+1,v20 => if (decide (v20 < (List.length x0:Int))) then (if (0≤v20∧v20 < (List.length x0:Int)) then (if (((List.getD x0 (Int.toNat v20) (0:Int)):Int) == x1) then (some true) else ((f174.l12 k x0 x1) m12 (IntKind.i64.wrap (v20 + (1:Int))))) else none) else (some false)
def f174 (k:Nat) (x0:(List Int)) (x1:Int):Option Bool:=f174.l12 k x0 x1 k (0:Int)
theorem c174 (k:Nat) (x0:(List Int)) (x1:Int) (r:Bool) (hF:f174 k x0 x1=some r):PCall Try.prog 174 [⟨(.sl false 2 iS),x0⟩,⟨iS,x1⟩] [⟨.bool,r⟩]:=by
 refine pcall_intro Try.func174 rfl rfl (Nat.le_of_ble_eq_true rfl) ?_
 intro w0 Zi a w h
 rw [f174] at hF
 refine zs [0,1] h an fun a w h => ?_
 refine wp_seq ?_
 refine zs [0,1,5] h an fun a w h => ?_
 refine wp_block ?_
 refine wp_loop_fuel (f174.l12 k x0 x1) (fun v20 => [(0,.val (.sl false 2 iS) x0),(1,.val iS x1),(5,.val iS v20)]) (fun v h => by rw [f174.l12] at h; cases h) ?_ hF (ar h [0,1,5])
 intro m12 v20 a w hF h
 rw [f174.l12] at hF
 refine wp_seq ?_
 refine zs [0,1,5,9] h an fun a w h => ?_
 refine zi h hF (fun hF => ?_) (fun hF => ?_)
 ·refine wp_skip ?_
  refine wp_seq <| wp_block ?_
  obtain ⟨hc22,hF⟩:=of_if hF
  refine zs [0,1,5,17] h (ac hc22 an) fun a w h => ?_
  refine zi h hF (fun hF => ?_) (fun hF => ?_)
  ·refine zs [4] h an fun a w h => ?_
   cases hF
   exact wp_ret (ret_okR tok h rfl (by kernel_rfl)).1
  ·refine wp_skip ?_
   refine zt [0,1,5] h an fun a w h => ?_
   exact ⟨(w64 (v20 + (1:Int))),hF,ar h [0,1,5]⟩
 ·refine wp_exit ?_
  refine zs [4] h an fun a w h => ?_
  cases hF
  exact wp_ret (ret_okR tok h rfl (by kernel_rfl)).1
def f134 (k:Nat) (x0:(Int × ((Int × Int) × (Int × (Int × Int))))) (x1:(List Int)):Option Int:=(f174 k x1 x0.1).bind fun r1 => (if r1 then (some (IntKind.i64.wrap (x0.2.2.2.2 + (50:Int)))) else (some x0.2.2.2.2))
theorem c134 (k:Nat) (x0:(Int × ((Int × Int) × (Int × (Int × Int))))) (x1:(List Int)) (r:Int) (hF:f134 k x0 x1=some r):PCall Try.prog 134 [⟨sh3,x0⟩,⟨(.sl false 2 iS),x1⟩] [⟨iS,r⟩]:=by
 refine pcall_intro Try.func134 rfl rfl (Nat.le_of_ble_eq_true rfl) ?_
 intro w0 Zi a w h
 rw [f134] at hF
 refine zs [1,2] h an fun a w h => ?_
 refine wp_seq ?_
 obtain ⟨r1,hr2,hF⟩:=of_bind hF
 refine zc (orcL [(8,[⟨.bool,r1⟩])]) [2,8] h (ac (c174 k x1 x0.1 r1 hr2) an) fun a w h => ?_
 refine zi h hF (fun hF => ?_) (fun hF => ?_)
 ·refine zs [4] h an fun a w h => ?_
  cases hF
  exact wp_ret (ret_okR tok h rfl (by kernel_rfl)).1
 ·refine wp_skip ?_
  refine zs [4] h an fun a w h => ?_
  cases hF
  exact wp_ret (ret_okR tok h rfl (by kernel_rfl)).1
def f135 (k:Nat) (x0:(Int × ((Int × Int) × (Int × (Int × Int))))) (x1:(Int × ((Int × Int) × (Int × (Int × Int))))):Option Bool:=some (bif (bif (bif (decide (x0.2.1.1 < (IntKind.i64.wrap (x1.2.1.1+x1.2.2.1)))) then (decide (x1.2.1.1 < (IntKind.i64.wrap (x0.2.1.1+x0.2.2.1)))) else false) then (decide (x0.2.1.2 < (IntKind.i64.wrap (x1.2.1.2+x1.2.2.2.1)))) else false) then (decide (x1.2.1.2 < (IntKind.i64.wrap (x0.2.1.2+x0.2.2.2.1)))) else false)
theorem c135 (k:Nat) (x0:(Int × ((Int × Int) × (Int × (Int × Int))))) (x1:(Int × ((Int × Int) × (Int × (Int × Int))))) (r:Bool) (hF:f135 k x0 x1=some r):PCall Try.prog 135 [⟨sh3,x0⟩,⟨sh3,x1⟩] [⟨.bool,r⟩]:=by
 refine pcall_intro Try.func135 rfl rfl (Nat.le_of_ble_eq_true rfl) ?_
 intro w0 Zi a w h
 rw [f135] at hF
 refine zs [2,3] h an fun a w h => ?_
 refine zs [4] h an fun a w h => ?_
 cases hF
 exact wp_ret (ret_okR tok h rfl (by kernel_rfl)).1
def f136.l9 (k:Nat) (x0:(List Int)) (x1:Int):Nat→Int→Option (List Int)
 | 0,_ => none
 | m9+1,v15 => if (((decide (v15 < (List.length x0:Int)))=true) → (0≤v15∧v15 < (List.length x0:Int))) then (if (bif (decide (v15 < (List.length x0:Int))) then (decide (((List.getD x0 (Int.toNat v15) (0:Int)):Int) < x1)) else false) then ((f136.l9 k x0 x1) m9 (IntKind.i64.wrap (v15 + (1:Int)))) else (if (((decide (v15 < (List.length x0:Int)))=true) → (0≤v15∧v15 < (List.length x0:Int))) then (if (bif (decide (v15 < (List.length x0:Int))) then (((List.getD x0 (Int.toNat v15) (0:Int)):Int) == x1) else false) then (some x0) else (if (True ∧ ((0:Int)≤v15)∧0 ≤ (Int.toNat v15) ∧ (Int.toNat v15) ≤ (List.length x0)) then (if ((List.length ([]:List Int)+List.length (List.drop 0 (List.take (Int.toNat v15) x0)))*8≤140737488355328) then (if ((List.length (([]:List Int) ++ (List.drop 0 (List.take (Int.toNat v15) x0)))+List.length [x1])*8≤140737488355328) then (if (((0:Int)≤v15)∧True ∧ (Int.toNat v15) ≤ (List.length x0) ∧ (List.length x0) ≤ (List.length x0)) then (if ((List.length ((([]:List Int) ++ (List.drop 0 (List.take (Int.toNat v15) x0))) ++ [x1])+List.length (List.drop (Int.toNat v15) (List.take (List.length x0) x0)))*8≤140737488355328) then (some (((([]:List Int) ++ (List.drop 0 (List.take (Int.toNat v15) x0))) ++ [x1]) ++ (List.drop (Int.toNat v15) (List.take (List.length x0) x0)))) else none) else none) else none) else none) else none)) else none)) else none
def f136 (k:Nat) (x0:(List Int)) (x1:Int):Option (List Int):=f136.l9 k x0 x1 k (0:Int)
theorem c136 (k:Nat) (x0:(List Int)) (x1:Int) (r:(List Int)) (hF:f136 k x0 x1=some r):PCall Try.prog 136 [⟨(.sl false 2 iS),x0⟩,⟨iS,x1⟩] [⟨(.sl false 2 iS),r⟩]:=by
 refine pcall_intro Try.func136 rfl rfl (Nat.le_of_ble_eq_true rfl) ?_
 intro w0 Zi a w h
 rw [f136] at hF
 refine zs [0,1] h an fun a w h => ?_
 refine zs [0,1,5] h an fun a w h => ?_
 refine wp_seq <| wp_block ?_
 refine wp_loop_fuel (f136.l9 k x0 x1) (fun v15 => [(0,.val (.sl false 2 iS) x0),(1,.val iS x1),(5,.val iS v15)]) (fun v h => by rw [f136.l9] at h; cases h) ?_ hF (ar h [0,1,5])
 intro m9 v15 a w hF h
 rw [f136.l9] at hF
 refine wp_seq ?_
 obtain ⟨hc22,hF⟩:=of_if hF
 refine zs [0,1,5,17] h (ac hc22 an) fun a w h => ?_
 refine zi h hF (fun hF => ?_) (fun hF => ?_)
 ·refine wp_skip ?_
  refine wp_block ?_
  refine zt [0,1,5] h an fun a w h => ?_
  exact ⟨(w64 (v15 + (1:Int))),hF,ar h [0,1,5]⟩
 ·refine wp_exit ?_
  refine wp_seq ?_
  obtain ⟨hc21,hF⟩:=of_if hF
  refine zs [0,1,5,31] h (ac hc21 an) fun a w h => ?_
  refine zi h hF (fun hF => ?_) (fun hF => ?_)
  ·refine zs [4] h an fun a w h => ?_
   cases hF
   exact wp_ret (ret_okR tok h rfl (by kernel_rfl)).1
  ·refine wp_skip ?_
   obtain ⟨hc16,hF⟩:=of_if hF
   obtain ⟨hc17,hF⟩:=of_if hF
   obtain ⟨hc18,hF⟩:=of_if hF
   obtain ⟨hc19,hF⟩:=of_if hF
   obtain ⟨hc20,hF⟩:=of_if hF
   refine wp_regy_seq tok (orc:=o0) (l:=[4]) ([],[(4,[33]),(7,[37])],[],[(5,[1]),(6,[38]),(8,[0]),(9,[5]),(10,[41,42])]) 11 nw h (by kernel_rfl) (by kernel_rfl) (ac hc16 (ac hc17 (ac hc18 (ac hc19 (ac hc20 an))))) fun a w h => ?_
   cases hF
   have h:=Rel.freezeS (fz:=[4]) (.inr fun i h => h) h (by kernel_rfl)
   exact wp_ret (ret_okR tok h rfl (by kernel_rfl)).1
def f70.j764 (k:Nat) (v667:(List Int)) (v668:Int) (q400:((List Int) × Int)→Option (List Int)):Int→Option (List Int)
 | v763 => if (True ∧ ((0:Int)≤v763)∧0 ≤ (Int.toNat v763) ∧ (Int.toNat v763) ≤ (List.length v667)) then (if ((List.length ([]:List Int)+List.length (List.drop 0 (List.take (Int.toNat v763) v667)))*8≤140737488355328) then (if ((List.length (([]:List Int) ++ (List.drop 0 (List.take (Int.toNat v763) v667)))+List.length [v668])*8≤140737488355328) then (if (((0:Int)≤v763)∧True ∧ (Int.toNat v763) ≤ (List.length v667) ∧ (List.length v667) ≤ (List.length v667)) then (if ((List.length ((([]:List Int) ++ (List.drop 0 (List.take (Int.toNat v763) v667))) ++ [v668])+List.length (List.drop (Int.toNat v763) (List.take (List.length v667) v667)))*8≤140737488355328) then (q400 ((((([]:List Int) ++ (List.drop 0 (List.take (Int.toNat v763) v667))) ++ [v668]) ++ (List.drop (Int.toNat v763) (List.take (List.length v667) v667))),(IntKind.i64.wrap (v668 + (1:Int))))) else none) else none) else none) else none) else none
def f70.l770 (k:Nat) (v667:(List Int)) (x0:(List (Int × ((Int × Int) × (Int × (Int × Int)))))) (x1:(List Int)) (v668:Int) (q764:Int→Option (List Int)):Nat→Int→Option (List Int)
 | 0,_ => none
 | m770+1,v790 => if (decide (v790 > (0:Int))) then (if (0 ≤ (IntKind.i64.wrap (v790 - (1:Int))) ∧ (IntKind.i64.wrap (v790 - (1:Int))) < (List.length v667:Int)) then (if (0 ≤ (List.getD v667 (Int.toNat (IntKind.i64.wrap (v790 - (1:Int)))) (0:Int)) ∧ (List.getD v667 (Int.toNat (IntKind.i64.wrap (v790 - (1:Int)))) (0:Int)) < (List.length x0:Int)) then ((f134 k (List.getD x0 (Int.toNat (List.getD v667 (Int.toNat (IntKind.i64.wrap (v790 - (1:Int)))) (0:Int))) ((0:Int),(((0:Int),(0:Int)),((0:Int),((0:Int),(0:Int)))))) x1).bind fun r791 => (if (0≤v668∧v668 < (List.length x0:Int)) then ((f134 k (List.getD x0 (Int.toNat v668) ((0:Int),(((0:Int),(0:Int)),((0:Int),((0:Int),(0:Int)))))) x1).bind fun r792 => (if ((((decide (r791 > r792))=false) ∧ ((r791 == r792)=true)) → (0≤v668∧v668 < (List.length x0:Int))) then (if (bif (decide (r791 > r792)) then true else (bif (r791 == r792) then (decide (((List.getD x0 (Int.toNat (List.getD v667 (Int.toNat (IntKind.i64.wrap (v790 - (1:Int)))) (0:Int))) ((0:Int),(((0:Int),(0:Int)),((0:Int),((0:Int),(0:Int)))))).1:Int) < (List.getD x0 (Int.toNat v668) ((0:Int),(((0:Int),(0:Int)),((0:Int),((0:Int),(0:Int)))))).1)) else false)) then (q764 v790) else ((f70.l770 k v667 x0 x1 v668 q764) m770 (IntKind.i64.wrap (v790 - (1:Int))))) else none)) else none)) else none) else none) else (q764 v790)
def f70.j1491 (k:Nat) (v1429:Int) (q1175:((List (Int × ((Int × Int) × (Int × (Int × Int))))) × (List Int) × Int)→Option (List Int)):((List (Int × ((Int × Int) × (Int × (Int × Int))))) × (List Int))→Option (List Int)
 | (v1489,v1490) => q1175 (v1489,v1490,(IntKind.i64.wrap (v1429 + (1:Int))))
def f70.l1519 (k:Nat) (v1427:(List (Int × ((Int × Int) × (Int × (Int × Int)))))) (x0:(List (Int × ((Int × Int) × (Int × (Int × Int)))))) (v667:(List Int)) (v1429:Int) (v1428:(List Int)) (q1491:((List (Int × ((Int × Int) × (Int × (Int × Int))))) × (List Int))→Option (List Int)):Nat → (Bool × Int)→Option (List Int)
 | 0,_ => none
 | m1519+1,(v1538,v1539) => if (bif (decide (v1539 < (List.length v1427:Int))) then v1538 else false) then (if (0≤v1539∧v1539 < (List.length v1427:Int)) then ((f135 k (List.getD x0 (Int.toNat (List.getD v667 (Int.toNat v1429) (0:Int))) ((0:Int),(((0:Int),(0:Int)),((0:Int),((0:Int),(0:Int)))))) (List.getD v1427 (Int.toNat v1539) ((0:Int),(((0:Int),(0:Int)),((0:Int),((0:Int),(0:Int))))))).bind fun r1543 => ((f70.l1519 k v1427 x0 v667 v1429 v1428 q1491) m1519 ((!r1543),(IntKind.i64.wrap (v1539 + (1:Int)))))) else none) else (if v1538 then (if ((List.length v1427+List.length [(List.getD x0 (Int.toNat (List.getD v667 (Int.toNat v1429) (0:Int))) ((0:Int),(((0:Int),(0:Int)),((0:Int),((0:Int),(0:Int))))))])*48≤140737488355328) then ((f136 k v1428 (List.getD x0 (Int.toNat (List.getD v667 (Int.toNat v1429) (0:Int))) ((0:Int),(((0:Int),(0:Int)),((0:Int),((0:Int),(0:Int)))))).1).bind fun r1546 => (q1491 ((v1427 ++ [(List.getD x0 (Int.toNat (List.getD v667 (Int.toNat v1429) (0:Int))) ((0:Int),(((0:Int),(0:Int)),((0:Int),((0:Int),(0:Int))))))]),r1546))) else none) else (q1491 (v1427,v1428)))
def f70.l1175 (k:Nat) (v667:(List Int)) (x0:(List (Int × ((Int × Int) × (Int × (Int × Int)))))):Nat → ((List (Int × ((Int × Int) × (Int × (Int × Int))))) × (List Int) × Int)→Option (List Int)
 | 0,_ => none
 | m1175+1,(v1427,v1428,v1429) => if (decide (v1429 < (List.length v667:Int))) then (if (0≤v1429∧v1429 < (List.length v667:Int)) then (if (0 ≤ (List.getD v667 (Int.toNat v1429) (0:Int)) ∧ (List.getD v667 (Int.toNat v1429) (0:Int)) < (List.length x0:Int)) then (f70.l1519 k v1427 x0 v667 v1429 v1428 (f70.j1491 k v1429 ((f70.l1175 k v667 x0) m1175)) k (true,(0:Int))) else none) else none) else (some v1428)
def f70.l400 (k:Nat) (x0:(List (Int × ((Int × Int) × (Int × (Int × Int)))))) (x1:(List Int)):Nat → ((List Int) × Int)→Option (List Int)
 | 0,_ => none
 | m400+1,(v667,v668) => if (decide (v668 < (List.length x0:Int))) then (f70.l770 k v667 x0 x1 v668 (f70.j764 k v667 v668 ((f70.l400 k x0 x1) m400)) k (List.length v667:Int)) else (f70.l1175 k v667 x0 k (([]:List (Int × ((Int × Int) × (Int × (Int × Int))))),([]:List Int),(0:Int)))
def f70 (k:Nat) (x0:(List (Int × ((Int × Int) × (Int × (Int × Int)))))) (x1:(List Int)):Option (List Int):=f70.l400 k x0 x1 k (([]:List Int),(0:Int))
theorem c70 (k:Nat) (x0:(List (Int × ((Int × Int) × (Int × (Int × Int)))))) (x1:(List Int)) (r:(List Int)) (hF:f70 k x0 x1=some r):PCall Try.prog 70 [⟨sh6,x0⟩,⟨(.sl false 2 iS),x1⟩] [⟨(.sl false 2 iS),r⟩]:=by
 refine pcall_intro Try.func70 rfl rfl (Nat.le_of_ble_eq_true rfl) ?_
 intro w0 Zi a w h
 rw [f70] at hF
 refine zs [0,1] h an fun a w h => ?_
 refine zs [0,1,5] h an fun a w h => ?_
 refine wp_seq ?_
 refine zs [0,1,5,6] h an fun a w h => ?_
 refine wp_block ?_
 refine wp_loop_fuel (f70.l400 k x0 x1) (fun ((v667,v668):((List Int) × Int)) => [(0,.val sh6 x0),(1,.val (.sl false 2 iS) x1),(5,.val (.sl true 3 iS) v667),(6,.val iS v668)]) (fun v h => by obtain ⟨v667,v668⟩:=v; rw [f70.l400] at h; cases h) ?_ hF (ar h [0,1,5,6])
 intro m400 v a w hF h
 obtain ⟨v667,v668⟩:=v
 rw [f70.l400] at hF
 refine wp_seq ?_
 refine zs [0,1,5,6,21] h an fun a w h => ?_
 refine zi h hF (fun hF => ?_) (fun hF => ?_)
 ·refine wp_skip ?_
  refine wp_seq <| wp_block ?_
  refine zs [0,1,5,6,7] h an fun a w h => ?_
  refine wp_mid (fun a w => ∃ v:Int,f70.j764 k v667 v668 ((f70.l400 k x0 x1) m400) v=some r∧Rel w0 (fun _ => False) Zi Try.f70.ntmps ((fun v763 => ([(0,.val sh6 x0),(1,.val (.sl false 2 iS) x1),(5,.val (.sl true 3 iS) v667),(6,.val iS v668),(7,.val iS v763)]:SS)) v) a w) ?_ ?_
  ·
   refine wp_block ?_
   refine wp_loop_fuel (f70.l770 k v667 x0 x1 v668 (f70.j764 k v667 v668 ((f70.l400 k x0 x1) m400))) (fun v790 => [(0,.val sh6 x0),(1,.val (.sl false 2 iS) x1),(5,.val (.sl true 3 iS) v667),(6,.val iS v668),(7,.val iS v790)]) (fun v h => by rw [f70.l770] at h; cases h) ?_ hF (ar h [0,1,5,6,7])
   intro m770 v790 a w hF h
   rw [f70.l770] at hF
   refine wp_seq ?_
   refine zs [0,1,5,6,7,27] h an fun a w h => ?_
   refine zi h hF (fun hF => ?_) (fun hF => ?_)
   ·refine wp_skip ?_
    refine wp_block ?_
    obtain ⟨hc797,hF⟩:=of_if hF
    obtain ⟨hc798,hF⟩:=of_if hF
    refine zs [0,1,5,6,7,8] h (ac hc797 (ac hc798 an)) fun a w h => ?_
    obtain ⟨r791,hr796,hF⟩:=of_bind hF
    refine zc (orcL [(38,[⟨iS,r791⟩])]) [0,1,5,6,7,8,9] h (ac (c134 k (gD x0 (tZ (gD v667 (tZ (w64 (v790 - (1:Int)))) iO)) (iO,((iO,iO),(iO,(iO,iO))))) x1 r791 hr796) an) fun a w h => ?_
    obtain ⟨hc794,hF⟩:=of_if hF
    obtain ⟨r792,hr795,hF⟩:=of_bind hF
    refine zc (orcL [(44,[⟨iS,r792⟩])]) [0,1,5,6,7,8,9,10] h (ac hc794 (ac (c134 k (gD x0 (tZ v668) (iO,((iO,iO),(iO,(iO,iO))))) x1 r792 hr795) an)) fun a w h => ?_
    refine wp_seq ?_
    obtain ⟨hc793,hF⟩:=of_if hF
    refine wp_regy_seq tok (orc:=o0) (l:=[0,1,5,6,7,62]) ([],[],[],[]) 18 nw h (by kernel_rfl) (by kernel_rfl) (ac hc793 an) fun a w h => ?_
    refine zi h hF (fun hF => ?_) (fun hF => ?_)
    ·refine wp_exit ?_
     exact ⟨v790,hF,ar h [0,1,5,6,7]⟩
    ·refine wp_skip ?_
     refine zt [0,1,5,6,7] h an fun a w h => ?_
     exact ⟨(w64 (v790 - (1:Int))),hF,ar h [0,1,5,6,7]⟩
   ·refine wp_exit ?_
    exact ⟨v790,hF,ar h [0,1,5,6,7]⟩
  ·rintro a w ⟨v763,hF,h⟩
   rw [f70.j764] at hF
   obtain ⟨hc765,hF⟩:=of_if hF
   obtain ⟨hc766,hF⟩:=of_if hF
   obtain ⟨hc767,hF⟩:=of_if hF
   obtain ⟨hc768,hF⟩:=of_if hF
   obtain ⟨hc769,hF⟩:=of_if hF
   refine wp_regy tok (orc:=o0) (fz:=[5]) (l:=[0,1,5,6]) ([],[(4,[65]),(7,[69])],[],[(5,[6]),(6,[70]),(8,[5]),(9,[7]),(10,[73,74])]) 11 (.inr fun i h => h) h (by kernel_rfl) (by kernel_rfl) (ac hc765 (ac hc766 (ac hc767 (ac hc768 (ac hc769 an))))) fun a w h => ?_
   refine zt [0,1,5,6] h an fun a w h => ?_
   exact ⟨((((([]:List Int) ++ (List.drop 0 (List.take (tZ v763) v667))) ++ [v668]) ++ (List.drop (tZ v763) (List.take (List.length v667) v667))),(w64 (v668 + (1:Int)))),hF,ar h [0,1,5,6]⟩
 ·refine wp_exit ?_
  refine zs [0,5,11] h an fun a w h => ?_
  refine zs [0,5,11,12] h an fun a w h => ?_
  refine wp_seq ?_
  refine zs [0,5,11,12,13] h an fun a w h => ?_
  refine wp_block ?_
  refine wp_loop_fuel (f70.l1175 k v667 x0) (fun ((v1427,v1428,v1429):((List (Int × ((Int × Int) × (Int × (Int × Int))))) × (List Int) × Int)) => [(0,.val sh6 x0),(5,.val (.sl true 3 iS) v667),(11,.val sh4 v1427),(12,.val (.sl false 2 iS) v1428),(13,.val iS v1429)]) (fun v h => by obtain ⟨v1427,v1428,v1429⟩:=v; rw [f70.l1175] at h; cases h) ?_ hF (h.arrive (fz:=[12]) (l:=[0,5,11,12,13]) (.inr fun i h => h) (by kernel_rfl))
  intro m1175 v a w hF h
  obtain ⟨v1427,v1428,v1429⟩:=v
  rw [f70.l1175] at hF
  refine wp_seq ?_
  refine zs [0,5,11,12,13,82] h an fun a w h => ?_
  refine zi h hF (fun hF => ?_) (fun hF => ?_)
  ·refine wp_skip ?_
   refine wp_mid (fun a w => ∃ v:((List (Int × ((Int × Int) × (Int × (Int × Int))))) × (List Int)),f70.j1491 k v1429 ((f70.l1175 k v667 x0) m1175) v=some r∧Rel w0 (fun _ => False) Zi Try.f70.ntmps ((fun ((v1489,v1490):((List (Int × ((Int × Int) × (Int × (Int × Int))))) × (List Int))) => ([(0,.val sh6 x0),(5,.val (.sl true 3 iS) v667),(11,.val sh4 v1489),(12,.val (.sl false 2 iS) v1490),(13,.val iS v1429)]:SS)) v) a w) ?_ ?_
   ·
    refine wp_block ?_
    obtain ⟨hc1549,hF⟩:=of_if hF
    obtain ⟨hc1550,hF⟩:=of_if hF
    refine zs [0,5,11,12,13,14] h (ac hc1549 (ac hc1550 an)) fun a w h => ?_
    refine zs [0,5,11,12,13,14,15] h an fun a w h => ?_
    refine wp_seq ?_
    refine zs [0,5,11,12,13,14,15,16] h an fun a w h => ?_
    refine wp_block ?_
    refine wp_loop_fuel (f70.l1519 k v1427 x0 v667 v1429 v1428 (f70.j1491 k v1429 ((f70.l1175 k v667 x0) m1175))) (fun ((v1538,v1539):(Bool × Int)) => [(0,.val sh6 x0),(5,.val (.sl true 3 iS) v667),(11,.val sh4 v1427),(12,.val (.sl false 2 iS) v1428),(13,.val iS v1429),(14,.val sh7 (some (gD x0 (tZ (gD v667 (tZ v1429) iO)) (iO,((iO,iO),(iO,(iO,iO))))))),(15,.val .bool v1538),(16,.val iS v1539)]) (fun v h => by obtain ⟨v1538,v1539⟩:=v; rw [f70.l1519] at h; cases h) ?_ hF (ar h [0,5,11,12,13,14,15,16])
    intro m1519 v a w hF h
    obtain ⟨v1538,v1539⟩:=v
    rw [f70.l1519] at hF
    refine wp_seq ?_
    refine zs [0,5,11,12,13,14,15,16,98] h an fun a w h => ?_
    refine zi h hF (fun hF => ?_) (fun hF => ?_)
    ·refine wp_skip ?_
     refine wp_seq <| wp_block ?_
     obtain ⟨hc1544,hF⟩:=of_if hF
     obtain ⟨r1543,hr1545,hF⟩:=of_bind hF
     refine wp_regy tok (orc:=orcL [(106,[⟨.bool,r1543⟩])]) (l:=[0,5,11,12,13,14,15,16]) ([],[],[],[]) 8 nw h (by kernel_rfl) (by kernel_rfl) (ac hc1544 (ac (c135 k (gD x0 (tZ (gD v667 (tZ v1429) iO)) (iO,((iO,iO),(iO,(iO,iO))))) (gD v1427 (tZ v1539) (iO,((iO,iO),(iO,(iO,iO))))) r1543 hr1545) an)) fun a w h => ?_
     refine zt [0,5,11,12,13,14,15,16] h an fun a w h => ?_
     exact ⟨((!r1543),(w64 (v1539 + (1:Int)))),hF,ar h [0,5,11,12,13,14,15,16]⟩
    ·refine wp_exit ?_
     refine zs [0,5,11,12,13,14,108] h an fun a w h => ?_
     refine zi h hF (fun hF => ?_) (fun hF => ?_)
     ·obtain ⟨hc1548,hF⟩:=of_if hF
      refine zs [0,5,11,12,13,14] h (ac hc1548 an) fun a w h => ?_
      obtain ⟨r1546,hr1547,hF⟩:=of_bind hF
      refine zd (orcL [(116,[⟨(.sl false 2 iS),r1546⟩])]) [0,5,11,12,13] h (ac (c136 k v1428 (gD x0 (tZ (gD v667 (tZ v1429) iO)) (iO,((iO,iO),(iO,(iO,iO))))).1 r1546 hr1547) an) fun a w h => ?_
      exact ⟨((v1427 ++ [(gD x0 (tZ (gD v667 (tZ v1429) iO)) (iO,((iO,iO),(iO,(iO,iO)))))]),r1546),hF,ar h [0,5,11,12,13]⟩
     ·refine wp_skip ?_
      exact ⟨(v1427,v1428),hF,ar h [0,5,11,12,13]⟩
   ·rintro a w ⟨v,hF,h⟩
    obtain ⟨v1489,v1490⟩:=v
    rw [f70.j1491] at hF
    refine zt [0,5,11,12,13] h an fun a w h => ?_
    exact ⟨(v1489,v1490,(w64 (v1429 + (1:Int)))),hF,ar h [0,5,11,12,13]⟩
  ·refine wp_exit ?_
   refine zs [4] h an fun a w h => ?_
   cases hF
   exact wp_ret (ret_okR tok h rfl (by kernel_rfl)).1
def f12 (k:Nat) (x0:(List (Int × ((Int × Int) × (Int × (Int × Int)))))) (x1:(List Int)):Option (List Int):=(f69 k x0).bind fun r1 => (if (bif (!r1) then true else (decide (((List.length x1:Int):Int) > (500:Int)))) then (some ([]:List Int)) else ((f70 k x0 x1).bind fun r2 => (some r2)))
theorem c12 (k:Nat) (x0:(List (Int × ((Int × Int) × (Int × (Int × Int)))))) (x1:(List Int)) (r:(List Int)) (hF:f12 k x0 x1=some r):PCall Try.prog 12 [⟨sh6,x0⟩,⟨(.sl false 2 iS),x1⟩] [⟨(.sl false 2 iS),r⟩]:=by
 refine pcall_intro Try.func12 rfl rfl (Nat.le_of_ble_eq_true rfl) ?_
 intro w0 Zi a w h
 rw [f12] at hF
 refine zs [0,1] h an fun a w h => ?_
 refine wp_seq ?_
 obtain ⟨r1,hr4,hF⟩:=of_bind hF
 refine zc (orcL [(6,[⟨.bool,r1⟩])]) [0,1,12] h (ac (c69 k x0 r1 hr4) an) fun a w h => ?_
 refine zi h hF (fun hF => ?_) (fun hF => ?_)
 ·refine zs [4] h an fun a w h => ?_
  cases hF
  have h:=Rel.freezeS (fz:=[4]) (.inr fun i h => h) h (by kernel_rfl)
  exact wp_ret (ret_okR tok h rfl (by kernel_rfl)).1
 ·refine wp_skip ?_
  obtain ⟨r2,hr3,hF⟩:=of_bind hF
  refine zc (orcL [(16,[⟨(.sl false 2 iS),r2⟩])]) [4] h (ac (c70 k x0 x1 r2 hr3) an) fun a w h => ?_
  cases hF
  exact wp_ret (ret_okR tok h rfl (by kernel_rfl)).1
def f22.l44 (k:Nat) (x0:(List (List (Int × ((Int × Int) × (Int × (Int × Int))))))):Nat → ((List (List Int)) × (List Int) × Int)→Option (List (List Int))
 | 0,_ => none
 | m44+1,(v74,v75,v76) => if (bif (decide (v76 < (List.length x0:Int))) then (decide (((List.length x0:Int):Int) ≤ (30:Int))) else false) then (if (0≤v76∧v76 < (List.length x0:Int)) then ((f12 k (List.getD x0 (Int.toNat v76) ([]:(List (Int × ((Int × Int) × (Int × (Int × Int))))))) v75).bind fun r82 => (if ((List.length ([]:List Int)+List.length r82)*8≤140737488355328) then (if ((List.length v74+List.length [(([]:List Int) ++ r82)])*24≤140737488355328) then ((f22.l44 k x0) m44 ((v74 ++ [(([]:List Int) ++ r82)]),r82,(IntKind.i64.wrap (v76 + (1:Int))))) else none) else none)) else none) else (some v74)
def f22 (k:Nat) (x0:(List (List (Int × ((Int × Int) × (Int × (Int × Int))))))):Option (List (List Int)):=f22.l44 k x0 k (([]:List (List Int)),([]:List Int),(0:Int))
theorem c22 (k:Nat) (x0:(List (List (Int × ((Int × Int) × (Int × (Int × Int))))))) (r:(List (List Int))) (hF:f22 k x0=some r):PCall Try.prog 22 [⟨sh8,x0⟩] [⟨sh9,r⟩]:=by
 refine pcall_intro Try.func22 rfl rfl (Nat.le_of_ble_eq_true rfl) ?_
 intro w0 Zi a w h
 rw [f22] at hF
 refine zs [0] h an fun a w h => ?_
 refine zs [0,3] h an fun a w h => ?_
 refine zs [0,3,4] h an fun a w h => ?_
 refine wp_seq ?_
 refine zs [0,3,4,5] h an fun a w h => ?_
 refine wp_block ?_
 refine wp_loop_fuel (f22.l44 k x0) (fun ((v74,v75,v76):((List (List Int)) × (List Int) × Int)) => [(0,.val sh8 x0),(3,.val sh9 v74),(4,.val (.sl false 2 iS) v75),(5,.val iS v76)]) (fun v h => by obtain ⟨v74,v75,v76⟩:=v; rw [f22.l44] at h; cases h) ?_ hF (h.arrive (fz:=[4]) (l:=[0,3,4,5]) (.inr fun i h => h) (by kernel_rfl))
 intro m44 v a w hF h
 obtain ⟨v74,v75,v76⟩:=v
 rw [f22.l44] at hF
 refine wp_seq ?_
 refine zs [0,3,4,5,16] h an fun a w h => ?_
 refine zi h hF (fun hF => ?_) (fun hF => ?_)
 ·refine wp_skip ?_
  refine wp_seq <| wp_block ?_
  obtain ⟨hc85,hF⟩:=of_if hF
  obtain ⟨r82,hr86,hF⟩:=of_bind hF
  refine zc (orcL [(24,[⟨(.sl false 2 iS),r82⟩])]) [0,3,4,5] h (ac hc85 (ac (c12 k (gD x0 (tZ v76) ([]:(List (Int × ((Int × Int) × (Int × (Int × Int))))))) v75 r82 hr86) an)) fun a w h => ?_
  obtain ⟨hc83,hF⟩:=of_if hF
  obtain ⟨hc84,hF⟩:=of_if hF
  refine zt [0,3,4,5] h (ac hc83 (ac hc84 an)) fun a w h => ?_
  refine zt [0,3,4,5] h an fun a w h => ?_
  exact ⟨((v74 ++ [(([]:List Int) ++ r82)]),r82,(w64 (v76 + (1:Int)))),hF,ar h [0,3,4,5]⟩
 ·refine wp_exit ?_
  refine zs [2,3] h an fun a w h => ?_
  cases hF
  exact wp_ret (ret_okR tok h rfl (by kernel_rfl)).1
def f146 (k:Nat) (x0:Int):Option Bool:=some (bif (decide (x0 ≥ (1:Int))) then (decide (x0 ≤ (1000000000:Int))) else false)
theorem c146 (k:Nat) (x0:Int) (r:Bool) (hF:f146 k x0=some r):PCall Try.prog 146 [⟨iS,x0⟩] [⟨.bool,r⟩]:=by
 refine pcall_intro Try.func146 rfl rfl (Nat.le_of_ble_eq_true rfl) ?_
 intro w0 Zi a w h
 rw [f146] at hF
 refine zs [0] h an fun a w h => ?_
 refine zs [2] h an fun a w h => ?_
 cases hF
 exact wp_ret (ret_okR tok h rfl (by kernel_rfl)).1
def f147 (k:Nat) (x0:(Int × Int)):Option Bool:=some (bif (bif (bif (decide (x0.1 ≥ (-10000000:Int))) then (decide (x0.1 ≤ (10000000:Int))) else false) then (decide (x0.2 ≥ (-10000000:Int))) else false) then (decide (x0.2 ≤ (10000000:Int))) else false)
theorem c147 (k:Nat) (x0:(Int × Int)) (r:Bool) (hF:f147 k x0=some r):PCall Try.prog 147 [⟨sh2,x0⟩] [⟨.bool,r⟩]:=by
 refine pcall_intro Try.func147 rfl rfl (Nat.le_of_ble_eq_true rfl) ?_
 intro w0 Zi a w h
 rw [f147] at hF
 refine zs [1] h an fun a w h => ?_
 refine zs [2] h an fun a w h => ?_
 cases hF
 exact wp_ret (ret_okR tok h rfl (by kernel_rfl)).1
def f81 (k:Nat) (x0:(Int × ((Int × Int) × (Int × (Int × Int))))):Option Bool:=(f146 k x0.1).bind fun r1 => ((if (r1=true) then f147 k x0.2.1 else some default).bind fun r2 => (some (bif (bif (bif (bif (bif (bif (bif r1 then r2 else false) then (decide (x0.2.2.1 ≥ (1:Int))) else false) then (decide (x0.2.2.1 ≤ (100000:Int))) else false) then (decide (x0.2.2.2.1 ≥ (1:Int))) else false) then (decide (x0.2.2.2.1 ≤ (100000:Int))) else false) then (decide (x0.2.2.2.2 ≥ (0:Int))) else false) then (decide (x0.2.2.2.2 ≤ (1000:Int))) else false)))
theorem c81 (k:Nat) (x0:(Int × ((Int × Int) × (Int × (Int × Int))))) (r:Bool) (hF:f81 k x0=some r):PCall Try.prog 81 [⟨sh3,x0⟩] [⟨.bool,r⟩]:=by
 refine pcall_intro Try.func81 rfl rfl (Nat.le_of_ble_eq_true rfl) ?_
 intro w0 Zi a w h
 rw [f81] at hF
 refine zs [1] h an fun a w h => ?_
 obtain ⟨r1,hr3,hF⟩:=of_bind hF
 obtain ⟨r2,hr4,hF⟩:=of_bind hF
 refine zc (orcL [(5,[⟨.bool,r1⟩]),(9,[⟨.bool,r2⟩])]) [2] h (ac (c146 k x0.1 r1 hr3) (ac (fun (hg:(r1=true)) => c147 k x0.2.1 r2 (of_g hg hr4)) an)) fun a w h => ?_
 cases hF
 exact wp_ret (ret_okR tok h rfl (by kernel_rfl)).1
def f32.l28 (k:Nat) (x0:(List (Int × ((Int × Int) × (Int × (Int × Int)))))):Nat → ((List (Int × Bool)) × Int)→Option Bool
 | 0,_ => none
 | m28+1,(v47,v48) => if (decide (v48 < (List.length x0:Int))) then (if (0≤v48∧v48 < (List.length x0:Int)) then ((f81 k (List.getD x0 (Int.toNat v48) ((0:Int),(((0:Int),(0:Int)),((0:Int),((0:Int),(0:Int))))))).bind fun r52 => (if (bif (!r52) then true else (mget (Sh.beq (.int .i64)) (some v47) (List.getD x0 (Int.toNat v48) ((0:Int),(((0:Int),(0:Int)),((0:Int),((0:Int),(0:Int)))))).1 false)) then (some false) else ((f32.l28 k x0) m28 ((mput (Sh.beq (.int .i64)) (List.getD x0 (Int.toNat v48) ((0:Int),(((0:Int),(0:Int)),((0:Int),((0:Int),(0:Int)))))).1 true v47),(IntKind.i64.wrap (v48 + (1:Int))))))) else none) else (some true)
def f32 (k:Nat) (x0:(List (Int × ((Int × Int) × (Int × (Int × Int)))))):Option Bool:=if (decide (((List.length x0:Int):Int) > (500:Int))) then (some false) else (f32.l28 k x0 k (([]:(List (Int × Bool))),(0:Int)))
theorem c32 (k:Nat) (x0:(List (Int × ((Int × Int) × (Int × (Int × Int)))))) (r:Bool) (hF:f32 k x0=some r):PCall Try.prog 32 [⟨sh6,x0⟩] [⟨.bool,r⟩]:=by
 refine pcall_intro Try.func32 rfl rfl (Nat.le_of_ble_eq_true rfl) ?_
 intro w0 Zi a w h
 rw [f32] at hF
 refine zs [0] h an fun a w h => ?_
 refine wp_seq ?_
 refine zs [0,8] h an fun a w h => ?_
 refine zi h hF (fun hF => ?_) (fun hF => ?_)
 ·refine zs [2] h an fun a w h => ?_
  cases hF
  exact wp_ret (ret_okR tok h rfl (by kernel_rfl)).1
 ·refine wp_skip ?_
  refine zs [0,3] h an fun a w h => ?_
  refine wp_seq ?_
  refine zs [3,10,11,12] h an fun a w h => ?_
  refine wp_block ?_
  refine wp_loop_fuel (f32.l28 k x0) (fun ((v47,v48):((List (Int × Bool)) × Int)) => [(3,.val sh10 (some v47)),(10,.val sh6 x0),(11,.val iS (List.length x0:Int)),(12,.val iS v48)]) (fun v h => by obtain ⟨v47,v48⟩:=v; rw [f32.l28] at h; cases h) ?_ hF (ar h [3,10,11,12])
  intro m28 v a w hF h
  obtain ⟨v47,v48⟩:=v
  rw [f32.l28] at hF
  refine zs [3,10,11,12,13] h an fun a w h => ?_
  refine wp_seq <| zi h hF (fun hF => ?_) (fun hF => ?_)
  ·refine wp_skip ?_
   refine wp_seq <| wp_block ?_
   obtain ⟨hc54,hF⟩:=of_if hF
   refine zs [3,5,10,11,12] h (ac hc54 an) fun a w h => ?_
   refine wp_seq ?_
   obtain ⟨r52,hr53,hF⟩:=of_bind hF
   refine zc (orcL [(17,[⟨.bool,r52⟩])]) [3,5,10,11,12,24] h (ac (c81 k (gD x0 (tZ v48) (iO,((iO,iO),(iO,(iO,iO))))) r52 hr53) (ac (fun (_:((!r52)=false)) => (show eqTy Try.prog 9 2 iS=true from by kernel_rfl)) an)) fun a w h => ?_
   refine zi h hF (fun hF => ?_) (fun hF => ?_)
   ·refine zs [2] h an fun a w h => ?_
    cases hF
    exact wp_ret (ret_okR tok h rfl (by kernel_rfl)).1
   ·refine wp_skip ?_
    refine zt [3,10,11,12] h (ac (show eqTy Try.prog 9 2 iS=true from by kernel_rfl) an) fun a w h => ?_
    refine zt [3,10,11,12] h an fun a w h => ?_
    exact ⟨((mput (Sh.beq iS) (gD x0 (tZ v48) (iO,((iO,iO),(iO,(iO,iO))))).1 true v47),(w64 (v48 + (1:Int)))),hF,ar h [3,10,11,12]⟩
  ·refine wp_exit ?_
   refine zs [2] h an fun a w h => ?_
   cases hF
   exact wp_ret (ret_okR tok h rfl (by kernel_rfl)).1
def f72 (k:Nat) (x0:(Int × ((Int × Int) × (Int × (Int × Int))))) (x1_0:(Option (List (Int × Bool)))):Option Int:=if (mget (Sh.beq (.int .i64)) x1_0 x0.1 false) then (some (IntKind.i64.wrap (x0.2.2.2.2 + (50:Int)))) else (some x0.2.2.2.2)
theorem c72 (k:Nat) (x0:(Int × ((Int × Int) × (Int × (Int × Int))))) (x1_0:(Option (List (Int × Bool)))) (r:Int) (hF:f72 k x0 x1_0=some r):PCall Try.prog 72 [⟨sh3,x0⟩,⟨sh12,(some x1_0)⟩] [⟨iS,r⟩]:=by
 refine pcall_intro Try.func72 rfl rfl (Nat.le_of_ble_eq_true rfl) ?_
 intro w0 Zi a w h
 rw [f72] at hF
 refine zs [1,2] h an fun a w h => ?_
 refine wp_seq ?_
 refine zs [2,7] h (ac (show eqTy Try.prog 9 2 iS=true from by kernel_rfl) an) fun a w h => ?_
 refine zi h hF (fun hF => ?_) (fun hF => ?_)
 ·refine zs [3] h an fun a w h => ?_
  cases hF
  exact wp_ret (ret_okR tok h rfl (by kernel_rfl)).1
 ·refine wp_skip ?_
  refine zs [3] h an fun a w h => ?_
  cases hF
  exact wp_ret (ret_okR tok h rfl (by kernel_rfl)).1
def f74 (k:Nat) (x0:Int) (x1:Int) (x2_0:(Option (List (Int × Bool)))) (x3_0:(List (Int × ((Int × Int) × (Int × (Int × Int)))))):Option Bool:=if (0≤x0∧x0 < (List.length x3_0:Int)) then ((f72 k (List.getD x3_0 (Int.toNat x0) ((0:Int),(((0:Int),(0:Int)),((0:Int),((0:Int),(0:Int)))))) x2_0).bind fun r1 => (if (0≤x1∧x1 < (List.length x3_0:Int)) then ((f72 k (List.getD x3_0 (Int.toNat x1) ((0:Int),(((0:Int),(0:Int)),((0:Int),((0:Int),(0:Int)))))) x2_0).bind fun r2 => (if (r1 != r2) then (some (decide (r1 > r2))) else (if (0≤x0∧x0 < (List.length x3_0:Int)) then (if (0≤x1∧x1 < (List.length x3_0:Int)) then (some (decide (((List.getD x3_0 (Int.toNat x0) ((0:Int),(((0:Int),(0:Int)),((0:Int),((0:Int),(0:Int)))))).1:Int) < (List.getD x3_0 (Int.toNat x1) ((0:Int),(((0:Int),(0:Int)),((0:Int),((0:Int),(0:Int)))))).1))) else none) else none))) else none)) else none
theorem c74 (k:Nat) (x0:Int) (x1:Int) (x2_0:(Option (List (Int × Bool)))) (x3_0:(List (Int × ((Int × Int) × (Int × (Int × Int)))))) (r:Bool) (hF:f74 k x0 x1 x2_0 x3_0=some r):PCall Try.prog 74 [⟨iS,x0⟩,⟨iS,x1⟩,⟨sh13,(some ((some x2_0),()))⟩,⟨sh14,(some x3_0)⟩] [⟨.bool,r⟩]:=by
 refine pcall_intro Try.func74 rfl rfl (Nat.le_of_ble_eq_true rfl) ?_
 intro w0 Zi a w h
 rw [f74] at hF
 refine zs [0,1,2,3] h an fun a w h => ?_
 refine wp_seq ?_
 obtain ⟨hc5,hF⟩:=of_if hF
 obtain ⟨r1,hr6,hF⟩:=of_bind hF
 obtain ⟨hc7,hF⟩:=of_if hF
 obtain ⟨r2,hr8,hF⟩:=of_bind hF
 refine wp_regy_seq tok (orc:=orcL [(14,[⟨iS,r1⟩]),(20,[⟨iS,r2⟩])]) (l:=[0,1,3,7,8]) ([],[],[],[]) 14 nw h (by kernel_rfl) (by kernel_rfl) (ac hc5 (ac (c72 k (gD x3_0 (tZ x0) (iO,((iO,iO),(iO,(iO,iO))))) x2_0 r1 hr6) (ac hc7 (ac (c72 k (gD x3_0 (tZ x1) (iO,((iO,iO),(iO,(iO,iO))))) x2_0 r2 hr8) an)))) fun a w h => ?_
 refine zs [0,1,3,7,8,23] h an fun a w h => ?_
 refine zi h hF (fun hF => ?_) (fun hF => ?_)
 ·refine zs [6] h an fun a w h => ?_
  cases hF
  exact wp_ret (ret_okR tok h rfl (by kernel_rfl)).1
 ·refine wp_skip ?_
  obtain ⟨hc3,hF⟩:=of_if hF
  obtain ⟨hc4,hF⟩:=of_if hF
  refine wp_regy_seq tok (orc:=o0) (l:=[6]) ([],[],[],[]) 12 nw h (by kernel_rfl) (by kernel_rfl) (ac hc3 (ac hc4 an)) fun a w h => ?_
  cases hF
  exact wp_ret (ret_okR tok h rfl (by kernel_rfl)).1
def f75 (k:Nat) (x0:(Int × ((Int × Int) × (Int × (Int × Int))))) (x1:(Int × ((Int × Int) × (Int × (Int × Int))))):Option Bool:=some (bif (bif (bif (decide (x0.2.1.1 < (IntKind.i64.wrap (x1.2.1.1+x1.2.2.1)))) then (decide (x1.2.1.1 < (IntKind.i64.wrap (x0.2.1.1+x0.2.2.1)))) else false) then (decide (x0.2.1.2 < (IntKind.i64.wrap (x1.2.1.2+x1.2.2.2.1)))) else false) then (decide (x1.2.1.2 < (IntKind.i64.wrap (x0.2.1.2+x0.2.2.2.1)))) else false)
theorem c75 (k:Nat) (x0:(Int × ((Int × Int) × (Int × (Int × Int))))) (x1:(Int × ((Int × Int) × (Int × (Int × Int))))) (r:Bool) (hF:f75 k x0 x1=some r):PCall Try.prog 75 [⟨sh3,x0⟩,⟨sh3,x1⟩] [⟨.bool,r⟩]:=by
 refine pcall_intro Try.func75 rfl rfl (Nat.le_of_ble_eq_true rfl) ?_
 intro w0 Zi a w h
 rw [f75] at hF
 refine zs [2,3] h an fun a w h => ?_
 refine zs [4] h an fun a w h => ?_
 cases hF
 exact wp_ret (ret_okR tok h rfl (by kernel_rfl)).1
def f76 (k:Nat) (x0:Int) (x1:Int) (x2_0:(List Int)):Option Bool:=if (0≤x0∧x0 < (List.length x2_0:Int)) then (if (0≤x1∧x1 < (List.length x2_0:Int)) then (some (decide (((List.getD x2_0 (Int.toNat x0) (0:Int)):Int) < (List.getD x2_0 (Int.toNat x1) (0:Int))))) else none) else none
theorem c76 (k:Nat) (x0:Int) (x1:Int) (x2_0:(List Int)) (r:Bool) (hF:f76 k x0 x1 x2_0=some r):PCall Try.prog 76 [⟨iS,x0⟩,⟨iS,x1⟩,⟨sh17,(some x2_0)⟩] [⟨.bool,r⟩]:=by
 refine pcall_intro Try.func76 rfl rfl (Nat.le_of_ble_eq_true rfl) ?_
 intro w0 Zi a w h
 rw [f76] at hF
 refine zs [0,1,2] h an fun a w h => ?_
 obtain ⟨hc1,hF⟩:=of_if hF
 obtain ⟨hc2,hF⟩:=of_if hF
 refine wp_regy_seq tok (orc:=o0) (l:=[5]) ([],[],[],[]) 10 nw h (by kernel_rfl) (by kernel_rfl) (ac hc1 (ac hc2 an)) fun a w h => ?_
 cases hF
 exact wp_ret (ret_okR tok h rfl (by kernel_rfl)).1
def H74:Prop:=∀ (k:Nat) (c0:(Option (List (Int × Bool)))),LessOk (α:=(Int × ((Int × Int) × (Int × (Int × Int))))) (Sh.dflt sh3) (fun (ys:List (Int × ((Int × Int) × (Int × (Int × Int))))) (i j:Int) => f74 k i j c0 ys)
def H76:Prop:=∀ (k:Nat),LessOk (α:=Int) (Sh.dflt iS) (fun (ys:List Int) (i j:Int) => f76 k i j ys)
def f15.j677 (k:Nat) (v619:Int) (q383:((List (Int × ((Int × Int) × (Int × (Int × Int))))) × Int)→Option (List Int)):(List (Int × ((Int × Int) × (Int × (Int × Int)))))→Option (List Int)
 | v676 => q383 (v676,(IntKind.i64.wrap (v619 + (1:Int))))
def f15.l705 (k:Nat) (v618:(List (Int × ((Int × Int) × (Int × (Int × Int)))))) (v28:(List (Int × Bool))) (x0:(List (Int × ((Int × Int) × (Int × (Int × Int)))))) (v619:Int) (q677:(List (Int × ((Int × Int) × (Int × (Int × Int)))))→Option (List Int)):Nat → (Bool × Int)→Option (List Int)
 | 0,_ => none
 | m705+1,(v724,v725) => if (decide (v725 < (List.length v618:Int))) then (if (0≤v725∧v725 < (List.length v618:Int)) then ((if (v724=true) then f75 k (List.getD (sortR (α:=(Int × ((Int × Int) × (Int × (Int × Int))))) pdqR (Sh.dflt sh3) (ofLess (fun (ys:List (Int × ((Int × Int) × (Int × (Int × Int))))) (i j:Int) => f74 k i j (some v28) ys)) (([]:(List (Int × ((Int × Int) × (Int × (Int × Int)))))) ++ x0)) (Int.toNat v619) ((0:Int),(((0:Int),(0:Int)),((0:Int),((0:Int),(0:Int)))))) (List.getD v618 (Int.toNat v725) ((0:Int),(((0:Int),(0:Int)),((0:Int),((0:Int),(0:Int)))))) else some default).bind fun r729 => ((f15.l705 k v618 v28 x0 v619 q677) m705 ((bif v724 then (!r729) else false),(IntKind.i64.wrap (v725 + (1:Int)))))) else none) else (if v724 then (if ((List.length v618+List.length [(List.getD (sortR (α:=(Int × ((Int × Int) × (Int × (Int × Int))))) pdqR (Sh.dflt sh3) (ofLess (fun (ys:List (Int × ((Int × Int) × (Int × (Int × Int))))) (i j:Int) => f74 k i j (some v28) ys)) (([]:(List (Int × ((Int × Int) × (Int × (Int × Int)))))) ++ x0)) (Int.toNat v619) ((0:Int),(((0:Int),(0:Int)),((0:Int),((0:Int),(0:Int))))))])*48≤140737488355328) then (q677 (v618 ++ [(List.getD (sortR (α:=(Int × ((Int × Int) × (Int × (Int × Int))))) pdqR (Sh.dflt sh3) (ofLess (fun (ys:List (Int × ((Int × Int) × (Int × (Int × Int))))) (i j:Int) => f74 k i j (some v28) ys)) (([]:(List (Int × ((Int × Int) × (Int × (Int × Int)))))) ++ x0)) (Int.toNat v619) ((0:Int),(((0:Int),(0:Int)),((0:Int),((0:Int),(0:Int))))))])) else none) else (q677 v618))
def f15.l755 (k:Nat) (v618:(List (Int × ((Int × Int) × (Int × (Int × Int)))))):Nat → ((List Int) × Int)→Option (List Int)
 | 0,_ => none
 | m755+1,(v770,v771) => if (decide (v771 < (List.length v618:Int))) then (if (0≤v771∧v771 < (List.length v618:Int)) then (if ((List.length v770+List.length [(List.getD v618 (Int.toNat v771) ((0:Int),(((0:Int),(0:Int)),((0:Int),((0:Int),(0:Int)))))).1])*8≤140737488355328) then ((f15.l755 k v618) m755 ((List.append v770 [(List.getD v618 (Int.toNat v771) ((0:Int),(((0:Int),(0:Int)),((0:Int),((0:Int),(0:Int)))))).1]),(IntKind.i64.wrap (v771 + (1:Int))))) else none) else none) else (if (List.length v770 < 2305843009213693952) then (some (sortR (α:=Int) pdqR (Sh.dflt (.int .i64)) (ofLess (fun (ys:List Int) (i j:Int) => f76 k i j ys)) v770)) else none)
def f15.l383 (k:Nat) (v28:(List (Int × Bool))) (x0:(List (Int × ((Int × Int) × (Int × (Int × Int)))))):Nat → ((List (Int × ((Int × Int) × (Int × (Int × Int))))) × Int)→Option (List Int)
 | 0,_ => none
 | m383+1,(v618,v619) => if (decide (v619 < (List.length (sortR (α:=(Int × ((Int × Int) × (Int × (Int × Int))))) pdqR (Sh.dflt sh3) (ofLess (fun (ys:List (Int × ((Int × Int) × (Int × (Int × Int))))) (i j:Int) => f74 k i j (some v28) ys)) (([]:(List (Int × ((Int × Int) × (Int × (Int × Int)))))) ++ x0)):Int))) then (if (0≤v619∧v619 < (List.length (sortR (α:=(Int × ((Int × Int) × (Int × (Int × Int))))) pdqR (Sh.dflt sh3) (ofLess (fun (ys:List (Int × ((Int × Int) × (Int × (Int × Int))))) (i j:Int) => f74 k i j (some v28) ys)) (([]:(List (Int × ((Int × Int) × (Int × (Int × Int)))))) ++ x0)):Int)) then (f15.l705 k v618 v28 x0 v619 (f15.j677 k v619 ((f15.l383 k v28 x0) m383)) k (true,(0:Int))) else none) else (f15.l755 k v618 k (([]:(List Int)),(0:Int)))
def f15.l17 (k:Nat) (x1:(List Int)) (x0:(List (Int × ((Int × Int) × (Int × (Int × Int)))))):Nat → ((List (Int × Bool)) × Int)→Option (List Int)
 | 0,_ => none
 | m17+1,(v28,v29) => if (decide (v29 < (List.length x1:Int))) then (if (0≤v29∧v29 < (List.length x1:Int)) then ((f15.l17 k x1 x0) m17 ((mput (Sh.beq (.int .i64)) (List.getD x1 (Int.toNat v29) (0:Int)) true v28),(IntKind.i64.wrap (v29 + (1:Int))))) else none) else (if ((List.length ([]:(List (Int × ((Int × Int) × (Int × (Int × Int))))))+List.length x0)*48≤140737488355328) then (if (List.length (([]:(List (Int × ((Int × Int) × (Int × (Int × Int)))))) ++ x0) < 2305843009213693952) then (f15.l383 k v28 x0 k (([]:(List (Int × ((Int × Int) × (Int × (Int × Int)))))),(0:Int))) else none) else none)
def f15 (k:Nat) (x0:(List (Int × ((Int × Int) × (Int × (Int × Int)))))) (x1:(List Int)):Option (List Int):=(f32 k x0).bind fun r1 => (if (bif (!r1) then true else (decide (((List.length x1:Int):Int) > (500:Int)))) then (some ([]:(List Int))) else (f15.l17 k x1 x0 k (([]:(List (Int × Bool))),(0:Int))))
theorem c15 (k:Nat) (x0:(List (Int × ((Int × Int) × (Int × (Int × Int)))))) (x1:(List Int)) (h74:H74) (h76:H76) (r:(List Int)) (hF:f15 k x0 x1=some r):PCall Try.prog 15 [⟨sh6,x0⟩,⟨(.sl false 2 iS),x1⟩] [⟨(.sl true 2 iS),r⟩]:=by
 refine pcall_intro Try.func15 rfl rfl (Nat.le_of_ble_eq_true rfl) ?_
 intro w0 Zi a w h
 rw [f15] at hF
 refine zs [0,1] h an fun a w h => ?_
 refine wp_seq ?_
 obtain ⟨r1,hr779,hF⟩:=of_bind hF
 refine zc (orcL [(20,[⟨.bool,r1⟩])]) [0,1,26] h (ac (c32 k x0 r1 hr779) an) fun a w h => ?_
 refine zi h hF (fun hF => ?_) (fun hF => ?_)
 ·refine zs [4] h an fun a w h => ?_
  cases hF
  exact wp_ret (ret_okR tok h rfl (by kernel_rfl)).1
 ·refine wp_skip ?_
  refine zs [0,1,5] h an fun a w h => ?_
  refine wp_seq ?_
  refine zs [0,5,28,29,30] h an fun a w h => ?_
  refine wp_block ?_
  refine wp_loop_fuel (f15.l17 k x1 x0) (fun ((v28,v29):((List (Int × Bool)) × Int)) => [(0,.val sh6 x0),(5,.val sh11 (some (some v28))),(28,.val (.sl false 2 iS) x1),(29,.val iS (List.length x1:Int)),(30,.val iS v29)]) (fun v h => by obtain ⟨v28,v29⟩:=v; rw [f15.l17] at h; cases h) ?_ hF (ar h [0,5,28,29,30])
  intro m17 v a w hF h
  obtain ⟨v28,v29⟩:=v
  rw [f15.l17] at hF
  refine zs [0,5,28,29,30,31] h an fun a w h => ?_
  refine wp_seq <| zi h hF (fun hF => ?_) (fun hF => ?_)
  ·refine wp_skip ?_
   refine wp_seq <| wp_block ?_
   obtain ⟨hc31,hF⟩:=of_if hF
   refine zs [0,5,7,28,29,30] h (ac hc31 an) fun a w h => ?_
   refine zt [0,5,28,29,30] h (ac (show eqTy Try.prog 9 2 iS=true from by kernel_rfl) an) fun a w h => ?_
   refine zt [0,5,28,29,30] h an fun a w h => ?_
   exact ⟨((mput (Sh.beq iS) (gD x1 (tZ v29) iO) true v28),(w64 (v29 + (1:Int)))),hF,ar h [0,5,28,29,30]⟩
  ·refine wp_exit ?_
   replace h:=Rel.freezeS (fz:=[5]) (.inr fun i h => h) h (by kernel_rfl)
   refine wp_seqX_seq (sxG_ok tok (orc:=o0) (sp:=[(0,.fnv)])) h (by kernel_rfl) an fun a w h => ?_
   replace h:=h.only [0,8] (by kernel_rfl)
   obtain ⟨hc778,hF⟩:=of_if hF
   refine zs [8,9] h (ac hc778 an) fun a w h => ?_
   obtain ⟨hc777,hF⟩:=of_if hF
   refine wp_sort_seq tok (fs:=73) (te:=54) (g:=74) (e:=sh3) (res:=pdqR) (cap:=#[.tmp 8,.tmp 9]) (cl:=[8,9]) (f:=(fun (ys:List (Int × ((Int × Int) × (Int × (Int × Int))))) (i j:Int) => f74 k i j (some v28) ys)) Go.Proofs.Ytnpaokckkbhdjaa.S.sc73_26 h rfl rfl rfl rfl rfl rfl rfl rfl rfl rfl rfl rfl rfl rfl (by kernel_rfl) (by kernel_rfl) (by kernel_rfl) rfl (by kernel_rfl) (by kernel_rfl) hc777 ⟨_,Try.func73,rfl,rfl⟩ ⟨_,Try.func74,rfl,rfl⟩ (h74 k (some v28)) (fun ys => ⟨[(8,[]),(9,[])],[⟨sh13,(some ((some (some v28)),()))⟩,⟨sh14,(some ys)⟩],by kernel_rfl,by kernel_rfl,fun i j r hr => c74 k i j (some v28) ys r hr⟩) fun a w h => ?_
   replace h:=h.only [9] (by kernel_rfl)
   refine zs [9,10] h an fun a w h => ?_
   refine wp_seq ?_
   refine zs [9,10,44,45,46] h an fun a w h => ?_
   refine wp_block ?_
   refine wp_loop_fuel (f15.l383 k v28 x0) (fun ((v618,v619):((List (Int × ((Int × Int) × (Int × (Int × Int))))) × Int)) => [(9,.val sh15 (some (sortR (α:=(Int × ((Int × Int) × (Int × (Int × Int))))) pdqR (Sh.dflt sh3) (ofLess (fun (ys:List (Int × ((Int × Int) × (Int × (Int × Int))))) (i j:Int) => f74 k i j (some v28) ys)) (([]:(List (Int × ((Int × Int) × (Int × (Int × Int)))))) ++ x0)))),(10,.val sh4 v618),(44,.copy 9 [.der]),(45,.val iS (List.length (sortR (α:=(Int × ((Int × Int) × (Int × (Int × Int))))) pdqR (Sh.dflt sh3) (ofLess (fun (ys:List (Int × ((Int × Int) × (Int × (Int × Int))))) (i j:Int) => f74 k i j (some v28) ys)) (([]:(List (Int × ((Int × Int) × (Int × (Int × Int)))))) ++ x0)):Int)),(46,.val iS v619)]) (fun v h => by obtain ⟨v618,v619⟩:=v; rw [f15.l383] at h; cases h) ?_ hF (ar h [9,10,44,45,46])
   intro m383 v a w hF h
   obtain ⟨v618,v619⟩:=v
   rw [f15.l383] at hF
   refine zs [9,10,44,45,46,47] h an fun a w h => ?_
   refine wp_seq <| zi h hF (fun hF => ?_) (fun hF => ?_)
   ·refine wp_skip ?_
    refine wp_mid (fun a w => ∃ v:(List (Int × ((Int × Int) × (Int × (Int × Int))))),f15.j677 k v619 ((f15.l383 k v28 x0) m383) v=some r∧Rel w0 (fun _ => False) Zi Try.f15.ntmps ((fun (v676:(List (Int × ((Int × Int) × (Int × (Int × Int)))))) => ([(9,.val sh15 (some (sortR (α:=(Int × ((Int × Int) × (Int × (Int × Int))))) pdqR (Sh.dflt sh3) (ofLess (fun (ys:List (Int × ((Int × Int) × (Int × (Int × Int))))) (i j:Int) => f74 k i j (some v28) ys)) (([]:(List (Int × ((Int × Int) × (Int × (Int × Int)))))) ++ x0)))),(10,.val sh4 v676),(44,.copy 9 [.der]),(45,.val iS (List.length (sortR (α:=(Int × ((Int × Int) × (Int × (Int × Int))))) pdqR (Sh.dflt sh3) (ofLess (fun (ys:List (Int × ((Int × Int) × (Int × (Int × Int))))) (i j:Int) => f74 k i j (some v28) ys)) (([]:(List (Int × ((Int × Int) × (Int × (Int × Int)))))) ++ x0)):Int)),(46,.val iS v619)]:SS)) v) a w) ?_ ?_
    ·
     refine wp_block ?_
     obtain ⟨hc733,hF⟩:=of_if hF
     refine zs [9,10,12,44,45,46] h (ac hc733 an) fun a w h => ?_
     refine zs [9,10,12,13,44,45,46] h an fun a w h => ?_
     refine wp_seq ?_
     refine zs [9,10,12,13,44,45,46,50,51,52] h an fun a w h => ?_
     refine wp_block ?_
     refine wp_loop_fuel (f15.l705 k v618 v28 x0 v619 (f15.j677 k v619 ((f15.l383 k v28 x0) m383))) (fun ((v724,v725):(Bool × Int)) => [(9,.val sh15 (some (sortR (α:=(Int × ((Int × Int) × (Int × (Int × Int))))) pdqR (Sh.dflt sh3) (ofLess (fun (ys:List (Int × ((Int × Int) × (Int × (Int × Int))))) (i j:Int) => f74 k i j (some v28) ys)) (([]:(List (Int × ((Int × Int) × (Int × (Int × Int)))))) ++ x0)))),(10,.val sh4 v618),(12,.val sh7 (some (gD (sortR (α:=(Int × ((Int × Int) × (Int × (Int × Int))))) pdqR (Sh.dflt sh3) (ofLess (fun (ys:List (Int × ((Int × Int) × (Int × (Int × Int))))) (i j:Int) => f74 k i j (some v28) ys)) (([]:(List (Int × ((Int × Int) × (Int × (Int × Int)))))) ++ x0)) (tZ v619) (iO,((iO,iO),(iO,(iO,iO))))))),(13,.val .bool v724),(44,.copy 9 [.der]),(45,.val iS (List.length (sortR (α:=(Int × ((Int × Int) × (Int × (Int × Int))))) pdqR (Sh.dflt sh3) (ofLess (fun (ys:List (Int × ((Int × Int) × (Int × (Int × Int))))) (i j:Int) => f74 k i j (some v28) ys)) (([]:(List (Int × ((Int × Int) × (Int × (Int × Int)))))) ++ x0)):Int)),(46,.val iS v619),(50,.copy 10 []),(51,.val iS (List.length v618:Int)),(52,.val iS v725)]) (fun v h => by obtain ⟨v724,v725⟩:=v; rw [f15.l705] at h; cases h) ?_ hF (ar h [9,10,12,13,44,45,46,50,51,52])
     intro m705 v a w hF h
     obtain ⟨v724,v725⟩:=v
     rw [f15.l705] at hF
     refine zs [9,10,12,13,44,45,46,50,51,52,53] h an fun a w h => ?_
     refine wp_seq <| zi h hF (fun hF => ?_) (fun hF => ?_)
     ·refine wp_skip ?_
      refine wp_seq <| wp_block ?_
      obtain ⟨hc731,hF⟩:=of_if hF
      refine zs [9,10,12,13,15,44,45,46,50,51,52] h (ac hc731 an) fun a w h => ?_
      obtain ⟨r729,hr730,hF⟩:=of_bind hF
      refine zd (orcL [(60,[⟨.bool,r729⟩])]) [9,10,12,13,44,45,46,50,51,52] h (ac (fun (hg:(v724=true)) => c75 k (gD (sortR (α:=(Int × ((Int × Int) × (Int × (Int × Int))))) pdqR (Sh.dflt sh3) (ofLess (fun (ys:List (Int × ((Int × Int) × (Int × (Int × Int))))) (i j:Int) => f74 k i j (some v28) ys)) (([]:(List (Int × ((Int × Int) × (Int × (Int × Int)))))) ++ x0)) (tZ v619) (iO,((iO,iO),(iO,(iO,iO))))) (gD v618 (tZ v725) (iO,((iO,iO),(iO,(iO,iO))))) r729 (of_g hg hr730)) an) fun a w h => ?_
      refine zt [9,10,12,13,44,45,46,50,51,52] h an fun a w h => ?_
      exact ⟨((bif v724 then (!r729) else false),(w64 (v725 + (1:Int)))),hF,ar h [9,10,12,13,44,45,46,50,51,52]⟩
     ·refine wp_exit ?_
      refine zs [9,10,12,44,45,46,64] h an fun a w h => ?_
      refine zi h hF (fun hF => ?_) (fun hF => ?_)
      ·obtain ⟨hc732,hF⟩:=of_if hF
       refine zt [9,10,44,45,46] h (ac hc732 an) fun a w h => ?_
       exact ⟨(v618 ++ [(gD (sortR (α:=(Int × ((Int × Int) × (Int × (Int × Int))))) pdqR (Sh.dflt sh3) (ofLess (fun (ys:List (Int × ((Int × Int) × (Int × (Int × Int))))) (i j:Int) => f74 k i j (some v28) ys)) (([]:(List (Int × ((Int × Int) × (Int × (Int × Int)))))) ++ x0)) (tZ v619) (iO,((iO,iO),(iO,(iO,iO)))))]),hF,ar h [9,10,44,45,46]⟩
      ·refine wp_skip ?_
       exact ⟨v618,hF,ar h [9,10,44,45,46]⟩
    ·rintro a w ⟨v676,hF,h⟩
     rw [f15.j677] at hF
     refine zt [9,10,44,45,46] h an fun a w h => ?_
     exact ⟨(v676,(w64 (v619 + (1:Int)))),hF,ar h [9,10,44,45,46]⟩
   ·refine wp_exit ?_
    refine zs [10,16] h an fun a w h => ?_
    refine wp_seq ?_
    refine zs [10,16,70,71,72] h an fun a w h => ?_
    refine wp_block ?_
    refine wp_loop_fuel (f15.l755 k v618) (fun ((v770,v771):((List Int) × Int)) => [(10,.val sh4 v618),(16,.val sh16 (some v770)),(70,.copy 10 []),(71,.val iS (List.length v618:Int)),(72,.val iS v771)]) (fun v h => by obtain ⟨v770,v771⟩:=v; rw [f15.l755] at h; cases h) ?_ hF (ar h [10,16,70,71,72])
    intro m755 v a w hF h
    obtain ⟨v770,v771⟩:=v
    rw [f15.l755] at hF
    refine zs [10,16,70,71,72,73] h an fun a w h => ?_
    refine wp_seq <| zi h hF (fun hF => ?_) (fun hF => ?_)
    ·refine wp_skip ?_
     refine wp_seq <| wp_block ?_
     obtain ⟨hc775,hF⟩:=of_if hF
     refine zs [10,16,18,70,71,72] h (ac hc775 an) fun a w h => ?_
     obtain ⟨hc774,hF⟩:=of_if hF
     refine zd (orcL [(80,[⟨.pt false 4294967293 .unit,some ()⟩])]) [10,16,70,71,72] h (ac (PrefL.mk (l:=[[.der]]) (p:=[.der]) rfl) (ac hc774 (ac (show ([.der]:Path)=[.der] from rfl) an))) fun a w h => ?_
     refine zt [10,16,70,71,72] h an fun a w h => ?_
     exact ⟨((List.append v770 [(gD v618 (tZ v771) (iO,((iO,iO),(iO,(iO,iO))))).1]),(w64 (v771 + (1:Int)))),hF,ar h [10,16,70,71,72]⟩
    ·refine wp_exit ?_
     obtain ⟨hc776,hF⟩:=of_if hF
     refine wp_sort_seq tok (fs:=73) (te:=2) (g:=76) (e:=iS) (res:=pdqR) (cap:=#[.tmp 16]) (cl:=[16]) (f:=(fun (ys:List Int) (i j:Int) => f76 k i j ys)) Go.Proofs.Ytnpaokckkbhdjaa.S.sc73_23 h rfl rfl rfl rfl rfl rfl rfl rfl rfl rfl rfl rfl rfl rfl (by kernel_rfl) (by kernel_rfl) (by kernel_rfl) rfl (by kernel_rfl) (by kernel_rfl) hc776 ⟨_,Try.func73,rfl,rfl⟩ ⟨_,Try.func76,rfl,rfl⟩ (h76 k) (fun ys => ⟨[(16,[])],[⟨sh17,(some ys)⟩],by kernel_rfl,by kernel_rfl,fun i j r hr => c76 k i j ys r hr⟩) fun a w h => ?_
     replace h:=h.only [16] (by kernel_rfl)
     refine zs [4,16] h an fun a w h => ?_
     cases hF
     exact wp_ret (ret_okR tok h rfl (by kernel_rfl)).1
def f24.j47 (k:Nat):(List (List Int))→Option (List (List Int))
 | v46 => some v46
def f24.l53 (k:Nat) (x0:(List (List (Int × ((Int × Int) × (Int × (Int × Int))))))) (q47:(List (List Int))→Option (List (List Int))):Nat → ((List (List Int)) × Nat × Int)→Option (List (List Int))
 | 0,_ => none
 | m53+1,(v79,v80,v81) => if (decide (v81 < (List.length x0:Int))) then (if (0≤v81∧v81 < (List.length x0:Int)) then ((f15 k (List.getD x0 (Int.toNat v81) ([]:(List (Int × ((Int × Int) × (Int × (Int × Int))))))) (List.getD v79 v80 ([]:(List Int)))).bind fun r86 => (if ((List.length v79+1)*24≤140737488355328) then ((f24.l53 k x0 q47) m53 ((List.append v79 [r86]),(List.length v79),(IntKind.i64.wrap (v81 + (1:Int))))) else none)) else none) else (q47 v79)
def f24 (k:Nat) (x0:(List (List (Int × ((Int × Int) × (Int × (Int × Int))))))):Option (List (List Int)):=if (decide (((List.length x0:Int):Int) > (30:Int))) then (some ([]:(List (List Int)))) else (if (decide (((0:Int):Int) < (List.length x0:Int))) then (if (0 ≤ (0:Int) ∧ (0:Int) < (List.length x0:Int)) then ((f15 k (List.getD x0 (Int.toNat (0:Int)) ([]:(List (Int × ((Int × Int) × (Int × (Int × Int))))))) ([]:(List Int))).bind fun r52 => (if ((List.length ([]:(List (List Int)))+1)*24≤140737488355328) then (f24.l53 k x0 (f24.j47 k) k ((List.append ([]:(List (List Int))) [r52]),(List.length ([]:(List (List Int)))),(IntKind.i64.wrap ((0:Int) + (1:Int))))) else none)) else none) else (f24.j47 k ([]:(List (List Int)))))
theorem c24 (k:Nat) (x0:(List (List (Int × ((Int × Int) × (Int × (Int × Int))))))) (h74:H74) (h76:H76) (r:(List (List Int))) (hF:f24 k x0=some r):PCall Try.prog 24 [⟨sh8,x0⟩] [⟨sh9,r⟩]:=by
 refine pcall_intro Try.func24 rfl rfl (Nat.le_of_ble_eq_true rfl) ?_
 intro w0 Zi a w h
 rw [f24] at hF
 refine zs [0] h an fun a w h => ?_
 refine wp_seq ?_
 refine zs [0,9] h an fun a w h => ?_
 refine zi h hF (fun hF => ?_) (fun hF => ?_)
 ·refine zs [2] h an fun a w h => ?_
  cases hF
  exact wp_ret (ret_okR tok h rfl (by kernel_rfl)).1
 ·refine wp_skip ?_
  refine zs [0,3] h an fun a w h => ?_
  refine zs [0,3,4] h an fun a w h => ?_
  refine wp_seq ?_
  refine zs [3,4,10,11,12] h an fun a w h => ?_
  refine wp_midT (fun a w => ∃ v:(List (List Int)),f24.j47 k v=some r∧Rel w0 (fun _ => False) Zi Try.f24.ntmps ((fun (v46:(List (List Int))) => ([(3,.val sh9 v46)]:SS)) v) a w) ?_ ?_
  ·
   refine wp_block ?_
   refine wp_peel k ?_
   refine zs [3,4,10,11,12,13] h an fun a w h => ?_
   refine wp_seq <| zi h hF (fun hF => ?_) (fun hF => ?_)
   ·refine wp_skip ?_
    refine wp_seq <| wp_block ?_
    obtain ⟨hc92,hF⟩:=of_if hF
    refine zs [3,4,6,10,11,12] h (ac hc92 an) fun a w h => ?_
    obtain ⟨r52,hr91,hF⟩:=of_bind hF
    refine zc (orcL [(18,[⟨(.sl true 2 iS),r52⟩])]) [3,4,10,11,12] h (ac (c15 k (gD x0 (tZ iO) ([]:(List (Int × ((Int × Int) × (Int × (Int × Int))))))) lO h74 h76 r52 hr91) an) fun a w h => ?_
    obtain ⟨hc90,hF⟩:=of_if hF
    refine wp_push (t:=36) (te:=23) (p:=3) (q:=4) (d0:=19) (d1:=20) (d2:=21) (d3:=22) (by_:=24) (e:=(.sl true 2 iS)) (xs:=([]:(List (List Int)))) (y:=r52) h rfl rfl rfl rfl rfl rfl rfl rfl rfl rfl rfl rfl rfl rfl rfl rfl (by kernel_rfl) (by kernel_rfl) (by kernel_rfl) (by kernel_rfl) rfl (by kernel_rfl) hc90 fun a w h => ?_
    replace h:=h.only [3,4,10,11,12] (by kernel_rfl)
    refine zt [3,4,10,11,12] h an fun a w h => ?_
    refine rounds_fuel (f24.l53 k x0 (f24.j47 k)) (fun ((v79,v80,v81):((List (List Int)) × Nat × Int)) => [(3,.val sh9 v79),(4,.copy 3 [.idx v80]),(10,.val sh8 x0),(11,.val iS (List.length x0:Int)),(12,.val iS v81)]) (fun v h => by obtain ⟨v79,v80,v81⟩:=v; rw [f24.l53] at h; cases h) ?_ hF (ar h [3,4,10,11,12])
    intro m53 v a w hF h
    obtain ⟨v79,v80,v81⟩:=v
    rw [f24.l53] at hF
    refine zs [3,4,10,11,12,13] h an fun a w h => ?_
    refine wp_seq <| zi h hF (fun hF => ?_) (fun hF => ?_)
    ·refine wp_skip ?_
     refine wp_seq <| wp_block ?_
     obtain ⟨hc89,hF⟩:=of_if hF
     refine zs [3,4,6,10,11,12] h (ac hc89 an) fun a w h => ?_
     obtain ⟨r86,hr88,hF⟩:=of_bind hF
     refine zc (orcL [(18,[⟨(.sl true 2 iS),r86⟩])]) [3,4,10,11,12] h (ac (c15 k (gD x0 (tZ v81) ([]:(List (Int × ((Int × Int) × (Int × (Int × Int))))))) (gD v79 v80 lO) h74 h76 r86 hr88) an) fun a w h => ?_
     obtain ⟨hc87,hF⟩:=of_if hF
     refine wp_push (t:=36) (te:=23) (p:=3) (q:=4) (d0:=19) (d1:=20) (d2:=21) (d3:=22) (by_:=24) (e:=(.sl true 2 iS)) (xs:=v79) (y:=r86) h rfl rfl rfl rfl rfl rfl rfl rfl rfl rfl rfl rfl rfl rfl rfl rfl (by kernel_rfl) (by kernel_rfl) (by kernel_rfl) (by kernel_rfl) rfl (by kernel_rfl) hc87 fun a w h => ?_
     replace h:=h.only [3,4,10,11,12] (by kernel_rfl)
     refine zt [3,4,10,11,12] h an fun a w h => ?_
     exact ⟨((List.append v79 [r86]),(List.length v79),(w64 (v81 + (1:Int)))),hF,ar h [3,4,10,11,12]⟩
    ·refine wp_exit ?_
     exact ⟨v79,hF,ar h [3]⟩
   ·refine wp_exit ?_
    exact ⟨([]:(List (List Int))),hF,ar h [3]⟩
  ·rintro a w ⟨v46,hF,h⟩
   rw [f24.j47] at hF
   refine zs [2,3] h an fun a w h => ?_
   cases hF
   exact wp_ret (ret_okR tok h rfl (by kernel_rfl)).1
def f16.l18 (k:Nat) (x0:(List Int)) (x1:(List Int)):Nat→Int→Option Bool
 | 0,_ => none
 | m18+1,v30 => if (decide (v30 < (List.length x0:Int))) then (if (0≤v30∧v30 < (List.length x0:Int)) then (if (0≤v30∧v30 < (List.length x1:Int)) then (if (((List.getD x0 (Int.toNat v30) (0:Int)):Int) != (List.getD x1 (Int.toNat v30) (0:Int))) then (some false) else ((f16.l18 k x0 x1) m18 (IntKind.i64.wrap (v30 + (1:Int))))) else none) else none) else (some true)
def f16 (k:Nat) (x0:(List Int)) (x1:(List Int)):Option Bool:=if (((List.length x0:Int):Int) != (List.length x1:Int)) then (some false) else (f16.l18 k x0 x1 k (0:Int))
theorem c16 (k:Nat) (x0:(List Int)) (x1:(List Int)) (r:Bool) (hF:f16 k x0 x1=some r):PCall Try.prog 16 [⟨(.sl false 2 iS),x0⟩,⟨(.sl false 2 iS),x1⟩] [⟨.bool,r⟩]:=by
 refine pcall_intro Try.func16 rfl rfl (Nat.le_of_ble_eq_true rfl) ?_
 intro w0 Zi a w h
 rw [f16] at hF
 refine zs [0,1] h an fun a w h => ?_
 refine wp_seq ?_
 refine zs [0,1,10] h an fun a w h => ?_
 refine zi h hF (fun hF => ?_) (fun hF => ?_)
 ·refine zs [4] h an fun a w h => ?_
  cases hF
  exact wp_ret (ret_okR tok h rfl (by kernel_rfl)).1
 ·refine wp_skip ?_
  refine wp_seq ?_
  refine zs [0,1,5] h an fun a w h => ?_
  refine wp_block ?_
  refine wp_loop_fuel (f16.l18 k x0 x1) (fun v30 => [(0,.val (.sl false 2 iS) x0),(1,.val (.sl false 2 iS) x1),(5,.val iS v30)]) (fun v h => by rw [f16.l18] at h; cases h) ?_ hF (ar h [0,1,5])
  intro m18 v30 a w hF h
  rw [f16.l18] at hF
  refine wp_seq ?_
  refine zs [0,1,5,14] h an fun a w h => ?_
  refine zi h hF (fun hF => ?_) (fun hF => ?_)
  ·refine wp_skip ?_
   refine wp_seq <| wp_block ?_
   obtain ⟨hc33,hF⟩:=of_if hF
   obtain ⟨hc34,hF⟩:=of_if hF
   refine wp_regy_seq tok (orc:=o0) (l:=[0,1,5,25]) ([],[],[],[]) 9 nw h (by kernel_rfl) (by kernel_rfl) (ac hc33 (ac hc34 an)) fun a w h => ?_
   refine zi h hF (fun hF => ?_) (fun hF => ?_)
   ·refine zs [4] h an fun a w h => ?_
    cases hF
    exact wp_ret (ret_okR tok h rfl (by kernel_rfl)).1
   ·refine wp_skip ?_
    refine zt [0,1,5] h an fun a w h => ?_
    exact ⟨(w64 (v30 + (1:Int))),hF,ar h [0,1,5]⟩
  ·refine wp_exit ?_
   refine zs [4] h an fun a w h => ?_
   cases hF
   exact wp_ret (ret_okR tok h rfl (by kernel_rfl)).1
def f25.l30 (k:Nat) (x0:(List (List Int))) (x1:(List (List Int))):Nat→Int→Option Bool
 | 0,_ => none
 | m30+1,v50 => if (decide (v50 < (List.length x0:Int))) then (if (0≤v50∧v50 < (List.length x0:Int)) then (if (0≤v50∧v50 < (List.length x1:Int)) then ((f16 k (List.getD x0 (Int.toNat v50) ([]:(List Int))) (List.getD x1 (Int.toNat v50) ([]:(List Int)))).bind fun r55 => (if (!r55) then (some false) else ((f25.l30 k x0 x1) m30 (IntKind.i64.wrap (v50 + (1:Int)))))) else none) else none) else (some true)
def f25 (k:Nat) (x0:(List (List Int))) (x1:(List (List Int))):Option Bool:=if (((List.length x0:Int):Int) != (List.length x1:Int)) then (some false) else (f25.l30 k x0 x1 k (0:Int))
theorem c25 (k:Nat) (x0:(List (List Int))) (x1:(List (List Int))) (r:Bool) (hF:f25 k x0 x1=some r):PCall Try.prog 25 [⟨sh18,x0⟩,⟨sh18,x1⟩] [⟨.bool,r⟩]:=by
 refine pcall_intro Try.func25 rfl rfl (Nat.le_of_ble_eq_true rfl) ?_
 intro w0 Zi a w h
 rw [f25] at hF
 refine zs [0,1] h an fun a w h => ?_
 refine wp_seq ?_
 refine zs [0,1,10] h an fun a w h => ?_
 refine zi h hF (fun hF => ?_) (fun hF => ?_)
 ·refine zs [4] h an fun a w h => ?_
  cases hF
  exact wp_ret (ret_okR tok h rfl (by kernel_rfl)).1
 ·refine wp_skip ?_
  refine wp_seq ?_
  refine zs [0,1,5] h an fun a w h => ?_
  refine wp_block ?_
  refine wp_loop_fuel (f25.l30 k x0 x1) (fun v50 => [(0,.val sh18 x0),(1,.val sh18 x1),(5,.val iS v50)]) (fun v h => by rw [f25.l30] at h; cases h) ?_ hF (ar h [0,1,5])
  intro m30 v50 a w hF h
  rw [f25.l30] at hF
  refine wp_seq ?_
  refine zs [0,1,5,14] h an fun a w h => ?_
  refine zi h hF (fun hF => ?_) (fun hF => ?_)
  ·refine wp_skip ?_
   refine wp_seq <| wp_block ?_
   obtain ⟨hc56,hF⟩:=of_if hF
   obtain ⟨hc57,hF⟩:=of_if hF
   obtain ⟨r55,hr58,hF⟩:=of_bind hF
   refine wp_regy_seq tok (orc:=orcL [(25,[⟨.bool,r55⟩])]) (l:=[0,1,5,26]) ([],[],[],[]) 10 nw h (by kernel_rfl) (by kernel_rfl) (ac hc56 (ac hc57 (ac (c16 k (gD x0 (tZ v50) lO) (gD x1 (tZ v50) lO) r55 hr58) an))) fun a w h => ?_
   refine zi h hF (fun hF => ?_) (fun hF => ?_)
   ·refine zs [4] h an fun a w h => ?_
    cases hF
    exact wp_ret (ret_okR tok h rfl (by kernel_rfl)).1
   ·refine wp_skip ?_
    refine zt [0,1,5] h an fun a w h => ?_
    exact ⟨(w64 (v50 + (1:Int))),hF,ar h [0,1,5]⟩
  ·refine wp_exit ?_
   refine zs [4] h an fun a w h => ?_
   cases hF
   exact wp_ret (ret_okR tok h rfl (by kernel_rfl)).1
def f143 (k:Nat) (x0:(Int × Int)) (x1:(Int × Int)):Option Bool:=if (x0.1 != x1.1) then (some false) else (if (x0.2 != x1.2) then (some false) else (some true))
theorem c143 (k:Nat) (x0:(Int × Int)) (x1:(Int × Int)) (r:Bool) (hF:f143 k x0 x1=some r):PCall Try.prog 143 [⟨sh2,x0⟩,⟨sh2,x1⟩] [⟨.bool,r⟩]:=by
 refine pcall_intro Try.func143 rfl rfl (Nat.le_of_ble_eq_true rfl) ?_
 intro w0 Zi a w h
 rw [f143] at hF
 refine zs [2,3] h an fun a w h => ?_
 refine wp_seq ?_
 refine zs [2,3,9] h an fun a w h => ?_
 refine zi h hF (fun hF => ?_) (fun hF => ?_)
 ·refine zs [4] h an fun a w h => ?_
  cases hF
  exact wp_ret (ret_okR tok h rfl (by kernel_rfl)).1
 ·refine wp_skip ?_
  refine wp_seq ?_
  refine zs [14] h an fun a w h => ?_
  refine zi h hF (fun hF => ?_) (fun hF => ?_)
  ·refine zs [4] h an fun a w h => ?_
   cases hF
   exact wp_ret (ret_okR tok h rfl (by kernel_rfl)).1
  ·refine wp_skip ?_
   refine zs [4] h an fun a w h => ?_
   cases hF
   exact wp_ret (ret_okR tok h rfl (by kernel_rfl)).1
def f77 (k:Nat) (x0:(Int × ((Int × Int) × (Int × (Int × Int))))) (x1:(Int × ((Int × Int) × (Int × (Int × Int))))):Option Bool:=if (x0.1 != x1.1) then (some false) else ((f143 k x0.2.1 x1.2.1).bind fun r1 => (if (!r1) then (some false) else (if (x0.2.2.1 != x1.2.2.1) then (some false) else (if (x0.2.2.2.1 != x1.2.2.2.1) then (some false) else (if (x0.2.2.2.2 != x1.2.2.2.2) then (some false) else (some true))))))
theorem c77 (k:Nat) (x0:(Int × ((Int × Int) × (Int × (Int × Int))))) (x1:(Int × ((Int × Int) × (Int × (Int × Int))))) (r:Bool) (hF:f77 k x0 x1=some r):PCall Try.prog 77 [⟨sh3,x0⟩,⟨sh3,x1⟩] [⟨.bool,r⟩]:=by
 refine pcall_intro Try.func77 rfl rfl (Nat.le_of_ble_eq_true rfl) ?_
 intro w0 Zi a w h
 rw [f77] at hF
 refine zs [2,3] h an fun a w h => ?_
 refine wp_seq ?_
 refine zs [2,3,9] h an fun a w h => ?_
 refine zi h hF (fun hF => ?_) (fun hF => ?_)
 ·refine zs [4] h an fun a w h => ?_
  cases hF
  exact wp_ret (ret_okR tok h rfl (by kernel_rfl)).1
 ·refine wp_skip ?_
  refine wp_seq ?_
  obtain ⟨r1,hr2,hF⟩:=of_bind hF
  refine zc (orcL [(14,[⟨.bool,r1⟩])]) [2,3,15] h (ac (c143 k x0.2.1 x1.2.1 r1 hr2) an) fun a w h => ?_
  refine zi h hF (fun hF => ?_) (fun hF => ?_)
  ·refine zs [4] h an fun a w h => ?_
   cases hF
   exact wp_ret (ret_okR tok h rfl (by kernel_rfl)).1
  ·refine wp_skip ?_
   refine wp_seq ?_
   refine zs [2,3,20] h an fun a w h => ?_
   refine zi h hF (fun hF => ?_) (fun hF => ?_)
   ·refine zs [4] h an fun a w h => ?_
    cases hF
    exact wp_ret (ret_okR tok h rfl (by kernel_rfl)).1
   ·refine wp_skip ?_
    refine wp_seq ?_
    refine zs [2,3,25] h an fun a w h => ?_
    refine zi h hF (fun hF => ?_) (fun hF => ?_)
    ·refine zs [4] h an fun a w h => ?_
     cases hF
     exact wp_ret (ret_okR tok h rfl (by kernel_rfl)).1
    ·refine wp_skip ?_
     refine wp_seq ?_
     refine zs [30] h an fun a w h => ?_
     refine zi h hF (fun hF => ?_) (fun hF => ?_)
     ·refine zs [4] h an fun a w h => ?_
      cases hF
      exact wp_ret (ret_okR tok h rfl (by kernel_rfl)).1
     ·refine wp_skip ?_
      refine zs [4] h an fun a w h => ?_
      cases hF
      exact wp_ret (ret_okR tok h rfl (by kernel_rfl)).1
def f17.l30 (k:Nat) (x0:(List (Int × ((Int × Int) × (Int × (Int × Int)))))) (x1:(List (Int × ((Int × Int) × (Int × (Int × Int)))))):Nat→Int→Option Bool
 | 0,_ => none
 | m30+1,v50 => if (decide (v50 < (List.length x0:Int))) then (if (0≤v50∧v50 < (List.length x0:Int)) then (if (0≤v50∧v50 < (List.length x1:Int)) then ((f77 k (List.getD x0 (Int.toNat v50) ((0:Int),(((0:Int),(0:Int)),((0:Int),((0:Int),(0:Int)))))) (List.getD x1 (Int.toNat v50) ((0:Int),(((0:Int),(0:Int)),((0:Int),((0:Int),(0:Int))))))).bind fun r55 => (if (!r55) then (some false) else ((f17.l30 k x0 x1) m30 (IntKind.i64.wrap (v50 + (1:Int)))))) else none) else none) else (some true)
def f17 (k:Nat) (x0:(List (Int × ((Int × Int) × (Int × (Int × Int)))))) (x1:(List (Int × ((Int × Int) × (Int × (Int × Int)))))):Option Bool:=if (((List.length x0:Int):Int) != (List.length x1:Int)) then (some false) else (f17.l30 k x0 x1 k (0:Int))
theorem c17 (k:Nat) (x0:(List (Int × ((Int × Int) × (Int × (Int × Int)))))) (x1:(List (Int × ((Int × Int) × (Int × (Int × Int)))))) (r:Bool) (hF:f17 k x0 x1=some r):PCall Try.prog 17 [⟨sh6,x0⟩,⟨sh6,x1⟩] [⟨.bool,r⟩]:=by
 refine pcall_intro Try.func17 rfl rfl (Nat.le_of_ble_eq_true rfl) ?_
 intro w0 Zi a w h
 rw [f17] at hF
 refine zs [0,1] h an fun a w h => ?_
 refine wp_seq ?_
 refine zs [0,1,10] h an fun a w h => ?_
 refine zi h hF (fun hF => ?_) (fun hF => ?_)
 ·refine zs [4] h an fun a w h => ?_
  cases hF
  exact wp_ret (ret_okR tok h rfl (by kernel_rfl)).1
 ·refine wp_skip ?_
  refine wp_seq ?_
  refine zs [0,1,5] h an fun a w h => ?_
  refine wp_block ?_
  refine wp_loop_fuel (f17.l30 k x0 x1) (fun v50 => [(0,.val sh6 x0),(1,.val sh6 x1),(5,.val iS v50)]) (fun v h => by rw [f17.l30] at h; cases h) ?_ hF (ar h [0,1,5])
  intro m30 v50 a w hF h
  rw [f17.l30] at hF
  refine wp_seq ?_
  refine zs [0,1,5,14] h an fun a w h => ?_
  refine zi h hF (fun hF => ?_) (fun hF => ?_)
  ·refine wp_skip ?_
   refine wp_seq <| wp_block ?_
   obtain ⟨hc56,hF⟩:=of_if hF
   obtain ⟨hc57,hF⟩:=of_if hF
   obtain ⟨r55,hr58,hF⟩:=of_bind hF
   refine wp_regy_seq tok (orc:=orcL [(25,[⟨.bool,r55⟩])]) (l:=[0,1,5,26]) ([],[],[],[]) 10 nw h (by kernel_rfl) (by kernel_rfl) (ac hc56 (ac hc57 (ac (c77 k (gD x0 (tZ v50) (iO,((iO,iO),(iO,(iO,iO))))) (gD x1 (tZ v50) (iO,((iO,iO),(iO,(iO,iO))))) r55 hr58) an))) fun a w h => ?_
   refine zi h hF (fun hF => ?_) (fun hF => ?_)
   ·refine zs [4] h an fun a w h => ?_
    cases hF
    exact wp_ret (ret_okR tok h rfl (by kernel_rfl)).1
   ·refine wp_skip ?_
    refine zt [0,1,5] h an fun a w h => ?_
    exact ⟨(w64 (v50 + (1:Int))),hF,ar h [0,1,5]⟩
  ·refine wp_exit ?_
   refine zs [4] h an fun a w h => ?_
   cases hF
   exact wp_ret (ret_okR tok h rfl (by kernel_rfl)).1
def f26.l30 (k:Nat) (x0:(List (List (Int × ((Int × Int) × (Int × (Int × Int))))))) (x1:(List (List (Int × ((Int × Int) × (Int × (Int × Int))))))):Nat→Int→Option Bool
 | 0,_ => none
 | m30+1,v50 => if (decide (v50 < (List.length x0:Int))) then (if (0≤v50∧v50 < (List.length x0:Int)) then (if (0≤v50∧v50 < (List.length x1:Int)) then ((f17 k (List.getD x0 (Int.toNat v50) ([]:(List (Int × ((Int × Int) × (Int × (Int × Int))))))) (List.getD x1 (Int.toNat v50) ([]:(List (Int × ((Int × Int) × (Int × (Int × Int)))))))).bind fun r55 => (if (!r55) then (some false) else ((f26.l30 k x0 x1) m30 (IntKind.i64.wrap (v50 + (1:Int)))))) else none) else none) else (some true)
def f26 (k:Nat) (x0:(List (List (Int × ((Int × Int) × (Int × (Int × Int))))))) (x1:(List (List (Int × ((Int × Int) × (Int × (Int × Int))))))):Option Bool:=if (((List.length x0:Int):Int) != (List.length x1:Int)) then (some false) else (f26.l30 k x0 x1 k (0:Int))
theorem c26 (k:Nat) (x0:(List (List (Int × ((Int × Int) × (Int × (Int × Int))))))) (x1:(List (List (Int × ((Int × Int) × (Int × (Int × Int))))))) (r:Bool) (hF:f26 k x0 x1=some r):PCall Try.prog 26 [⟨sh8,x0⟩,⟨sh8,x1⟩] [⟨.bool,r⟩]:=by
 refine pcall_intro Try.func26 rfl rfl (Nat.le_of_ble_eq_true rfl) ?_
 intro w0 Zi a w h
 rw [f26] at hF
 refine zs [0,1] h an fun a w h => ?_
 refine wp_seq ?_
 refine zs [0,1,10] h an fun a w h => ?_
 refine zi h hF (fun hF => ?_) (fun hF => ?_)
 ·refine zs [4] h an fun a w h => ?_
  cases hF
  exact wp_ret (ret_okR tok h rfl (by kernel_rfl)).1
 ·refine wp_skip ?_
  refine wp_seq ?_
  refine zs [0,1,5] h an fun a w h => ?_
  refine wp_block ?_
  refine wp_loop_fuel (f26.l30 k x0 x1) (fun v50 => [(0,.val sh8 x0),(1,.val sh8 x1),(5,.val iS v50)]) (fun v h => by rw [f26.l30] at h; cases h) ?_ hF (ar h [0,1,5])
  intro m30 v50 a w hF h
  rw [f26.l30] at hF
  refine wp_seq ?_
  refine zs [0,1,5,14] h an fun a w h => ?_
  refine zi h hF (fun hF => ?_) (fun hF => ?_)
  ·refine wp_skip ?_
   refine wp_seq <| wp_block ?_
   obtain ⟨hc56,hF⟩:=of_if hF
   obtain ⟨hc57,hF⟩:=of_if hF
   obtain ⟨r55,hr58,hF⟩:=of_bind hF
   refine wp_regy_seq tok (orc:=orcL [(25,[⟨.bool,r55⟩])]) (l:=[0,1,5,26]) ([],[],[],[]) 10 nw h (by kernel_rfl) (by kernel_rfl) (ac hc56 (ac hc57 (ac (c17 k (gD x0 (tZ v50) ([]:(List (Int × ((Int × Int) × (Int × (Int × Int))))))) (gD x1 (tZ v50) ([]:(List (Int × ((Int × Int) × (Int × (Int × Int))))))) r55 hr58) an))) fun a w h => ?_
   refine zi h hF (fun hF => ?_) (fun hF => ?_)
   ·refine zs [4] h an fun a w h => ?_
    cases hF
    exact wp_ret (ret_okR tok h rfl (by kernel_rfl)).1
   ·refine wp_skip ?_
    refine zt [0,1,5] h an fun a w h => ?_
    exact ⟨(w64 (v50 + (1:Int))),hF,ar h [0,1,5]⟩
  ·refine wp_exit ?_
   refine zs [4] h an fun a w h => ?_
   cases hF
   exact wp_ret (ret_okR tok h rfl (by kernel_rfl)).1
def f18.l98 (k:Nat):Nat → ((List (Int × ((Int × Int) × (Int × (Int × Int))))) × Int × Int)→Option (Int × (List (Int × ((Int × Int) × (Int × (Int × Int))))))
 | 0,_ => none
 | m98+1,(v164,v165,v166) => if (decide (v166 < (List.length v164:Int))) then (if (0≤v166∧v166 < (List.length v164:Int)) then (if (0≤v166∧v166 < (List.length (List.set v164 (Int.toNat v166) (v165,(List.getD v164 (Int.toNat v166) ((0:Int),(((0:Int),(0:Int)),((0:Int),((0:Int),(0:Int)))))).2)):Int)) then ((some ((List.set (List.set v164 (Int.toNat v166) (v165,(List.getD v164 (Int.toNat v166) ((0:Int),(((0:Int),(0:Int)),((0:Int),((0:Int),(0:Int)))))).2)) (Int.toNat v166) ((List.getD (List.set v164 (Int.toNat v166) (v165,(List.getD v164 (Int.toNat v166) ((0:Int),(((0:Int),(0:Int)),((0:Int),((0:Int),(0:Int)))))).2)) (Int.toNat v166) ((0:Int),(((0:Int),(0:Int)),((0:Int),((0:Int),(0:Int)))))).1,(((IntKind.i64.wrap (v165 + (1:Int))),(List.getD (List.set v164 (Int.toNat v166) (v165,(List.getD v164 (Int.toNat v166) ((0:Int),(((0:Int),(0:Int)),((0:Int),((0:Int),(0:Int)))))).2)) (Int.toNat v166) ((0:Int),(((0:Int),(0:Int)),((0:Int),((0:Int),(0:Int)))))).2.1.2),(List.getD (List.set v164 (Int.toNat v166) (v165,(List.getD v164 (Int.toNat v166) ((0:Int),(((0:Int),(0:Int)),((0:Int),((0:Int),(0:Int)))))).2)) (Int.toNat v166) ((0:Int),(((0:Int),(0:Int)),((0:Int),((0:Int),(0:Int)))))).2.2))):(List (Int × ((Int × Int) × (Int × (Int × Int))))))).bind fun v181 => (if (0≤v166∧v166 < (List.length v181:Int)) then (if (0≤v166∧v166 < (List.length (List.set v181 (Int.toNat v166) ((List.getD v181 (Int.toNat v166) ((0:Int),(((0:Int),(0:Int)),((0:Int),((0:Int),(0:Int)))))).1,(((List.getD v181 (Int.toNat v166) ((0:Int),(((0:Int),(0:Int)),((0:Int),((0:Int),(0:Int)))))).2.1.1,(IntKind.i64.wrap ((IntKind.i64.wrap (v165 + (1:Int))) + (1:Int)))),(List.getD v181 (Int.toNat v166) ((0:Int),(((0:Int),(0:Int)),((0:Int),((0:Int),(0:Int)))))).2.2))):Int)) then ((some ((List.set (List.set v181 (Int.toNat v166) ((List.getD v181 (Int.toNat v166) ((0:Int),(((0:Int),(0:Int)),((0:Int),((0:Int),(0:Int)))))).1,(((List.getD v181 (Int.toNat v166) ((0:Int),(((0:Int),(0:Int)),((0:Int),((0:Int),(0:Int)))))).2.1.1,(IntKind.i64.wrap ((IntKind.i64.wrap (v165 + (1:Int))) + (1:Int)))),(List.getD v181 (Int.toNat v166) ((0:Int),(((0:Int),(0:Int)),((0:Int),((0:Int),(0:Int)))))).2.2))) (Int.toNat v166) ((List.getD (List.set v181 (Int.toNat v166) ((List.getD v181 (Int.toNat v166) ((0:Int),(((0:Int),(0:Int)),((0:Int),((0:Int),(0:Int)))))).1,(((List.getD v181 (Int.toNat v166) ((0:Int),(((0:Int),(0:Int)),((0:Int),((0:Int),(0:Int)))))).2.1.1,(IntKind.i64.wrap ((IntKind.i64.wrap (v165 + (1:Int))) + (1:Int)))),(List.getD v181 (Int.toNat v166) ((0:Int),(((0:Int),(0:Int)),((0:Int),((0:Int),(0:Int)))))).2.2))) (Int.toNat v166) ((0:Int),(((0:Int),(0:Int)),((0:Int),((0:Int),(0:Int)))))).1,((List.getD (List.set v181 (Int.toNat v166) ((List.getD v181 (Int.toNat v166) ((0:Int),(((0:Int),(0:Int)),((0:Int),((0:Int),(0:Int)))))).1,(((List.getD v181 (Int.toNat v166) ((0:Int),(((0:Int),(0:Int)),((0:Int),((0:Int),(0:Int)))))).2.1.1,(IntKind.i64.wrap ((IntKind.i64.wrap (v165 + (1:Int))) + (1:Int)))),(List.getD v181 (Int.toNat v166) ((0:Int),(((0:Int),(0:Int)),((0:Int),((0:Int),(0:Int)))))).2.2))) (Int.toNat v166) ((0:Int),(((0:Int),(0:Int)),((0:Int),((0:Int),(0:Int)))))).2.1,((IntKind.i64.wrap ((IntKind.i64.wrap ((IntKind.i64.wrap (v165 + (1:Int))) + (1:Int))) + (1:Int))),(List.getD (List.set v181 (Int.toNat v166) ((List.getD v181 (Int.toNat v166) ((0:Int),(((0:Int),(0:Int)),((0:Int),((0:Int),(0:Int)))))).1,(((List.getD v181 (Int.toNat v166) ((0:Int),(((0:Int),(0:Int)),((0:Int),((0:Int),(0:Int)))))).2.1.1,(IntKind.i64.wrap ((IntKind.i64.wrap (v165 + (1:Int))) + (1:Int)))),(List.getD v181 (Int.toNat v166) ((0:Int),(((0:Int),(0:Int)),((0:Int),((0:Int),(0:Int)))))).2.2))) (Int.toNat v166) ((0:Int),(((0:Int),(0:Int)),((0:Int),((0:Int),(0:Int)))))).2.2.2)))):(List (Int × ((Int × Int) × (Int × (Int × Int))))))).bind fun v182 => (if (0≤v166∧v166 < (List.length v182:Int)) then ((some ((List.set v182 (Int.toNat v166) ((List.getD v182 (Int.toNat v166) ((0:Int),(((0:Int),(0:Int)),((0:Int),((0:Int),(0:Int)))))).1,((List.getD v182 (Int.toNat v166) ((0:Int),(((0:Int),(0:Int)),((0:Int),((0:Int),(0:Int)))))).2.1,((List.getD v182 (Int.toNat v166) ((0:Int),(((0:Int),(0:Int)),((0:Int),((0:Int),(0:Int)))))).2.2.1,((IntKind.i64.wrap ((IntKind.i64.wrap ((IntKind.i64.wrap ((IntKind.i64.wrap (v165 + (1:Int))) + (1:Int))) + (1:Int))) + (1:Int))),(List.getD v182 (Int.toNat v166) ((0:Int),(((0:Int),(0:Int)),((0:Int),((0:Int),(0:Int)))))).2.2.2.2))))):(List (Int × ((Int × Int) × (Int × (Int × Int))))))).bind fun v183 => (if (0≤v166∧v166 < (List.length v183:Int)) then ((some ((List.set v183 (Int.toNat v166) ((List.getD v183 (Int.toNat v166) ((0:Int),(((0:Int),(0:Int)),((0:Int),((0:Int),(0:Int)))))).1,((List.getD v183 (Int.toNat v166) ((0:Int),(((0:Int),(0:Int)),((0:Int),((0:Int),(0:Int)))))).2.1,((List.getD v183 (Int.toNat v166) ((0:Int),(((0:Int),(0:Int)),((0:Int),((0:Int),(0:Int)))))).2.2.1,((List.getD v183 (Int.toNat v166) ((0:Int),(((0:Int),(0:Int)),((0:Int),((0:Int),(0:Int)))))).2.2.2.1,(IntKind.i64.wrap ((IntKind.i64.wrap ((IntKind.i64.wrap ((IntKind.i64.wrap ((IntKind.i64.wrap (v165 + (1:Int))) + (1:Int))) + (1:Int))) + (1:Int))) + (1:Int)))))))):(List (Int × ((Int × Int) × (Int × (Int × Int))))))).bind fun v184 => ((f18.l98 k) m98 (v184,(IntKind.i64.wrap ((IntKind.i64.wrap ((IntKind.i64.wrap ((IntKind.i64.wrap ((IntKind.i64.wrap ((IntKind.i64.wrap (v165 + (1:Int))) + (1:Int))) + (1:Int))) + (1:Int))) + (1:Int))) + (1:Int))),(IntKind.i64.wrap (v166 + (1:Int)))))) else none)) else none)) else none) else none)) else none) else none) else (some (v165,v164))
def f18 (k:Nat) (x0:(List (Int × ((Int × Int) × (Int × (Int × Int)))))) (x1:Int):Option (Int × (List (Int × ((Int × Int) × (Int × (Int × Int)))))):=f18.l98 k k (x0,x1,(0:Int))
theorem c18 (k:Nat) (x0:(List (Int × ((Int × Int) × (Int × (Int × Int)))))) (x1:Int) (r:(Int × (List (Int × ((Int × Int) × (Int × (Int × Int))))))) (hF:f18 k x0 x1=some r):PMut Try.prog 18 [⟨sh4,x0⟩,⟨iS,x1⟩] [⟨iS,r.1⟩] (List.set [⟨sh4,x0⟩,⟨iS,x1⟩] 0 ⟨sh4,r.2⟩):=by
 refine pmut_intro (j:=0) (fin:=⟨sh4,r.2⟩) Try.func18 rfl rfl (Nat.le_of_ble_eq_true rfl) (Nat.le_of_ble_eq_true rfl) (by kernel_rfl) ?_
 intro w0 Zi f0 v0 a w h
 rw [f18] at hF
 refine wp_reg_seq tok (orc:=o0) (fz:=[]) (l:=[0,1]) (.inl rfl) h (by kernel_rfl) an fun a w h => ?_
 refine wp_seq ?_
 refine wp_reg_seq tok (orc:=o0) (fz:=[]) (l:=[0,1,5]) (.inl rfl) h (by kernel_rfl) an fun a w h => ?_
 refine wp_block ?_
 refine wp_loop_fuel (f18.l98 k) (fun ((v164,v165,v166):((List (Int × ((Int × Int) × (Int × (Int × Int))))) × Int × Int)) => [(0,.val sh4 v164),(1,.val iS v165),(5,.val iS v166)]) (fun v h => by obtain ⟨v164,v165,v166⟩:=v; rw [f18.l98] at h; cases h) ?_ hF (h.arrive (fz:=[]) (l:=[0,1,5]) (.inl rfl) (by kernel_rfl))
 intro m98 v a w hF h
 obtain ⟨v164,v165,v166⟩:=v
 rw [f18.l98] at hF
 refine wp_seq ?_
 refine wp_reg_seq tok (orc:=o0) (fz:=[]) (l:=[0,1,5,9]) (.inl rfl) h (by kernel_rfl) an fun a w h => ?_
 refine zi h hF (fun hF => ?_) (fun hF => ?_)
 ·refine wp_skip ?_
  refine wp_seq <| wp_block ?_
  obtain ⟨hc194,hF⟩:=of_if hF
  refine wp_reg_seq tok (orc:=o0) (fz:=[]) (l:=[0,1,5]) (.inl rfl) h (by kernel_rfl) (ac hc194 an) fun a w h => ?_
  refine wp_reg_seq tok (orc:=o0) (fz:=[]) (l:=[0,1,5]) (.inl rfl) h (by kernel_rfl) an fun a w h => ?_
  obtain ⟨hc193,hF⟩:=of_if hF
  refine wp_reg_seq tok (orc:=o0) (fz:=[]) (l:=[0,1,5]) (.inl rfl) h (by kernel_rfl) (ac hc193 an) fun a w h => ?_
  obtain ⟨v181,hv192,hF⟩:=of_bind hF
  replace h:=h.cast (S':=[(0,.val sh4 v181),(1,.val iS (w64 (v165 + (1:Int)))),(5,.val iS v166)]) (by cases hv192; kernel_rfl)
  refine wp_reg_seq tok (orc:=o0) (fz:=[]) (l:=[0,1,5]) (.inl rfl) h (by kernel_rfl) an fun a w h => ?_
  obtain ⟨hc191,hF⟩:=of_if hF
  refine wp_reg_seq tok (orc:=o0) (fz:=[]) (l:=[0,1,5]) (.inl rfl) h (by kernel_rfl) (ac hc191 an) fun a w h => ?_
  refine wp_reg_seq tok (orc:=o0) (fz:=[]) (l:=[0,1,5]) (.inl rfl) h (by kernel_rfl) an fun a w h => ?_
  obtain ⟨hc190,hF⟩:=of_if hF
  refine wp_reg_seq tok (orc:=o0) (fz:=[]) (l:=[0,1,5]) (.inl rfl) h (by kernel_rfl) (ac hc190 an) fun a w h => ?_
  obtain ⟨v182,hv189,hF⟩:=of_bind hF
  replace h:=h.cast (S':=[(0,.val sh4 v182),(1,.val iS (w64 ((w64 ((w64 (v165 + (1:Int))) + (1:Int))) + (1:Int)))),(5,.val iS v166)]) (by cases hv189; kernel_rfl)
  refine wp_reg_seq tok (orc:=o0) (fz:=[]) (l:=[0,1,5]) (.inl rfl) h (by kernel_rfl) an fun a w h => ?_
  obtain ⟨hc188,hF⟩:=of_if hF
  refine wp_reg_seq tok (orc:=o0) (fz:=[]) (l:=[0,1,5]) (.inl rfl) h (by kernel_rfl) (ac hc188 an) fun a w h => ?_
  obtain ⟨v183,hv187,hF⟩:=of_bind hF
  replace h:=h.cast (S':=[(0,.val sh4 v183),(1,.val iS (w64 ((w64 ((w64 ((w64 (v165 + (1:Int))) + (1:Int))) + (1:Int))) + (1:Int)))),(5,.val iS v166)]) (by cases hv187; kernel_rfl)
  refine wp_reg_seq tok (orc:=o0) (fz:=[]) (l:=[0,1,5]) (.inl rfl) h (by kernel_rfl) an fun a w h => ?_
  obtain ⟨hc186,hF⟩:=of_if hF
  refine wp_reg_seq tok (orc:=o0) (fz:=[]) (l:=[0,1,5]) (.inl rfl) h (by kernel_rfl) (ac hc186 an) fun a w h => ?_
  obtain ⟨v184,hv185,hF⟩:=of_bind hF
  replace h:=h.cast (S':=[(0,.val sh4 v184),(1,.val iS (w64 ((w64 ((w64 ((w64 ((w64 (v165 + (1:Int))) + (1:Int))) + (1:Int))) + (1:Int))) + (1:Int)))),(5,.val iS v166)]) (by cases hv185; kernel_rfl)
  refine wp_reg tok (orc:=o0) (fz:=[]) (l:=[0,1,5]) (.inl rfl) h (by kernel_rfl) an fun a w h => ?_
  refine wp_reg tok (orc:=o0) (fz:=[]) (l:=[0,1,5]) (.inl rfl) h (by kernel_rfl) an fun a w h => ?_
  exact ⟨(v184,(w64 ((w64 ((w64 ((w64 ((w64 ((w64 (v165 + (1:Int))) + (1:Int))) + (1:Int))) + (1:Int))) + (1:Int))) + (1:Int))),(w64 (v166 + (1:Int)))),hF,h.arrive (fz:=[]) (l:=[0,1,5]) (.inl rfl) (by kernel_rfl)⟩
 ·refine wp_exit ?_
  refine wp_reg_seq tok (orc:=o0) (fz:=[]) (l:=[0,4]) (.inl rfl) h (by kernel_rfl) an fun a w h => ?_
  cases hF
  exact wp_ret (retM_ok tok h rfl (by kernel_rfl) (by kernel_rfl)).1
def f27.l32 (k:Nat):Nat → ((List (List (Int × ((Int × Int) × (Int × (Int × Int)))))) × Int × Int)→Option (Int × (List (List (Int × ((Int × Int) × (Int × (Int × Int)))))))
 | 0,_ => none
 | m32+1,(v54,v55,v56) => if (decide (v56 < (List.length v54:Int))) then (if (0≤v56∧v56 < (List.length v54:Int)) then ((f18 k (List.getD v54 (Int.toNat v56) ([]:(List (Int × ((Int × Int) × (Int × (Int × Int))))))) v55).bind fun r60 => ((f27.l32 k) m32 ((List.set v54 (Int.toNat v56) r60.2),r60.1,(IntKind.i64.wrap (v56 + (1:Int)))))) else none) else (some (v55,v54))
def f27 (k:Nat) (x0:(List (List (Int × ((Int × Int) × (Int × (Int × Int))))))) (x1:Int):Option (Int × (List (List (Int × ((Int × Int) × (Int × (Int × Int))))))):=f27.l32 k k (x0,x1,(0:Int))
theorem c27 (k:Nat) (x0:(List (List (Int × ((Int × Int) × (Int × (Int × Int))))))) (x1:Int) (r:(Int × (List (List (Int × ((Int × Int) × (Int × (Int × Int)))))))) (hF:f27 k x0 x1=some r):PMut Try.prog 27 [⟨sh5,x0⟩,⟨iS,x1⟩] [⟨iS,r.1⟩] (List.set [⟨sh5,x0⟩,⟨iS,x1⟩] 0 ⟨sh5,r.2⟩):=by
 refine pmut_intro (j:=0) (fin:=⟨sh5,r.2⟩) Try.func27 rfl rfl (Nat.le_of_ble_eq_true rfl) (Nat.le_of_ble_eq_true rfl) (by kernel_rfl) ?_
 intro w0 Zi f0 v0 a w h
 rw [f27] at hF
 refine wp_reg_seq tok (orc:=o0) (fz:=[]) (l:=[0,1]) (.inl rfl) h (by kernel_rfl) an fun a w h => ?_
 refine wp_seq ?_
 refine wp_reg_seq tok (orc:=o0) (fz:=[]) (l:=[0,1,5]) (.inl rfl) h (by kernel_rfl) an fun a w h => ?_
 refine wp_block ?_
 refine wp_loop_fuel (f27.l32 k) (fun ((v54,v55,v56):((List (List (Int × ((Int × Int) × (Int × (Int × Int)))))) × Int × Int)) => [(0,.val sh5 v54),(1,.val iS v55),(5,.val iS v56)]) (fun v h => by obtain ⟨v54,v55,v56⟩:=v; rw [f27.l32] at h; cases h) ?_ hF (h.arrive (fz:=[]) (l:=[0,1,5]) (.inl rfl) (by kernel_rfl))
 intro m32 v a w hF h
 obtain ⟨v54,v55,v56⟩:=v
 rw [f27.l32] at hF
 refine wp_seq ?_
 refine wp_reg_seq tok (orc:=o0) (fz:=[]) (l:=[0,1,5,9]) (.inl rfl) h (by kernel_rfl) an fun a w h => ?_
 refine zi h hF (fun hF => ?_) (fun hF => ?_)
 ·refine wp_skip ?_
  refine wp_seq <| wp_block ?_
  obtain ⟨hc61,hF⟩:=of_if hF
  obtain ⟨r60,hr62,hF⟩:=of_bind hF
  refine wp_reg tok (orc:=orcL [(17,[⟨.pt false 4294967295 (.sl true 54 (.st (.pair iS (.pair (.st (.pair iS iS)) (.pair iS (.pair iS iS)))))),some r60.2⟩,⟨iS,r60.1⟩])]) (fz:=[]) (l:=[0,1,5]) (.inl rfl) h (by kernel_rfl) (ac hc61 (ac (c18 k (gD v54 (tZ v56) ([]:(List (Int × ((Int × Int) × (Int × (Int × Int))))))) v55 r60 hr62) an)) fun a w h => ?_
  refine wp_reg tok (orc:=o0) (fz:=[]) (l:=[0,1,5]) (.inl rfl) h (by kernel_rfl) an fun a w h => ?_
  exact ⟨((List.set v54 (tZ v56) r60.2),r60.1,(w64 (v56 + (1:Int)))),hF,h.arrive (fz:=[]) (l:=[0,1,5]) (.inl rfl) (by kernel_rfl)⟩
 ·refine wp_exit ?_
  refine wp_reg_seq tok (orc:=o0) (fz:=[]) (l:=[0,4]) (.inl rfl) h (by kernel_rfl) an fun a w h => ?_
  cases hF
  exact wp_ret (retM_ok tok h rfl (by kernel_rfl) (by kernel_rfl)).1
def f19.l20 (k:Nat):Nat → ((List Int) × Int × Int)→Option (Int × (List Int))
 | 0,_ => none
 | m20+1,(v34,v35,v36) => if (decide (v36 < (List.length v34:Int))) then (if (0≤v36∧v36 < (List.length v34:Int)) then ((f19.l20 k) m20 ((List.set v34 (Int.toNat v36) v35),(IntKind.i64.wrap (v35 + (1:Int))),(IntKind.i64.wrap (v36 + (1:Int))))) else none) else (some (v35,v34))
def f19 (k:Nat) (x0:(List Int)) (x1:Int):Option (Int × (List Int)):=f19.l20 k k (x0,x1,(0:Int))
theorem c19 (k:Nat) (x0:(List Int)) (x1:Int) (r:(Int × (List Int))) (hF:f19 k x0 x1=some r):PMut Try.prog 19 [⟨(.sl true 2 iS),x0⟩,⟨iS,x1⟩] [⟨iS,r.1⟩] (List.set [⟨(.sl true 2 iS),x0⟩,⟨iS,x1⟩] 0 ⟨(.sl true 2 iS),r.2⟩):=by
 refine pmut_intro (j:=0) (fin:=⟨(.sl true 2 iS),r.2⟩) Try.func19 rfl rfl (Nat.le_of_ble_eq_true rfl) (Nat.le_of_ble_eq_true rfl) (by kernel_rfl) ?_
 intro w0 Zi f0 v0 a w h
 rw [f19] at hF
 refine wp_reg_seq tok (orc:=o0) (fz:=[]) (l:=[0,1]) (.inl rfl) h (by kernel_rfl) an fun a w h => ?_
 refine wp_seq ?_
 refine wp_reg_seq tok (orc:=o0) (fz:=[]) (l:=[0,1,5]) (.inl rfl) h (by kernel_rfl) an fun a w h => ?_
 refine wp_block ?_
 refine wp_loop_fuel (f19.l20 k) (fun ((v34,v35,v36):((List Int) × Int × Int)) => [(0,.val (.sl true 2 iS) v34),(1,.val iS v35),(5,.val iS v36)]) (fun v h => by obtain ⟨v34,v35,v36⟩:=v; rw [f19.l20] at h; cases h) ?_ hF (h.arrive (fz:=[]) (l:=[0,1,5]) (.inl rfl) (by kernel_rfl))
 intro m20 v a w hF h
 obtain ⟨v34,v35,v36⟩:=v
 rw [f19.l20] at hF
 refine wp_seq ?_
 refine wp_reg_seq tok (orc:=o0) (fz:=[]) (l:=[0,1,5,9]) (.inl rfl) h (by kernel_rfl) an fun a w h => ?_
 refine zi h hF (fun hF => ?_) (fun hF => ?_)
 ·refine wp_skip ?_
  refine wp_seq <| wp_block ?_
  obtain ⟨hc38,hF⟩:=of_if hF
  refine wp_reg_seq tok (orc:=o0) (fz:=[]) (l:=[0,1,5]) (.inl rfl) h (by kernel_rfl) (ac hc38 an) fun a w h => ?_
  refine wp_reg tok (orc:=o0) (fz:=[]) (l:=[0,1,5]) (.inl rfl) h (by kernel_rfl) an fun a w h => ?_
  refine wp_reg tok (orc:=o0) (fz:=[]) (l:=[0,1,5]) (.inl rfl) h (by kernel_rfl) an fun a w h => ?_
  exact ⟨((List.set v34 (tZ v36) v35),(w64 (v35 + (1:Int))),(w64 (v36 + (1:Int)))),hF,h.arrive (fz:=[]) (l:=[0,1,5]) (.inl rfl) (by kernel_rfl)⟩
 ·refine wp_exit ?_
  refine wp_reg_seq tok (orc:=o0) (fz:=[]) (l:=[0,4]) (.inl rfl) h (by kernel_rfl) an fun a w h => ?_
  cases hF
  exact wp_ret (retM_ok tok h rfl (by kernel_rfl) (by kernel_rfl)).1
def f28.l32 (k:Nat):Nat → ((List (List Int)) × Int × Int)→Option (Int × (List (List Int)))
 | 0,_ => none
 | m32+1,(v54,v55,v56) => if (decide (v56 < (List.length v54:Int))) then (if (0≤v56∧v56 < (List.length v54:Int)) then ((f19 k (List.getD v54 (Int.toNat v56) ([]:(List Int))) v55).bind fun r60 => ((f28.l32 k) m32 ((List.set v54 (Int.toNat v56) r60.2),r60.1,(IntKind.i64.wrap (v56 + (1:Int)))))) else none) else (some (v55,v54))
def f28 (k:Nat) (x0:(List (List Int))) (x1:Int):Option (Int × (List (List Int))):=f28.l32 k k (x0,x1,(0:Int))
theorem c28 (k:Nat) (x0:(List (List Int))) (x1:Int) (r:(Int × (List (List Int)))) (hF:f28 k x0 x1=some r):PMut Try.prog 28 [⟨sh9,x0⟩,⟨iS,x1⟩] [⟨iS,r.1⟩] (List.set [⟨sh9,x0⟩,⟨iS,x1⟩] 0 ⟨sh9,r.2⟩):=by
 refine pmut_intro (j:=0) (fin:=⟨sh9,r.2⟩) Try.func28 rfl rfl (Nat.le_of_ble_eq_true rfl) (Nat.le_of_ble_eq_true rfl) (by kernel_rfl) ?_
 intro w0 Zi f0 v0 a w h
 rw [f28] at hF
 refine wp_reg_seq tok (orc:=o0) (fz:=[]) (l:=[0,1]) (.inl rfl) h (by kernel_rfl) an fun a w h => ?_
 refine wp_seq ?_
 refine wp_reg_seq tok (orc:=o0) (fz:=[]) (l:=[0,1,5]) (.inl rfl) h (by kernel_rfl) an fun a w h => ?_
 refine wp_block ?_
 refine wp_loop_fuel (f28.l32 k) (fun ((v54,v55,v56):((List (List Int)) × Int × Int)) => [(0,.val sh9 v54),(1,.val iS v55),(5,.val iS v56)]) (fun v h => by obtain ⟨v54,v55,v56⟩:=v; rw [f28.l32] at h; cases h) ?_ hF (h.arrive (fz:=[]) (l:=[0,1,5]) (.inl rfl) (by kernel_rfl))
 intro m32 v a w hF h
 obtain ⟨v54,v55,v56⟩:=v
 rw [f28.l32] at hF
 refine wp_seq ?_
 refine wp_reg_seq tok (orc:=o0) (fz:=[]) (l:=[0,1,5,9]) (.inl rfl) h (by kernel_rfl) an fun a w h => ?_
 refine zi h hF (fun hF => ?_) (fun hF => ?_)
 ·refine wp_skip ?_
  refine wp_seq <| wp_block ?_
  obtain ⟨hc61,hF⟩:=of_if hF
  obtain ⟨r60,hr62,hF⟩:=of_bind hF
  refine wp_reg tok (orc:=orcL [(17,[⟨.pt false 4294967295 (.sl true 2 iS),some r60.2⟩,⟨iS,r60.1⟩])]) (fz:=[]) (l:=[0,1,5]) (.inl rfl) h (by kernel_rfl) (ac hc61 (ac (c19 k (gD v54 (tZ v56) lO) v55 r60 hr62) an)) fun a w h => ?_
  refine wp_reg tok (orc:=o0) (fz:=[]) (l:=[0,1,5]) (.inl rfl) h (by kernel_rfl) an fun a w h => ?_
  exact ⟨((List.set v54 (tZ v56) r60.2),r60.1,(w64 (v56 + (1:Int)))),hF,h.arrive (fz:=[]) (l:=[0,1,5]) (.inl rfl) (by kernel_rfl)⟩
 ·refine wp_exit ?_
  refine wp_reg_seq tok (orc:=o0) (fz:=[]) (l:=[0,4]) (.inl rfl) h (by kernel_rfl) an fun a w h => ?_
  cases hF
  exact wp_ret (retM_ok tok h rfl (by kernel_rfl) (by kernel_rfl)).1
def f20.l16 (k:Nat) (x0:(List Int)):Nat → (Int × Int)→Option Int
 | 0,_ => none
 | m16+1,(v27,v28) => if (decide (v28 < (List.length x0:Int))) then (if (0≤v28∧v28 < (List.length x0:Int)) then (if (((List.getD x0 (Int.toNat v28) (0:Int)):Int) != v27) then (some (-1:Int)) else ((f20.l16 k x0) m16 ((IntKind.i64.wrap (v27 + (1:Int))),(IntKind.i64.wrap (v28 + (1:Int)))))) else none) else (some v27)
def f20 (k:Nat) (x0:(List Int)) (x1:Int):Option Int:=f20.l16 k x0 k (x1,(0:Int))
theorem c20 (k:Nat) (x0:(List Int)) (x1:Int) (r:Int) (hF:f20 k x0 x1=some r):PCall Try.prog 20 [⟨(.sl false 2 iS),x0⟩,⟨iS,x1⟩] [⟨iS,r⟩]:=by
 refine pcall_intro Try.func20 rfl rfl (Nat.le_of_ble_eq_true rfl) ?_
 intro w0 Zi a w h
 rw [f20] at hF
 refine zs [0,1] h an fun a w h => ?_
 refine wp_seq ?_
 refine zs [0,1,5] h an fun a w h => ?_
 refine wp_block ?_
 refine wp_loop_fuel (f20.l16 k x0) (fun ((v27,v28):(Int × Int)) => [(0,.val (.sl false 2 iS) x0),(1,.val iS v27),(5,.val iS v28)]) (fun v h => by obtain ⟨v27,v28⟩:=v; rw [f20.l16] at h; cases h) ?_ hF (ar h [0,1,5])
 intro m16 v a w hF h
 obtain ⟨v27,v28⟩:=v
 rw [f20.l16] at hF
 refine wp_seq ?_
 refine zs [0,1,5,9] h an fun a w h => ?_
 refine zi h hF (fun hF => ?_) (fun hF => ?_)
 ·refine wp_skip ?_
  refine wp_seq <| wp_block ?_
  refine wp_seq ?_
  obtain ⟨hc30,hF⟩:=of_if hF
  refine zs [0,1,5,17] h (ac hc30 an) fun a w h => ?_
  refine zi h hF (fun hF => ?_) (fun hF => ?_)
  ·refine zs [4] h an fun a w h => ?_
   cases hF
   exact wp_ret (ret_okR tok h rfl (by kernel_rfl)).1
  ·refine wp_skip ?_
   refine zt [0,1,5] h an fun a w h => ?_
   refine zt [0,1,5] h an fun a w h => ?_
   exact ⟨((w64 (v27 + (1:Int))),(w64 (v28 + (1:Int)))),hF,ar h [0,1,5]⟩
 ·refine wp_exit ?_
  refine zs [4] h an fun a w h => ?_
  cases hF
  exact wp_ret (ret_okR tok h rfl (by kernel_rfl)).1
def f29.l28 (k:Nat) (x0:(List (List Int))):Nat → (Int × Int)→Option Int
 | 0,_ => none
 | m28+1,(v47,v48) => if (decide (v48 < (List.length x0:Int))) then (if (0≤v48∧v48 < (List.length x0:Int)) then ((f20 k (List.getD x0 (Int.toNat v48) ([]:(List Int))) v47).bind fun r52 => (if (decide (r52 < (0:Int))) then (some (-1:Int)) else ((f29.l28 k x0) m28 (r52,(IntKind.i64.wrap (v48 + (1:Int))))))) else none) else (some v47)
def f29 (k:Nat) (x0:(List (List Int))) (x1:Int):Option Int:=f29.l28 k x0 k (x1,(0:Int))
theorem c29 (k:Nat) (x0:(List (List Int))) (x1:Int) (r:Int) (hF:f29 k x0 x1=some r):PCall Try.prog 29 [⟨sh18,x0⟩,⟨iS,x1⟩] [⟨iS,r⟩]:=by
 refine pcall_intro Try.func29 rfl rfl (Nat.le_of_ble_eq_true rfl) ?_
 intro w0 Zi a w h
 rw [f29] at hF
 refine zs [0,1] h an fun a w h => ?_
 refine wp_seq ?_
 refine zs [0,1,5] h an fun a w h => ?_
 refine wp_block ?_
 refine wp_loop_fuel (f29.l28 k x0) (fun ((v47,v48):(Int × Int)) => [(0,.val sh18 x0),(1,.val iS v47),(5,.val iS v48)]) (fun v h => by obtain ⟨v47,v48⟩:=v; rw [f29.l28] at h; cases h) ?_ hF (ar h [0,1,5])
 intro m28 v a w hF h
 obtain ⟨v47,v48⟩:=v
 rw [f29.l28] at hF
 refine wp_seq ?_
 refine zs [0,1,5,9] h an fun a w h => ?_
 refine zi h hF (fun hF => ?_) (fun hF => ?_)
 ·refine wp_skip ?_
  refine wp_seq <| wp_block ?_
  obtain ⟨hc53,hF⟩:=of_if hF
  obtain ⟨r52,hr54,hF⟩:=of_bind hF
  refine zc (orcL [(17,[⟨iS,r52⟩])]) [0,1,5] h (ac hc53 (ac (c20 k (gD x0 (tZ v48) lO) v47 r52 hr54) an)) fun a w h => ?_
  refine zs [0,1,5,19] h an fun a w h => ?_
  refine zi h hF (fun hF => ?_) (fun hF => ?_)
  ·refine zs [4] h an fun a w h => ?_
   cases hF
   exact wp_ret (ret_okR tok h rfl (by kernel_rfl)).1
  ·refine wp_skip ?_
   refine zt [0,1,5] h an fun a w h => ?_
   exact ⟨(r52,(w64 (v48 + (1:Int)))),hF,ar h [0,1,5]⟩
 ·refine wp_exit ?_
  refine zs [4] h an fun a w h => ?_
  cases hF
  exact wp_ret (ret_okR tok h rfl (by kernel_rfl)).1
def f4 (k:Nat) (x0:(List (List (Int × ((Int × Int) × (Int × (Int × Int))))))):Option Bool:=(f21 k x0 (1048576:Int)).bind fun r1 => (if (decide (r1 < (0:Int))) then (some true) else ((f23 k x0).bind fun r2 => ((f22 k r2).bind fun r3 => ((f23 k x0).bind fun r4 => ((f24 k r4).bind fun r5 => ((f25 k r5 r3).bind fun r6 => (if (!r6) then (some false) else ((f23 k x0).bind fun r7 => ((f26 k r4 r7).bind fun r8 => (if (!r8) then (some false) else ((f27 k r4 (1:Int)).bind fun r9 => ((if ((decide (r9.1 < (0:Int)))=false) then f25 k r5 r3 else some default).bind fun r10 => (if (bif (decide (r9.1 < (0:Int))) then true else (!r10)) then (some false) else ((f28 k r5 (1:Int)).bind fun r11 => ((f29 k r11.2 (1:Int)).bind fun r12 => (if (decide (r12 < (0:Int))) then (some false) else (if (r12 != r11.1) then (some false) else ((f23 k x0).bind fun r13 => ((f24 k r13).bind fun r14 => ((f25 k r14 r3).bind fun r15 => (if (!r15) then (some false) else ((f29 k r11.2 (1:Int)).bind fun r16 => (if (decide (r16 < (0:Int))) then (some false) else (if (r16 != r11.1) then (some false) else (some true)))))))))))))))))))))))))
theorem c4 (k:Nat) (x0:(List (List (Int × ((Int × Int) × (Int × (Int × Int))))))) (h74:H74) (h76:H76) (r:Bool) (hF:f4 k x0=some r):PCall Try.prog 4 [⟨sh1,x0⟩] [⟨.bool,r⟩]:=by
 refine pcall_intro Try.func4 rfl rfl (Nat.le_of_ble_eq_true rfl) ?_
 intro w0 Zi a w h
 rw [f4] at hF
 refine zs [0] h an fun a w h => ?_
 refine zs [0,3] h an fun a w h => ?_
 obtain ⟨r1,hr32,hF⟩:=of_bind hF
 refine zc (orcL [(13,[⟨iS,r1⟩])]) [0,3] h (ac (c21 k x0 (1048576:Int) r1 hr32) an) fun a w h => ?_
 refine wp_seq ?_
 refine zs [0,15] h an fun a w h => ?_
 refine zi h hF (fun hF => ?_) (fun hF => ?_)
 ·refine zs [2] h an fun a w h => ?_
  cases hF
  exact wp_ret (ret_okR tok h rfl (by kernel_rfl)).1
 ·refine wp_skip ?_
  obtain ⟨r2,hr30,hF⟩:=of_bind hF
  obtain ⟨r3,hr31,hF⟩:=of_bind hF
  refine zc (orcL [(17,[⟨sh5,r2⟩]),(18,[⟨sh9,r3⟩])]) [0,4] h (ac (c23 k x0 r2 hr30) (ac (c22 k r2 r3 hr31) an)) fun a w h => ?_
  obtain ⟨r4,hr29,hF⟩:=of_bind hF
  refine zc (orcL [(20,[⟨sh5,r4⟩])]) [0,4,5] h (ac (c23 k x0 r4 hr29) an) fun a w h => ?_
  obtain ⟨r5,hr28,hF⟩:=of_bind hF
  refine zc (orcL [(22,[⟨sh9,r5⟩])]) [0,4,5,6] h (ac (c24 k r4 h74 h76 r5 hr28) an) fun a w h => ?_
  refine wp_seq ?_
  obtain ⟨r6,hr27,hF⟩:=of_bind hF
  refine zc (orcL [(25,[⟨.bool,r6⟩])]) [0,4,5,6,26] h (ac (c25 k r5 r3 r6 hr27) an) fun a w h => ?_
  refine zi h hF (fun hF => ?_) (fun hF => ?_)
  ·refine zs [2] h an fun a w h => ?_
   cases hF
   exact wp_ret (ret_okR tok h rfl (by kernel_rfl)).1
  ·refine wp_skip ?_
   refine wp_seq ?_
   obtain ⟨r7,hr25,hF⟩:=of_bind hF
   obtain ⟨r8,hr26,hF⟩:=of_bind hF
   refine zc (orcL [(29,[⟨sh5,r7⟩]),(30,[⟨.bool,r8⟩])]) [0,4,5,6,31] h (ac (c23 k x0 r7 hr25) (ac (c26 k r4 r7 r8 hr26) an)) fun a w h => ?_
   refine zi h hF (fun hF => ?_) (fun hF => ?_)
   ·refine zs [2] h an fun a w h => ?_
    cases hF
    exact wp_ret (ret_okR tok h rfl (by kernel_rfl)).1
   ·refine wp_skip ?_
    refine zs [0,4,5,6,7] h an fun a w h => ?_
    obtain ⟨r9,hr24,hF⟩:=of_bind hF
    refine zc (orcL [(34,[⟨.pt false 4294967295 (.sl true 26 (.sl true 54 (.st (.pair iS (.pair (.st (.pair iS iS)) (.pair iS (.pair iS iS))))))),some r9.2⟩,⟨iS,r9.1⟩])]) [0,4,6,7] h (ac (c27 k r4 (1:Int) r9 hr24) an) fun a w h => ?_
    refine wp_seq ?_
    obtain ⟨r10,hr23,hF⟩:=of_bind hF
    refine zc (orcL [(40,[⟨.bool,r10⟩])]) [0,4,6,42] h (ac (fun (hg:((decide (r9.1 < iO))=false)) => c25 k r5 r3 r10 (of_g hg hr23)) an) fun a w h => ?_
    refine zi h hF (fun hF => ?_) (fun hF => ?_)
    ·refine zs [2] h an fun a w h => ?_
     cases hF
     exact wp_ret (ret_okR tok h rfl (by kernel_rfl)).1
    ·refine wp_skip ?_
     refine zs [0,4,6,8] h an fun a w h => ?_
     obtain ⟨r11,hr22,hF⟩:=of_bind hF
     refine zc (orcL [(45,[⟨.pt false 4294967295 (.sl true 23 (.sl true 2 iS)),some r11.2⟩,⟨iS,r11.1⟩])]) [0,4,6,8] h (ac (c28 k r5 (1:Int) r11 hr22) an) fun a w h => ?_
     refine zs [0,4,6,8,9] h an fun a w h => ?_
     obtain ⟨r12,hr21,hF⟩:=of_bind hF
     refine zc (orcL [(48,[⟨iS,r12⟩])]) [0,4,6,8,9] h (ac (c29 k r11.2 (1:Int) r12 hr21) an) fun a w h => ?_
     refine wp_seq ?_
     refine zs [0,4,6,8,9,50] h an fun a w h => ?_
     refine zi h hF (fun hF => ?_) (fun hF => ?_)
     ·refine zs [2] h an fun a w h => ?_
      cases hF
      exact wp_ret (ret_okR tok h rfl (by kernel_rfl)).1
     ·refine wp_skip ?_
      refine wp_seq ?_
      refine zs [0,4,6,8,53] h an fun a w h => ?_
      refine zi h hF (fun hF => ?_) (fun hF => ?_)
      ·refine zs [2] h an fun a w h => ?_
       cases hF
       exact wp_ret (ret_okR tok h rfl (by kernel_rfl)).1
      ·refine wp_skip ?_
       obtain ⟨r13,hr19,hF⟩:=of_bind hF
       obtain ⟨r14,hr20,hF⟩:=of_bind hF
       refine zc (orcL [(55,[⟨sh5,r13⟩]),(56,[⟨sh9,r14⟩])]) [4,6,8,10] h (ac (c23 k x0 r13 hr19) (ac (c24 k r13 h74 h76 r14 hr20) an)) fun a w h => ?_
       refine wp_seq ?_
       obtain ⟨r15,hr18,hF⟩:=of_bind hF
       refine zc (orcL [(59,[⟨.bool,r15⟩])]) [6,8,60] h (ac (c25 k r14 r3 r15 hr18) an) fun a w h => ?_
       refine zi h hF (fun hF => ?_) (fun hF => ?_)
       ·refine zs [2] h an fun a w h => ?_
        cases hF
        exact wp_ret (ret_okR tok h rfl (by kernel_rfl)).1
       ·refine wp_skip ?_
        refine zs [6,8,9] h an fun a w h => ?_
        obtain ⟨r16,hr17,hF⟩:=of_bind hF
        refine zc (orcL [(63,[⟨iS,r16⟩])]) [8,9] h (ac (c29 k r11.2 (1:Int) r16 hr17) an) fun a w h => ?_
        refine wp_seq ?_
        refine zs [8,9,65] h an fun a w h => ?_
        refine zi h hF (fun hF => ?_) (fun hF => ?_)
        ·refine zs [2] h an fun a w h => ?_
         cases hF
         exact wp_ret (ret_okR tok h rfl (by kernel_rfl)).1
        ·refine wp_skip ?_
         refine wp_seq ?_
         refine zs [68] h an fun a w h => ?_
         refine zi h hF (fun hF => ?_) (fun hF => ?_)
         ·refine zs [2] h an fun a w h => ?_
          cases hF
          exact wp_ret (ret_okR tok h rfl (by kernel_rfl)).1
         ·refine wp_skip ?_
          refine zs [2] h an fun a w h => ?_
          cases hF
          exact wp_ret (ret_okR tok h rfl (by kernel_rfl)).1
end Go.Proofs.Ytnpaokckkbhdjaa.V
