/-
  THE CONTRACTS OF SOME FUNCTIONS OF THIS SEAT, PRINTED BY A PROGRAM OF THIS PROJECT (wip/gen/vgen.py).
-/
import Derived.Test.YtgfekidehbancaaProg
import Derived.Test.YtgfekidehbancaaVmW
import Derived.Test.YtgfekidehbancaaVmAn
import Derived.KernelRfl
import Derived.Test.YtgfekidehbancaaVmBy
import Derived.Test.YtgfekidehbancaaRepL
set_option linter.unusedVariables false
open Go Go.Vm Go.Proofs
namespace Go.Proofs.Ytgfekidehbancaa.V
set_option maxRecDepth 100000
abbrev zR:Int × (Int × (Int × (Int × (Int × ByteArray)))):=((0:Int),((0:Int),((0:Int),((0:Int),((0:Int),(⟨#[]⟩:ByteArray))))))
abbrev tG:=((List (Int × (Int × Int))) × ((List (Int × (Int × (Int × (Int × (Int × ByteArray)))))) × (List (Int × Int))))
abbrev tN:=(((List (Int × (Int × Int))) × ((List (Int × (Int × (Int × (Int × (Int × ByteArray)))))) × (List (Int × Int)))) × ((List (List Int)) × ((List (List Int)) × (Option (List ((Int × Int) × Bool))))))
abbrev gD {α:Type} (l:List α) (i:Nat) (d:α):α:=List.getD l i d
abbrev tZ (n:Int):Nat:=Int.toNat n
abbrev iO:Int:=0
abbrev lO:List Int:=[]
theorem nw {p:Prop}:([]:List Nat)=[]∨p:=.inl rfl
abbrev o0:=orcL []
theorem ac {p:Prop} {l:List Prop} (h:p) (t:AllP l):AllP (p :: l):=AllP.cons h t
theorem an:AllP []:=AllP.nil
abbrev sh0:Sh:=(.sl false 137 (.st (.pair (.int .i64) (.int .i64))))
abbrev sh1:Sh:=(.st (.pair (.int .i64) (.pair (.sl false 137 (.st (.pair (.int .i64) (.int .i64)))) (.pair .str (.pair (.int .i64) (.int .i64))))))
abbrev sh2:Sh:=(.sl false 58 (.st (.pair (.int .i64) (.pair (.sl false 137 (.st (.pair (.int .i64) (.int .i64)))) (.pair .str (.pair (.int .i64) (.int .i64)))))))
abbrev sh3:Sh:=(.st (.pair (.int .i64) (.int .i64)))
abbrev sh4:Sh:=(.sl true 66 (.st (.pair (.int .i64) (.int .i64))))
abbrev sh5:Sh:=(.st (.pair (.int .i64) (.pair (.sl true 66 (.st (.pair (.int .i64) (.int .i64)))) (.pair .str (.pair (.int .i64) (.int .i64))))))
abbrev sh6:Sh:=(.sl true 62 (.st (.pair (.int .i64) (.pair (.sl true 66 (.st (.pair (.int .i64) (.int .i64)))) (.pair .str (.pair (.int .i64) (.int .i64)))))))
abbrev sh7:Sh:=(.sl false 62 (.st (.pair (.int .i64) (.pair (.sl false 66 (.st (.pair (.int .i64) (.int .i64)))) (.pair .str (.pair (.int .i64) (.int .i64)))))))
abbrev sh8:Sh:=(.sl true 39 (.sl true 5 (.int .u8)))
abbrev sh9:Sh:=(.sl false 66 (.st (.pair (.int .i64) (.int .i64))))
abbrev sh10:Sh:=(.pt true 62 (.st (.pair (.int .i64) (.pair (.sl false 66 (.st (.pair (.int .i64) (.int .i64)))) (.pair .str (.pair (.int .i64) (.int .i64)))))))
abbrev sh11:Sh:=(.pt true 66 (.st (.pair (.int .i64) (.int .i64))))
abbrev sh12:Sh:=(.pt true 59 (.sl true 39 (.sl true 5 (.int .u8))))
abbrev sh13:Sh:=(.pt false 0 (.st (.pair (.int .i64) (.pair (.sl false 66 (.st (.pair (.int .i64) (.int .i64)))) (.pair .str (.pair (.int .i64) (.int .i64)))))))
abbrev sh14:Sh:=(.st (.pair (.int .i64) (.pair (.sl false 66 (.st (.pair (.int .i64) (.int .i64)))) (.pair .str (.pair (.int .i64) (.int .i64))))))
def tbl:Tbl:=[⟨2,.int .i64,1,8,(.int .i64)⟩,
 ⟨3,.int .i64,1,8,(.int .i64)⟩,
 ⟨4,.bool,1,1,.bool⟩,
 ⟨5,.int .u8,1,1,(.int .u8)⟩,
 ⟨9,.string,1,16,.str⟩,
 ⟨22,.slice 58,1,24,(.sl true 58 (.st (.pair (.int .i64) (.pair (.sl true 137 (.st (.pair (.int .i64) (.int .i64)))) (.pair .str (.pair (.int .i64) (.int .i64)))))))⟩,
 ⟨24,.slice 9,1,24,(.sl true 9 .str)⟩,
 ⟨26,.slice 62,1,24,(.sl true 62 (.st (.pair (.int .i64) (.pair (.sl true 66 (.st (.pair (.int .i64) (.int .i64)))) (.pair .str (.pair (.int .i64) (.int .i64)))))))⟩,
 ⟨39,.slice 5,1,24,(.sl true 5 (.int .u8))⟩,
 ⟨56,.slice 137,1,24,(.sl true 137 (.st (.pair (.int .i64) (.int .i64))))⟩,
 ⟨58,.struct [(2,0),(56,1),(9,2),(2,3),(2,4)],5,64,(.st (.pair (.int .i64) (.pair (.sl true 137 (.st (.pair (.int .i64) (.int .i64)))) (.pair .str (.pair (.int .i64) (.int .i64))))))⟩,
 ⟨59,.slice 39,1,24,(.sl true 39 (.sl true 5 (.int .u8)))⟩,
 ⟨60,.slice 66,1,24,(.sl true 66 (.st (.pair (.int .i64) (.int .i64))))⟩,
 ⟨62,.struct [(2,0),(60,1),(9,2),(2,3),(2,4)],5,64,(.st (.pair (.int .i64) (.pair (.sl true 66 (.st (.pair (.int .i64) (.int .i64)))) (.pair .str (.pair (.int .i64) (.int .i64))))))⟩,
 ⟨66,.struct [(2,0),(2,1)],2,16,(.st (.pair (.int .i64) (.int .i64)))⟩,
 ⟨137,.struct [(2,0),(2,1)],2,16,(.st (.pair (.int .i64) (.int .i64)))⟩]
theorem tok:TOk Try.prog tbl:=by unfold TOk; kernel_rfl
abbrev iS:Sh:=.int .i64
section
variable {w0:World} {Wr Zi:Fp} {N:Fr} {S S':SS} {a:Act} {w:World} {Q:Exit→Act→World→Prop} {id:Nat} {ops:Array Oper} {rest:Code} {c:List Prop}
theorem zc (orc:Nat→List TV) (l:List Nat) (h:Rel w0 Wr Zi N S a w) (hc:AllP c) (hr:∀ a w,Rel w0 Wr Zi N (regS tbl Try.prog N orc [] ops l S) a w→rest.wp Try.prog Q a w) (e:regC tbl Try.prog N orc [] ops l S=c:=by kernel_rfl):((Code.region id ops false).seq rest).wp Try.prog Q a w:=wp_reg_seq tok nw h e hc hr
theorem zd (orc:Nat→List TV) (l:List Nat) (h:Rel w0 Wr Zi N S a w) (hc:AllP c) (hr:∀ a w,Rel w0 Wr Zi N (regS tbl Try.prog N orc [] ops l S) a w→Q .normal a w) (e:regC tbl Try.prog N orc [] ops l S=c:=by kernel_rfl):(Code.region id ops false).wp Try.prog Q a w:=wp_reg tok nw h e hc hr
theorem zs (l:List Nat) (h:Rel w0 Wr Zi N S a w) (hc:AllP c) (hr:∀ a w,Rel w0 Wr Zi N (regS tbl Try.prog N o0 [] ops l S) a w→rest.wp Try.prog Q a w) (e:regC tbl Try.prog N o0 [] ops l S=c:=by kernel_rfl):((Code.region id ops false).seq rest).wp Try.prog Q a w:=wp_reg_seq tok nw h e hc hr
theorem zt (l:List Nat) (h:Rel w0 Wr Zi N S a w) (hc:AllP c) (hr:∀ a w,Rel w0 Wr Zi N (regS tbl Try.prog N o0 [] ops l S) a w→Q .normal a w) (e:regC tbl Try.prog N o0 [] ops l S=c:=by kernel_rfl):(Code.region id ops false).wp Try.prog Q a w:=wp_reg tok nw h e hc hr
theorem ar (h:Rel w0 Wr Zi N S a w) (l:List Nat) (e:arr [] l S=some S':=by kernel_rfl):Rel w0 Wr Zi N S' a w:=h.arrive nw e
theorem zi {α:Type} {t:Nat} {x y:Code} {b:Bool} {X Y:α} {r:α} (h:Rel w0 Wr Zi N S a w) (hF:(if b=true then X else Y)=r) (h1:X=r→x.wp Try.prog Q a w) (h2:Y=r→y.wp Try.prog Q a w) (hb:boolAt S t=some b:=by kernel_rfl):(Code.cond (.tmp t) x y).wp Try.prog Q a w:=wp_if h hb (fun hb => h1 (of_t hb hF)) (fun hb => h2 (of_f hb hF))
end
def f67 (k:Nat) (x0:(List (Int × Int))) (x1:Int):Option Int:=if (decide (((IntKind.i64.wrap (x1 - (List.length x0:Int))):Int) < (0:Int))) then (some (-1:Int)) else (some (IntKind.i64.wrap (x1 - (List.length x0:Int))))
theorem c67 (k:Nat) (x0:(List (Int × Int))) (x1:Int) (r:Int) (hF:f67 k x0 x1=some r):PCall Try.prog 67 [⟨sh0,x0⟩,⟨iS,x1⟩] [⟨iS,r⟩]:=by
 refine pcall_intro Try.func67 rfl rfl (Nat.le_of_ble_eq_true rfl) ?_
 intro w0 Zi a w h
 rw [f67] at hF
 refine zs [0,1] h an fun a w h => ?_
 refine zs [1] h an fun a w h => ?_
 refine wp_seq ?_
 refine zs [1,10] h an fun a w h => ?_
 refine zi h hF (fun hF => ?_) (fun hF => ?_)
 ·refine zs [4] h an fun a w h => ?_
  cases hF
  exact wp_ret (ret_okR tok h rfl (by kernel_rfl)).1
 ·refine wp_skip ?_
  refine zs [4] h an fun a w h => ?_
  cases hF
  exact wp_ret (ret_okR tok h rfl (by kernel_rfl)).1
def f28 (k:Nat) (x0:(Int × ((List (Int × Int)) × (ByteArray × (Int × Int))))) (x1:Int):Option Int:=(f67 k x0.2.1 x1).bind fun r1 => (if (decide (r1 < (0:Int))) then (some (-1:Int)) else (if (decide (((IntKind.i64.wrap (r1 - (ByteArray.size x0.2.2.1:Int))):Int) < (0:Int))) then (some (-1:Int)) else (some (IntKind.i64.wrap (r1 - (ByteArray.size x0.2.2.1:Int))))))
theorem c28 (k:Nat) (x0:(Int × ((List (Int × Int)) × (ByteArray × (Int × Int))))) (x1:Int) (r:Int) (hF:f28 k x0 x1=some r):PCall Try.prog 28 [⟨sh1,x0⟩,⟨iS,x1⟩] [⟨iS,r⟩]:=by
 refine pcall_intro Try.func28 rfl rfl (Nat.le_of_ble_eq_true rfl) ?_
 intro w0 Zi a w h
 rw [f28] at hF
 refine zs [1,2] h an fun a w h => ?_
 obtain ⟨r1,hr2,hF⟩:=of_bind hF
 refine zc (orcL [(8,[⟨iS,r1⟩])]) [1,2] h (ac (c67 k x0.2.1 x1 r1 hr2) an) fun a w h => ?_
 refine wp_seq ?_
 refine zs [1,2,10] h an fun a w h => ?_
 refine zi h hF (fun hF => ?_) (fun hF => ?_)
 ·refine zs [4] h an fun a w h => ?_
  cases hF
  exact wp_ret (ret_okR tok h rfl (by kernel_rfl)).1
 ·refine wp_skip ?_
  refine zs [1] h an fun a w h => ?_
  refine wp_seq ?_
  refine zs [1,17] h an fun a w h => ?_
  refine zi h hF (fun hF => ?_) (fun hF => ?_)
  ·refine zs [4] h an fun a w h => ?_
   cases hF
   exact wp_ret (ret_okR tok h rfl (by kernel_rfl)).1
  ·refine wp_skip ?_
   refine zs [4] h an fun a w h => ?_
   cases hF
   exact wp_ret (ret_okR tok h rfl (by kernel_rfl)).1
def f6.l28 (k:Nat) (x0:(List (Int × ((List (Int × Int)) × (ByteArray × (Int × Int)))))):Nat → (Int × Int)→Option Int
 | 0,_ => none
 | m28+1,(v47,v48) => if (decide (v48 < (List.length x0:Int))) then (if (0≤v48∧v48 < (List.length x0:Int)) then ((f28 k (List.getD x0 (Int.toNat v48) ((0:Int),(([]:(List (Int × Int))),((⟨#[]⟩:ByteArray),((0:Int),(0:Int)))))) v47).bind fun r52 => (if (decide (r52 < (0:Int))) then (some (-1:Int)) else ((f6.l28 k x0) m28 (r52,(IntKind.i64.wrap (v48 + (1:Int))))))) else none) else (some v47)
def f6 (k:Nat) (x0:(List (Int × ((List (Int × Int)) × (ByteArray × (Int × Int)))))) (x1:Int):Option Int:=if (decide (((IntKind.i64.wrap (x1 - (List.length x0:Int))):Int) < (0:Int))) then (some (-1:Int)) else (f6.l28 k x0 k ((IntKind.i64.wrap (x1 - (List.length x0:Int))),(0:Int)))
theorem c6 (k:Nat) (x0:(List (Int × ((List (Int × Int)) × (ByteArray × (Int × Int)))))) (x1:Int) (r:Int) (hF:f6 k x0 x1=some r):PCall Try.prog 6 [⟨sh2,x0⟩,⟨iS,x1⟩] [⟨iS,r⟩]:=by
 refine pcall_intro Try.func6 rfl rfl (Nat.le_of_ble_eq_true rfl) ?_
 intro w0 Zi a w h
 rw [f6] at hF
 refine zs [0,1] h an fun a w h => ?_
 refine zs [0,1] h an fun a w h => ?_
 refine wp_seq ?_
 refine zs [0,1,11] h an fun a w h => ?_
 refine zi h hF (fun hF => ?_) (fun hF => ?_)
 ·refine zs [4] h an fun a w h => ?_
  cases hF
  exact wp_ret (ret_okR tok h rfl (by kernel_rfl)).1
 ·refine wp_skip ?_
  refine wp_seq ?_
  refine zs [0,1,5] h an fun a w h => ?_
  refine wp_block ?_
  refine wp_loop_fuel (f6.l28 k x0) (fun ((v47,v48):(Int × Int)) => [(0,.val sh2 x0),(1,.val iS v47),(5,.val iS v48)]) (fun v h => by obtain ⟨v47,v48⟩:=v; rw [f6.l28] at h; cases h) ?_ hF (ar h [0,1,5])
  intro m28 v a w hF h
  obtain ⟨v47,v48⟩:=v
  rw [f6.l28] at hF
  refine wp_seq ?_
  refine zs [0,1,5,15] h an fun a w h => ?_
  refine zi h hF (fun hF => ?_) (fun hF => ?_)
  ·refine wp_skip ?_
   refine wp_seq <| wp_block ?_
   obtain ⟨hc53,hF⟩:=of_if hF
   obtain ⟨r52,hr54,hF⟩:=of_bind hF
   refine zc (orcL [(23,[⟨iS,r52⟩])]) [0,1,5] h (ac hc53 (ac (c28 k (gD x0 (tZ v48) (iO,(([]:(List (Int × Int))),((⟨#[]⟩:ByteArray),(iO,iO))))) v47 r52 hr54) an)) fun a w h => ?_
   refine zs [0,1,5,25] h an fun a w h => ?_
   refine zi h hF (fun hF => ?_) (fun hF => ?_)
   ·refine zs [4] h an fun a w h => ?_
    cases hF
    exact wp_ret (ret_okR tok h rfl (by kernel_rfl)).1
   ·refine wp_skip ?_
    refine zt [0,1,5] h an fun a w h => ?_
    exact ⟨(r52,(w64 (v48 + (1:Int)))),hF,ar h [0,1,5]⟩
  ·refine wp_exit ?_
   refine zs [4] h an fun a w h => ?_
   cases hF
   exact wp_ret (ret_okR tok h rfl (by kernel_rfl)).1
def f89 (k:Nat) (x0:(Int × Int)):Option (Int × Int):=some (x0.1,x0.2)
theorem c89 (k:Nat) (x0:(Int × Int)) (r:(Int × Int)) (hF:f89 k x0=some r):PCall Try.prog 89 [⟨sh3,x0⟩] [⟨sh3,r⟩]:=by
 refine pcall_intro Try.func89 rfl rfl (Nat.le_of_ble_eq_true rfl) ?_
 intro w0 Zi a w h
 rw [f89] at hF
 refine zs [1,2] h an fun a w h => ?_
 refine zs [1,2,3] h an fun a w h => ?_
 refine zs [1,2,3] h an fun a w h => ?_
 refine zs [2,3] h an fun a w h => ?_
 refine zs [2] h an fun a w h => ?_
 cases hF
 exact wp_ret (ret_okR tok h rfl (by kernel_rfl)).1
def f68.l34 (k:Nat) (x0:(List (Int × Int))):Nat → ((List (Int × Int)) × Int)→Option (List (Int × Int))
 | 0,_ => none
 | m34+1,(v57,v58) => if (decide (v58 < (List.length x0:Int))) then (if (0≤v58∧v58 < (List.length x0:Int)) then ((f89 k (List.getD x0 (Int.toNat v58) ((0:Int),(0:Int)))).bind fun r63 => (if (0≤v58∧v58 < (List.length v57:Int)) then ((f68.l34 k x0) m34 ((List.set v57 (Int.toNat v58) r63),(IntKind.i64.wrap (v58 + (1:Int))))) else none)) else none) else (some v57)
def f68 (k:Nat) (x0:(List (Int × Int))):Option (List (Int × Int)):=if (0 ≤ (List.length x0:Int)∧Int.toNat (List.length x0:Int)*16≤140737488355328) then (f68.l34 k x0 k ((List.replicate (Int.toNat (List.length x0:Int)) ((0:Int),(0:Int))),(0:Int))) else none
theorem c68 (k:Nat) (x0:(List (Int × Int))) (r:(List (Int × Int))) (hF:f68 k x0=some r):PCall Try.prog 68 [⟨sh0,x0⟩] [⟨sh4,r⟩]:=by
 refine pcall_intro Try.func68 rfl rfl (Nat.le_of_ble_eq_true rfl) ?_
 intro w0 Zi a w h
 rw [f68] at hF
 refine zs [0] h an fun a w h => ?_
 obtain ⟨hc67,hF⟩:=of_if hF
 refine zs [0,3] h (ac hc67 an) fun a w h => ?_
 refine wp_seq ?_
 refine zs [0,3,4] h an fun a w h => ?_
 refine wp_block ?_
 refine wp_loop_fuel (f68.l34 k x0) (fun ((v57,v58):((List (Int × Int)) × Int)) => [(0,.val sh0 x0),(3,.val sh4 v57),(4,.val iS v58)]) (fun v h => by obtain ⟨v57,v58⟩:=v; rw [f68.l34] at h; cases h) ?_ hF (ar h [0,3,4])
 intro m34 v a w hF h
 obtain ⟨v57,v58⟩:=v
 rw [f68.l34] at hF
 refine wp_seq ?_
 refine zs [0,3,4,11] h an fun a w h => ?_
 refine zi h hF (fun hF => ?_) (fun hF => ?_)
 ·refine wp_skip ?_
  refine wp_seq <| wp_block ?_
  obtain ⟨hc64,hF⟩:=of_if hF
  obtain ⟨r63,hr65,hF⟩:=of_bind hF
  obtain ⟨hc66,hF⟩:=of_if hF
  refine zd (orcL [(20,[⟨sh3,r63⟩])]) [0,3,4] h (ac hc64 (ac (c89 k (gD x0 (tZ v58) (iO,iO)) r63 hr65) (ac hc66 an))) fun a w h => ?_
  refine zt [0,3,4] h an fun a w h => ?_
  exact ⟨((List.set v57 (tZ v58) r63),(w64 (v58 + (1:Int)))),hF,ar h [0,3,4]⟩
 ·refine wp_exit ?_
  refine zs [2,3] h an fun a w h => ?_
  cases hF
  exact wp_ret (ret_okR tok h rfl (by kernel_rfl)).1
def f33 (k:Nat) (x0:(Int × ((List (Int × Int)) × (ByteArray × (Int × Int))))):Option (Int × ((List (Int × Int)) × (ByteArray × (Int × Int)))):=(f68 k x0.2.1).bind fun r1 => (some (x0.1,(r1,(x0.2.2.1,(x0.2.2.2.1,x0.2.2.2.2)))))
theorem c33 (k:Nat) (x0:(Int × ((List (Int × Int)) × (ByteArray × (Int × Int))))) (r:(Int × ((List (Int × Int)) × (ByteArray × (Int × Int))))) (hF:f33 k x0=some r):PCall Try.prog 33 [⟨sh1,x0⟩] [⟨sh5,r⟩]:=by
 refine pcall_intro Try.func33 rfl rfl (Nat.le_of_ble_eq_true rfl) ?_
 intro w0 Zi a w h
 rw [f33] at hF
 refine zs [1,2] h an fun a w h => ?_
 refine zs [1,2,3] h an fun a w h => ?_
 refine zs [1,2,3] h an fun a w h => ?_
 obtain ⟨r1,hr2,hF⟩:=of_bind hF
 refine zc (orcL [(9,[⟨sh4,r1⟩])]) [1,2,3] h (ac (c68 k x0.2.1 r1 hr2) an) fun a w h => ?_
 refine zs [1,2,3] h an fun a w h => ?_
 refine zs [1,2,3] h an fun a w h => ?_
 refine zs [2,3] h an fun a w h => ?_
 refine zs [2] h an fun a w h => ?_
 cases hF
 exact wp_ret (ret_okR tok h rfl (by kernel_rfl)).1
def f8.l34 (k:Nat) (x0:(List (Int × ((List (Int × Int)) × (ByteArray × (Int × Int)))))):Nat → ((List (Int × ((List (Int × Int)) × (ByteArray × (Int × Int))))) × Int)→Option (List (Int × ((List (Int × Int)) × (ByteArray × (Int × Int)))))
 | 0,_ => none
 | m34+1,(v57,v58) => if (decide (v58 < (List.length x0:Int))) then (if (0≤v58∧v58 < (List.length x0:Int)) then ((f33 k (List.getD x0 (Int.toNat v58) ((0:Int),(([]:(List (Int × Int))),((⟨#[]⟩:ByteArray),((0:Int),(0:Int))))))).bind fun r63 => (if (0≤v58∧v58 < (List.length v57:Int)) then ((f8.l34 k x0) m34 ((List.set v57 (Int.toNat v58) r63),(IntKind.i64.wrap (v58 + (1:Int))))) else none)) else none) else (some v57)
def f8 (k:Nat) (x0:(List (Int × ((List (Int × Int)) × (ByteArray × (Int × Int)))))):Option (List (Int × ((List (Int × Int)) × (ByteArray × (Int × Int))))):=if (0 ≤ (List.length x0:Int)∧Int.toNat (List.length x0:Int)*64≤140737488355328) then (f8.l34 k x0 k ((List.replicate (Int.toNat (List.length x0:Int)) ((0:Int),(([]:(List (Int × Int))),((⟨#[]⟩:ByteArray),((0:Int),(0:Int)))))),(0:Int))) else none
theorem c8 (k:Nat) (x0:(List (Int × ((List (Int × Int)) × (ByteArray × (Int × Int)))))) (r:(List (Int × ((List (Int × Int)) × (ByteArray × (Int × Int)))))) (hF:f8 k x0=some r):PCall Try.prog 8 [⟨sh2,x0⟩] [⟨sh6,r⟩]:=by
 refine pcall_intro Try.func8 rfl rfl (Nat.le_of_ble_eq_true rfl) ?_
 intro w0 Zi a w h
 rw [f8] at hF
 refine zs [0] h an fun a w h => ?_
 obtain ⟨hc67,hF⟩:=of_if hF
 refine zs [0,3] h (ac hc67 an) fun a w h => ?_
 refine wp_seq ?_
 refine zs [0,3,4] h an fun a w h => ?_
 refine wp_block ?_
 refine wp_loop_fuel (f8.l34 k x0) (fun ((v57,v58):((List (Int × ((List (Int × Int)) × (ByteArray × (Int × Int))))) × Int)) => [(0,.val sh2 x0),(3,.val sh6 v57),(4,.val iS v58)]) (fun v h => by obtain ⟨v57,v58⟩:=v; rw [f8.l34] at h; cases h) ?_ hF (ar h [0,3,4])
 intro m34 v a w hF h
 obtain ⟨v57,v58⟩:=v
 rw [f8.l34] at hF
 refine wp_seq ?_
 refine zs [0,3,4,11] h an fun a w h => ?_
 refine zi h hF (fun hF => ?_) (fun hF => ?_)
 ·refine wp_skip ?_
  refine wp_seq <| wp_block ?_
  obtain ⟨hc64,hF⟩:=of_if hF
  obtain ⟨r63,hr65,hF⟩:=of_bind hF
  obtain ⟨hc66,hF⟩:=of_if hF
  refine zd (orcL [(20,[⟨sh5,r63⟩])]) [0,3,4] h (ac hc64 (ac (c33 k (gD x0 (tZ v58) (iO,(([]:(List (Int × Int))),((⟨#[]⟩:ByteArray),(iO,iO))))) r63 hr65) (ac hc66 an))) fun a w h => ?_
  refine zt [0,3,4] h an fun a w h => ?_
  exact ⟨((List.set v57 (tZ v58) r63),(w64 (v58 + (1:Int)))),hF,ar h [0,3,4]⟩
 ·refine wp_exit ?_
  refine zs [2,3] h an fun a w h => ?_
  cases hF
  exact wp_ret (ret_okR tok h rfl (by kernel_rfl)).1
def f29.l30 (k:Nat) (x0:(List (Int × Int))):Nat→Int→Option Bool
 | 0,_ => none
 | m30+1,v50 => if (decide (v50 < (List.length x0:Int))) then (if (0≤v50∧v50 < (List.length x0:Int)) then (if (((decide (((List.getD x0 (Int.toNat v50) ((0:Int),(0:Int))).1:Int) < (0:Int)))=false) → (0≤v50∧v50 < (List.length x0:Int))) then (if (((bif (decide (((List.getD x0 (Int.toNat v50) ((0:Int),(0:Int))).1:Int) < (0:Int))) then true else (decide (((List.getD x0 (Int.toNat v50) ((0:Int),(0:Int))).1:Int) > (4096:Int))))=false) → (0≤v50∧v50 < (List.length x0:Int))) then (if (((bif (bif (decide (((List.getD x0 (Int.toNat v50) ((0:Int),(0:Int))).1:Int) < (0:Int))) then true else (decide (((List.getD x0 (Int.toNat v50) ((0:Int),(0:Int))).1:Int) > (4096:Int)))) then true else (decide (((List.getD x0 (Int.toNat v50) ((0:Int),(0:Int))).2:Int) < (0:Int))))=false) → (0≤v50∧v50 < (List.length x0:Int))) then (if (bif (bif (bif (decide (((List.getD x0 (Int.toNat v50) ((0:Int),(0:Int))).1:Int) < (0:Int))) then true else (decide (((List.getD x0 (Int.toNat v50) ((0:Int),(0:Int))).1:Int) > (4096:Int)))) then true else (decide (((List.getD x0 (Int.toNat v50) ((0:Int),(0:Int))).2:Int) < (0:Int)))) then true else (decide (((List.getD x0 (Int.toNat v50) ((0:Int),(0:Int))).2:Int) > (4096:Int)))) then (some false) else ((f29.l30 k x0) m30 (IntKind.i64.wrap (v50 + (1:Int))))) else none) else none) else none) else none) else (some true)
def f29 (k:Nat) (x0:(List (Int × Int))):Option Bool:=f29.l30 k x0 k (0:Int)
theorem c29 (k:Nat) (x0:(List (Int × Int))) (r:Bool) (hF:f29 k x0=some r):PCall Try.prog 29 [⟨sh9,x0⟩] [⟨.bool,r⟩]:=by
 refine pcall_intro Try.func29 rfl rfl (Nat.le_of_ble_eq_true rfl) ?_
 intro w0 Zi a w h
 rw [f29] at hF
 refine zs [0] h an fun a w h => ?_
 refine wp_seq ?_
 refine zs [0,3] h an fun a w h => ?_
 refine wp_block ?_
 refine wp_loop_fuel (f29.l30 k x0) (fun v50 => [(0,.val sh9 x0),(3,.val iS v50)]) (fun v h => by rw [f29.l30] at h; cases h) ?_ hF (ar h [0,3])
 intro m30 v50 a w hF h
 rw [f29.l30] at hF
 refine wp_seq ?_
 refine zs [0,3,7] h an fun a w h => ?_
 refine zi h hF (fun hF => ?_) (fun hF => ?_)
 ·refine wp_skip ?_
  refine wp_seq <| wp_block ?_
  obtain ⟨hc55,hF⟩:=of_if hF
  obtain ⟨hc56,hF⟩:=of_if hF
  obtain ⟨hc57,hF⟩:=of_if hF
  obtain ⟨hc58,hF⟩:=of_if hF
  refine zs [0,3,39] h (ac hc55 (ac hc56 (ac hc57 (ac hc58 an)))) fun a w h => ?_
  refine zi h hF (fun hF => ?_) (fun hF => ?_)
  ·refine zs [2] h an fun a w h => ?_
   cases hF
   exact wp_ret (ret_okR tok h rfl (by kernel_rfl)).1
  ·refine wp_skip ?_
   refine zt [0,3] h an fun a w h => ?_
   exact ⟨(w64 (v50 + (1:Int))),hF,ar h [0,3]⟩
 ·refine wp_exit ?_
  refine zs [2] h an fun a w h => ?_
  cases hF
  exact wp_ret (ret_okR tok h rfl (by kernel_rfl)).1
def f30 (k:Nat) (x0:(List (List Int))) (x1:(Int × Int)) (x2:Int) (x3:Int):Option (List (List Int)):=if (((4097:Int):Int)≠0) then (if (((4097:Int):Int)≠0) then (if (0 ≤ (IntKind.i64.wrap ((IntKind.i64.wrap (x2 - (1:Int))) - (IntKind.i64.wrap (Int.tdiv (IntKind.i64.wrap (x1.2*x2)) (4097:Int))))) ∧ (IntKind.i64.wrap ((IntKind.i64.wrap (x2 - (1:Int))) - (IntKind.i64.wrap (Int.tdiv (IntKind.i64.wrap (x1.2*x2)) (4097:Int))))) < (List.length x0:Int)) then (if (0 ≤ (IntKind.i64.wrap (Int.tdiv (IntKind.i64.wrap (x1.1*x2)) (4097:Int))) ∧ (IntKind.i64.wrap (Int.tdiv (IntKind.i64.wrap (x1.1*x2)) (4097:Int))) < (List.length (List.getD x0 (Int.toNat (IntKind.i64.wrap ((IntKind.i64.wrap (x2 - (1:Int))) - (IntKind.i64.wrap (Int.tdiv (IntKind.i64.wrap (x1.2*x2)) (4097:Int)))))) ([]:(List Int))):Int)) then (some (List.set x0 (Int.toNat (IntKind.i64.wrap ((IntKind.i64.wrap (x2 - (1:Int))) - (IntKind.i64.wrap (Int.tdiv (IntKind.i64.wrap (x1.2*x2)) (4097:Int)))))) (List.set (List.getD x0 (Int.toNat (IntKind.i64.wrap ((IntKind.i64.wrap (x2 - (1:Int))) - (IntKind.i64.wrap (Int.tdiv (IntKind.i64.wrap (x1.2*x2)) (4097:Int)))))) ([]:(List Int))) (Int.toNat (IntKind.i64.wrap (Int.tdiv (IntKind.i64.wrap (x1.1*x2)) (4097:Int)))) x3))) else none) else none) else none) else none
theorem c30 (k:Nat) (x0:(List (List Int))) (x1:(Int × Int)) (x2:Int) (x3:Int) (r:(List (List Int))) (hF:f30 k x0 x1 x2 x3=some r):PMut Try.prog 30 [⟨sh8,x0⟩,⟨sh3,x1⟩,⟨iS,x2⟩,⟨(.int .u8),x3⟩] [] (List.set [⟨sh8,x0⟩,⟨sh3,x1⟩,⟨iS,x2⟩,⟨(.int .u8),x3⟩] 0 ⟨sh8,r⟩):=by
 refine pmut_intro (j:=0) (fin:=⟨sh8,r⟩) Try.func30 rfl rfl (Nat.le_of_ble_eq_true rfl) (Nat.le_of_ble_eq_true rfl) (by kernel_rfl) ?_
 intro w0 Zi f0 v0 a w h
 rw [f30] at hF
 refine wp_reg_seq tok (orc:=o0) (fz:=[]) (l:=[0,2,3,5]) (.inl rfl) h (by kernel_rfl) an fun a w h => ?_
 obtain ⟨hc4,hF⟩:=of_if hF
 refine wp_reg_seq tok (orc:=o0) (fz:=[]) (l:=[0,2,3,5,8]) (.inl rfl) h (by kernel_rfl) (ac hc4 an) fun a w h => ?_
 obtain ⟨hc3,hF⟩:=of_if hF
 refine wp_reg_seq tok (orc:=o0) (fz:=[]) (l:=[0,2,3,8,9]) (.inl rfl) h (by kernel_rfl) (ac hc3 an) fun a w h => ?_
 obtain ⟨hc1,hF⟩:=of_if hF
 obtain ⟨hc2,hF⟩:=of_if hF
 refine wp_reg tok (orc:=o0) (fz:=[]) (l:=[0]) (.inl rfl) h (by kernel_rfl) (ac hc1 (ac hc2 an)) fun a w h => ?_
 cases hF
 exact (retM_ok tok h rfl (by kernel_rfl) (by kernel_rfl)).2
def f31 (k:Nat) (x0:Int):Option Int:=if (decide (x0 < (0:Int))) then (some (IntKind.i64.wrap (0 - x0))) else (some x0)
theorem c31 (k:Nat) (x0:Int) (r:Int) (hF:f31 k x0=some r):PCall Try.prog 31 [⟨iS,x0⟩] [⟨iS,r⟩]:=by
 refine pcall_intro Try.func31 rfl rfl (Nat.le_of_ble_eq_true rfl) ?_
 intro w0 Zi a w h
 rw [f31] at hF
 refine zs [0] h an fun a w h => ?_
 refine wp_seq ?_
 refine zs [0,4] h an fun a w h => ?_
 refine zi h hF (fun hF => ?_) (fun hF => ?_)
 ·refine zs [2] h an fun a w h => ?_
  cases hF
  exact wp_ret (ret_okR tok h rfl (by kernel_rfl)).1
 ·refine wp_skip ?_
  refine zs [2] h an fun a w h => ?_
  cases hF
  exact wp_ret (ret_okR tok h rfl (by kernel_rfl)).1
def f32.j2 (k:Nat):Int→Option Int
 | v1 => some v1
def f32 (k:Nat) (x0:Int) (x1:Int):Option Int:=if (x1≠0) then (if (x1≠0) then (if (decide (((Int.tmod x0 x1):Int) < (0:Int))) then (f32.j2 k (IntKind.i64.wrap ((IntKind.i64.wrap (Int.tdiv x0 x1)) - (1:Int)))) else (f32.j2 k (IntKind.i64.wrap (Int.tdiv x0 x1)))) else none) else none
theorem c32 (k:Nat) (x0:Int) (x1:Int) (r:Int) (hF:f32 k x0 x1=some r):PCall Try.prog 32 [⟨iS,x0⟩,⟨iS,x1⟩] [⟨iS,r⟩]:=by
 refine pcall_intro Try.func32 rfl rfl (Nat.le_of_ble_eq_true rfl) ?_
 intro w0 Zi a w h
 rw [f32] at hF
 refine zs [0,1] h an fun a w h => ?_
 obtain ⟨hc4,hF⟩:=of_if hF
 refine zs [0,1,5] h (ac hc4 an) fun a w h => ?_
 refine wp_seq ?_
 obtain ⟨hc3,hF⟩:=of_if hF
 refine zs [5,12] h (ac hc3 an) fun a w h => ?_
 refine wp_midT (fun a w => ∃ v:Int,f32.j2 k v=some r∧Rel w0 (fun _ => False) Zi Try.f32.ntmps ((fun v1 => ([(5,.val iS v1)]:SS)) v) a w) ?_ ?_
 ·
  refine zi h hF (fun hF => ?_) (fun hF => ?_)
  ·refine zt [5] h an fun a w h => ?_
   exact ⟨(w64 ((w64 (Int.tdiv x0 x1)) - (1:Int))),hF,ar h [5]⟩
  ·refine wp_skip ?_
   exact ⟨(w64 (Int.tdiv x0 x1)),hF,ar h [5]⟩
 ·rintro a w ⟨v1,hF,h⟩
  rw [f32.j2] at hF
  refine zs [4] h an fun a w h => ?_
  cases hF
  exact wp_ret (ret_okR tok h rfl (by kernel_rfl)).1
def f7.l386 (k:Nat) (x1:Int) (v337:(List (List Int))) (v338:Int) (q202:((List (List Int)) × Int)→Option (List ByteArray)):Nat → ((List Int) × Int)→Option (List ByteArray)
 | 0,_ => none
 | m386+1,(v397,v398) => if (decide (v398 < x1)) then (if (0≤v398∧v398 < (List.length v397:Int)) then ((f7.l386 k x1 v337 v338 q202) m386 ((List.set v397 (Int.toNat v398) (32:Int)),(IntKind.i64.wrap (v398 + (1:Int))))) else none) else (if ((List.length v337+List.length [v397])*24≤140737488355328) then (q202 ((v337 ++ [v397]),(IntKind.i64.wrap (v338 + (1:Int))))) else none)
def f7.j5118 (k:Nat) (v4690:Int) (q2974:((List (List Int)) × Int)→Option (List ByteArray)):(List (List Int))→Option (List ByteArray)
 | v5117 => q2974 (v5117,(IntKind.i64.wrap (v4690 + (1:Int))))
def f7.j5474 (k:Nat) (v5404:Int) (q5120:((List (List Int)) × Int)→Option (List ByteArray)):(List (List Int))→Option (List ByteArray)
 | v5473 => q5120 (v5473,(IntKind.i64.wrap (v5404 + (1:Int))))
def f7.l5482 (k:Nat) (v5480:Int) (x0:(List (Int × ((List (Int × Int)) × (ByteArray × (Int × Int)))))) (v4690:Int) (v5404:Int) (x1:Int) (q5474:(List (List Int))→Option (List ByteArray)):Nat → ((List (List Int)) × Int)→Option (List ByteArray)
 | 0,_ => none
 | m5482+1,(v5517,v5518) => if (decide (v5518 < v5480)) then ((f32 k (IntKind.i64.wrap ((IntKind.i64.wrap ((List.getD (List.getD x0 (Int.toNat v4690) ((0:Int),(([]:(List (Int × Int))),((⟨#[]⟩:ByteArray),((0:Int),(0:Int)))))).2.1 (Int.toNat v5404) ((0:Int),(0:Int))).1 - (List.getD (List.getD x0 (Int.toNat v4690) ((0:Int),(([]:(List (Int × Int))),((⟨#[]⟩:ByteArray),((0:Int),(0:Int)))))).2.1 (Int.toNat (IntKind.i64.wrap (v5404 - (1:Int)))) ((0:Int),(0:Int))).1))*v5518)) v5480).bind fun r5526 => ((f32 k (IntKind.i64.wrap ((IntKind.i64.wrap ((List.getD (List.getD x0 (Int.toNat v4690) ((0:Int),(([]:(List (Int × Int))),((⟨#[]⟩:ByteArray),((0:Int),(0:Int)))))).2.1 (Int.toNat v5404) ((0:Int),(0:Int))).2 - (List.getD (List.getD x0 (Int.toNat v4690) ((0:Int),(([]:(List (Int × Int))),((⟨#[]⟩:ByteArray),((0:Int),(0:Int)))))).2.1 (Int.toNat (IntKind.i64.wrap (v5404 - (1:Int)))) ((0:Int),(0:Int))).2))*v5518)) v5480).bind fun r5527 => (if ((0:Int) ≤ (0:Int) ∧ ((0:Int):Int) < (ByteArray.size (List.getD x0 (Int.toNat v4690) ((0:Int),(([]:(List (Int × Int))),((⟨#[]⟩:ByteArray),((0:Int),(0:Int)))))).2.2.1:Int)) then ((f30 k v5517 ((IntKind.i64.wrap ((List.getD (List.getD x0 (Int.toNat v4690) ((0:Int),(([]:(List (Int × Int))),((⟨#[]⟩:ByteArray),((0:Int),(0:Int)))))).2.1 (Int.toNat (IntKind.i64.wrap (v5404 - (1:Int)))) ((0:Int),(0:Int))).1+r5526)),(IntKind.i64.wrap ((List.getD (List.getD x0 (Int.toNat v4690) ((0:Int),(([]:(List (Int × Int))),((⟨#[]⟩:ByteArray),((0:Int),(0:Int)))))).2.1 (Int.toNat (IntKind.i64.wrap (v5404 - (1:Int)))) ((0:Int),(0:Int))).2+r5527))) x1 (byteAt (List.getD x0 (Int.toNat v4690) ((0:Int),(([]:(List (Int × Int))),((⟨#[]⟩:ByteArray),((0:Int),(0:Int)))))).2.2.1 (0:Int))).bind fun r5528 => ((f7.l5482 k v5480 x0 v4690 v5404 x1 q5474) m5482 (r5528,(IntKind.i64.wrap (v5518 + (1:Int)))))) else none))) else (q5474 v5517)
def f7.j5481 (k:Nat) (x0:(List (Int × ((List (Int × Int)) × (ByteArray × (Int × Int)))))) (v4690:Int) (v5404:Int) (x1:Int) (r5475:(List (List Int))) (q5474:(List (List Int))→Option (List ByteArray)):Int→Option (List ByteArray)
 | v5480 => f7.l5482 k v5480 x0 v4690 v5404 x1 (q5474) k (r5475,(1:Int))
def f7.l5120 (k:Nat) (x0:(List (Int × ((List (Int × Int)) × (ByteArray × (Int × Int)))))) (v4690:Int) (x1:Int) (q5118:(List (List Int))→Option (List ByteArray)):Nat → ((List (List Int)) × Int)→Option (List ByteArray)
 | 0,_ => none
 | m5120+1,(v5403,v5404) => if (decide (v5404 < (List.length (List.getD x0 (Int.toNat v4690) ((0:Int),(([]:(List (Int × Int))),((⟨#[]⟩:ByteArray),((0:Int),(0:Int)))))).2.1:Int))) then (if (0≤v5404∧v5404 < (List.length (List.getD x0 (Int.toNat v4690) ((0:Int),(([]:(List (Int × Int))),((⟨#[]⟩:ByteArray),((0:Int),(0:Int)))))).2.1:Int)) then (if ((0:Int) ≤ (0:Int) ∧ ((0:Int):Int) < (ByteArray.size (List.getD x0 (Int.toNat v4690) ((0:Int),(([]:(List (Int × Int))),((⟨#[]⟩:ByteArray),((0:Int),(0:Int)))))).2.2.1:Int)) then ((f30 k v5403 (List.getD (List.getD x0 (Int.toNat v4690) ((0:Int),(([]:(List (Int × Int))),((⟨#[]⟩:ByteArray),((0:Int),(0:Int)))))).2.1 (Int.toNat v5404) ((0:Int),(0:Int))) x1 (byteAt (List.getD x0 (Int.toNat v4690) ((0:Int),(([]:(List (Int × Int))),((⟨#[]⟩:ByteArray),((0:Int),(0:Int)))))).2.2.1 (0:Int))).bind fun r5475 => (if (v5404 == (0:Int)) then (f7.j5474 k v5404 ((f7.l5120 k x0 v4690 x1 q5118) m5120) r5475) else (if (0 ≤ (IntKind.i64.wrap (v5404 - (1:Int))) ∧ (IntKind.i64.wrap (v5404 - (1:Int))) < (List.length (List.getD x0 (Int.toNat v4690) ((0:Int),(([]:(List (Int × Int))),((⟨#[]⟩:ByteArray),((0:Int),(0:Int)))))).2.1:Int)) then (if (0≤v5404∧v5404 < (List.length (List.getD x0 (Int.toNat v4690) ((0:Int),(([]:(List (Int × Int))),((⟨#[]⟩:ByteArray),((0:Int),(0:Int)))))).2.1:Int)) then (if (0≤v5404∧v5404 < (List.length (List.getD x0 (Int.toNat v4690) ((0:Int),(([]:(List (Int × Int))),((⟨#[]⟩:ByteArray),((0:Int),(0:Int)))))).2.1:Int)) then ((f31 k (IntKind.i64.wrap ((List.getD (List.getD x0 (Int.toNat v4690) ((0:Int),(([]:(List (Int × Int))),((⟨#[]⟩:ByteArray),((0:Int),(0:Int)))))).2.1 (Int.toNat v5404) ((0:Int),(0:Int))).1 - (List.getD (List.getD x0 (Int.toNat v4690) ((0:Int),(([]:(List (Int × Int))),((⟨#[]⟩:ByteArray),((0:Int),(0:Int)))))).2.1 (Int.toNat (IntKind.i64.wrap (v5404 - (1:Int)))) ((0:Int),(0:Int))).1))).bind fun r5476 => ((f31 k (IntKind.i64.wrap ((List.getD (List.getD x0 (Int.toNat v4690) ((0:Int),(([]:(List (Int × Int))),((⟨#[]⟩:ByteArray),((0:Int),(0:Int)))))).2.1 (Int.toNat v5404) ((0:Int),(0:Int))).2 - (List.getD (List.getD x0 (Int.toNat v4690) ((0:Int),(([]:(List (Int × Int))),((⟨#[]⟩:ByteArray),((0:Int),(0:Int)))))).2.1 (Int.toNat (IntKind.i64.wrap (v5404 - (1:Int)))) ((0:Int),(0:Int))).2))).bind fun r5477 => (if (decide (r5477 > r5476)) then ((f31 k (IntKind.i64.wrap ((List.getD (List.getD x0 (Int.toNat v4690) ((0:Int),(([]:(List (Int × Int))),((⟨#[]⟩:ByteArray),((0:Int),(0:Int)))))).2.1 (Int.toNat v5404) ((0:Int),(0:Int))).2 - (List.getD (List.getD x0 (Int.toNat v4690) ((0:Int),(([]:(List (Int × Int))),((⟨#[]⟩:ByteArray),((0:Int),(0:Int)))))).2.1 (Int.toNat (IntKind.i64.wrap (v5404 - (1:Int)))) ((0:Int),(0:Int))).2))).bind fun r5533 => (f7.j5481 k x0 v4690 v5404 x1 r5475 (f7.j5474 k v5404 ((f7.l5120 k x0 v4690 x1 q5118) m5120)) r5533)) else (f7.j5481 k x0 v4690 v5404 x1 r5475 (f7.j5474 k v5404 ((f7.l5120 k x0 v4690 x1 q5118) m5120)) r5476)))) else none) else none) else none))) else none) else none) else (q5118 v5403)
def f7.l5566 (k:Nat) (x1:Int) (v4689:(List (List Int))):Nat → ((List ByteArray) × Int)→Option (List ByteArray)
 | 0,_ => none
 | m5566+1,(v5581,v5582) => if (decide (v5582 < x1)) then (if (0≤v5582∧v5582 < (List.length v4689:Int)) then (if ((List.length v5581+List.length [(strOfNums (List.getD v4689 (Int.toNat v5582) ([]:(List Int))))])*16≤140737488355328) then ((f7.l5566 k x1 v4689) m5566 ((v5581 ++ [(strOfNums (List.getD v4689 (Int.toNat v5582) ([]:(List Int))))]),(IntKind.i64.wrap (v5582 + (1:Int))))) else none) else none) else (some v5581)
def f7.l2974 (k:Nat) (x0:(List (Int × ((List (Int × Int)) × (ByteArray × (Int × Int)))))) (x1:Int):Nat → ((List (List Int)) × Int)→Option (List ByteArray)
 | 0,_ => none
 | m2974+1,(v4689,v4690) => if (decide (v4690 < (List.length x0:Int))) then (if (0≤v4690∧v4690 < (List.length x0:Int)) then ((if ((ByteArray.toList (List.getD x0 (Int.toNat v4690) ((0:Int),(([]:(List (Int × Int))),((⟨#[]⟩:ByteArray),((0:Int),(0:Int)))))).2.2.1 == ByteArray.toList (⟨#[]⟩:ByteArray))=false) then f29 k (List.getD x0 (Int.toNat v4690) ((0:Int),(([]:(List (Int × Int))),((⟨#[]⟩:ByteArray),((0:Int),(0:Int)))))).2.1 else some default).bind fun r5119 => (if (bif (ByteArray.toList (List.getD x0 (Int.toNat v4690) ((0:Int),(([]:(List (Int × Int))),((⟨#[]⟩:ByteArray),((0:Int),(0:Int)))))).2.2.1 == ByteArray.toList (⟨#[]⟩:ByteArray)) then true else (!r5119)) then (f7.j5118 k v4690 ((f7.l2974 k x0 x1) m2974) v4689) else (f7.l5120 k x0 v4690 x1 (f7.j5118 k v4690 ((f7.l2974 k x0 x1) m2974)) k (v4689,(0:Int))))) else none) else (f7.l5566 k x1 v4689 k (([]:List ByteArray),(0:Int)))
def f7.l202 (k:Nat) (x1:Int) (x0:(List (Int × ((List (Int × Int)) × (ByteArray × (Int × Int)))))):Nat → ((List (List Int)) × Int)→Option (List ByteArray)
 | 0,_ => none
 | m202+1,(v337,v338) => if (decide (v338 < x1)) then (if (0≤x1∧Int.toNat x1*1≤140737488355328) then (f7.l386 k x1 v337 v338 ((f7.l202 k x1 x0) m202) k ((List.replicate (Int.toNat x1) (0:Int)),(0:Int))) else none) else (f7.l2974 k x0 x1 k (v337,(0:Int)))
def f7 (k:Nat) (x0:(List (Int × ((List (Int × Int)) × (ByteArray × (Int × Int)))))) (x1:Int):Option (List ByteArray):=if (bif (bif (decide (x1 < (1:Int))) then true else (decide (x1 > (256:Int)))) then true else (decide (((List.length x0:Int):Int) > (2000:Int)))) then (some ([]:List ByteArray)) else (f7.l202 k x1 x0 k (([]:List (List Int)),(0:Int)))
theorem c7 (k:Nat) (x0:(List (Int × ((List (Int × Int)) × (ByteArray × (Int × Int)))))) (x1:Int) (r:(List ByteArray)) (hF:f7 k x0 x1=some r):PCall Try.prog 7 [⟨sh7,x0⟩,⟨iS,x1⟩] [⟨(.sl true 9 .str),r⟩]:=by
 refine pcall_intro Try.func7 rfl rfl (Nat.le_of_ble_eq_true rfl) ?_
 intro w0 Zi a w h
 rw [f7] at hF
 refine zs [0,1] h an fun a w h => ?_
 refine zs [0,1,5] h an fun a w h => ?_
 refine wp_seq ?_
 refine zs [0,1,5,30] h an fun a w h => ?_
 refine zi h hF (fun hF => ?_) (fun hF => ?_)
 ·refine zs [4,5] h an fun a w h => ?_
  cases hF
  exact wp_ret (ret_okR tok h rfl (by kernel_rfl)).1
 ·refine wp_skip ?_
  refine zs [0,1,5,6] h an fun a w h => ?_
  refine wp_seq ?_
  refine zs [0,1,5,6,7] h an fun a w h => ?_
  refine wp_block ?_
  refine wp_loop_fuel (f7.l202 k x1 x0) (fun ((v337,v338):((List (List Int)) × Int)) => [(0,.val sh7 x0),(1,.val iS x1),(5,.val (.sl true 9 .str) ([]:List ByteArray)),(6,.val sh8 v337),(7,.val iS v338)]) (fun v h => by obtain ⟨v337,v338⟩:=v; rw [f7.l202] at h; cases h) ?_ hF (ar h [0,1,5,6,7])
  intro m202 v a w hF h
  obtain ⟨v337,v338⟩:=v
  rw [f7.l202] at hF
  refine wp_seq ?_
  refine zs [0,1,5,6,7,35] h an fun a w h => ?_
  refine zi h hF (fun hF => ?_) (fun hF => ?_)
  ·refine wp_skip ?_
   refine wp_seq <| wp_block ?_
   obtain ⟨hc402,hF⟩:=of_if hF
   refine zs [0,1,5,6,7,8] h (ac hc402 an) fun a w h => ?_
   refine wp_seq ?_
   refine zs [0,1,5,6,7,8,9] h an fun a w h => ?_
   refine wp_block ?_
   refine wp_loop_fuel (f7.l386 k x1 v337 v338 ((f7.l202 k x1 x0) m202)) (fun ((v397,v398):((List Int) × Int)) => [(0,.val sh7 x0),(1,.val iS x1),(5,.val (.sl true 9 .str) ([]:List ByteArray)),(6,.val sh8 v337),(7,.val iS v338),(8,.val (.sl true 5 (.int .u8)) v397),(9,.val iS v398)]) (fun v h => by obtain ⟨v397,v398⟩:=v; rw [f7.l386] at h; cases h) ?_ hF (ar h [0,1,5,6,7,8,9])
   intro m386 v a w hF h
   obtain ⟨v397,v398⟩:=v
   rw [f7.l386] at hF
   refine wp_seq ?_
   refine zs [0,1,5,6,7,8,9,42] h an fun a w h => ?_
   refine zi h hF (fun hF => ?_) (fun hF => ?_)
   ·refine wp_skip ?_
    refine wp_seq <| wp_block ?_
    obtain ⟨hc400,hF⟩:=of_if hF
    refine zt [0,1,5,6,7,8,9] h (ac hc400 an) fun a w h => ?_
    refine zt [0,1,5,6,7,8,9] h an fun a w h => ?_
    exact ⟨((List.set v397 (tZ v398) (32:Int)),(w64 (v398 + (1:Int)))),hF,ar h [0,1,5,6,7,8,9]⟩
   ·refine wp_exit ?_
    obtain ⟨hc401,hF⟩:=of_if hF
    refine zt [0,1,5,6,7] h (ac hc401 an) fun a w h => ?_
    refine zt [0,1,5,6,7] h an fun a w h => ?_
    exact ⟨((v337 ++ [v397]),(w64 (v338 + (1:Int)))),hF,ar h [0,1,5,6,7]⟩
  ·refine wp_exit ?_
   refine wp_seq ?_
   refine zs [0,1,5,6,10] h an fun a w h => ?_
   refine wp_block ?_
   refine wp_loop_fuel (f7.l2974 k x0 x1) (fun ((v4689,v4690):((List (List Int)) × Int)) => [(0,.val sh7 x0),(1,.val iS x1),(5,.val (.sl true 9 .str) ([]:List ByteArray)),(6,.val sh8 v4689),(10,.val iS v4690)]) (fun v h => by obtain ⟨v4689,v4690⟩:=v; rw [f7.l2974] at h; cases h) ?_ hF (ar h [0,1,5,6,10])
   intro m2974 v a w hF h
   obtain ⟨v4689,v4690⟩:=v
   rw [f7.l2974] at hF
   refine wp_seq ?_
   refine zs [0,1,5,6,10,55] h an fun a w h => ?_
   refine zi h hF (fun hF => ?_) (fun hF => ?_)
   ·refine wp_skip ?_
    refine wp_mid (fun a w => ∃ v:(List (List Int)),f7.j5118 k v4690 ((f7.l2974 k x0 x1) m2974) v=some r∧Rel w0 (fun _ => False) Zi Try.f7.ntmps ((fun (v5117:(List (List Int))) => ([(0,.val sh7 x0),(1,.val iS x1),(5,.val (.sl true 9 .str) ([]:List ByteArray)),(6,.val sh8 v5117),(10,.val iS v4690)]:SS)) v) a w) ?_ ?_
    ·
     refine wp_block ?_
     obtain ⟨hc5544,hF⟩:=of_if hF
     refine zs [0,1,5,6,10,11] h (ac hc5544 an) fun a w h => ?_
     refine wp_seq ?_
     obtain ⟨r5119,hr5543,hF⟩:=of_bind hF
     refine zc (orcL [(68,[⟨.bool,r5119⟩])]) [0,1,5,6,10,11,70] h (ac (fun (hg:((ByteArray.toList (gD x0 (tZ v4690) (iO,(([]:(List (Int × Int))),((⟨#[]⟩:ByteArray),(iO,iO))))).2.2.1 == ByteArray.toList (⟨#[]⟩:ByteArray))=false)) => c29 k (gD x0 (tZ v4690) (iO,(([]:(List (Int × Int))),((⟨#[]⟩:ByteArray),(iO,iO))))).2.1 r5119 (of_g hg hr5543)) an) fun a w h => ?_
     refine zi h hF (fun hF => ?_) (fun hF => ?_)
     ·refine wp_exit ?_
      exact ⟨v4689,hF,ar h [0,1,5,6,10]⟩
     ·refine wp_skip ?_
      refine zs [0,1,5,6,10,11,12] h an fun a w h => ?_
      refine wp_block ?_
      refine wp_loop_fuel (f7.l5120 k x0 v4690 x1 (f7.j5118 k v4690 ((f7.l2974 k x0 x1) m2974))) (fun ((v5403,v5404):((List (List Int)) × Int)) => [(0,.val sh7 x0),(1,.val iS x1),(5,.val (.sl true 9 .str) ([]:List ByteArray)),(6,.val sh8 v5403),(10,.val iS v4690),(11,.val sh10 (some (gD x0 (tZ v4690) (iO,(([]:(List (Int × Int))),((⟨#[]⟩:ByteArray),(iO,iO))))))),(12,.val iS v5404)]) (fun v h => by obtain ⟨v5403,v5404⟩:=v; rw [f7.l5120] at h; cases h) ?_ hF (ar h [0,1,5,6,10,11,12])
      intro m5120 v a w hF h
      obtain ⟨v5403,v5404⟩:=v
      rw [f7.l5120] at hF
      refine wp_seq ?_
      refine zs [0,1,5,6,10,11,12,75] h an fun a w h => ?_
      refine zi h hF (fun hF => ?_) (fun hF => ?_)
      ·refine wp_skip ?_
       refine wp_mid (fun a w => ∃ v:(List (List Int)),f7.j5474 k v5404 ((f7.l5120 k x0 v4690 x1 (f7.j5118 k v4690 ((f7.l2974 k x0 x1) m2974))) m5120) v=some r∧Rel w0 (fun _ => False) Zi Try.f7.ntmps ((fun (v5473:(List (List Int))) => ([(0,.val sh7 x0),(1,.val iS x1),(5,.val (.sl true 9 .str) ([]:List ByteArray)),(6,.val sh8 v5473),(10,.val iS v4690),(11,.val sh10 (some (gD x0 (tZ v4690) (iO,(([]:(List (Int × Int))),((⟨#[]⟩:ByteArray),(iO,iO))))))),(12,.val iS v5404)]:SS)) v) a w) ?_ ?_
       ·
        refine wp_block ?_
        obtain ⟨hc5540,hF⟩:=of_if hF
        obtain ⟨hc5541,hF⟩:=of_if hF
        obtain ⟨r5475,hr5542,hF⟩:=of_bind hF
        refine wp_regy_seq tok (orc:=orcL [(88,[⟨.pt false 4294967295 (.sl true 39 (.sl true 5 (.int .u8))),some r5475⟩])]) (l:=[0,1,5,6,10,11,12]) ([],[],[],[]) 10 nw h (by kernel_rfl) (by kernel_rfl) (ac hc5540 (ac hc5541 (ac (c30 k v5403 (gD (gD x0 (tZ v4690) (iO,(([]:(List (Int × Int))),((⟨#[]⟩:ByteArray),(iO,iO))))).2.1 (tZ v5404) (iO,iO)) x1 (byteAt (gD x0 (tZ v4690) (iO,(([]:(List (Int × Int))),((⟨#[]⟩:ByteArray),(iO,iO))))).2.2.1 iO) r5475 hr5542) an))) fun a w h => ?_
        refine wp_seq ?_
        refine zs [0,1,5,6,10,11,12,90] h an fun a w h => ?_
        refine zi h hF (fun hF => ?_) (fun hF => ?_)
        ·refine wp_exit ?_
         exact ⟨r5475,hF,ar h [0,1,5,6,10,11,12]⟩
        ·refine wp_skip ?_
         obtain ⟨hc5539,hF⟩:=of_if hF
         refine zs [0,1,5,6,10,11,12,13] h (ac hc5539 an) fun a w h => ?_
         obtain ⟨hc5538,hF⟩:=of_if hF
         refine wp_regy_seq tok (orc:=o0) (l:=[0,1,5,6,10,11,12,13,14]) ([],[],[],[]) 10 nw h (by kernel_rfl) (by kernel_rfl) (ac hc5538 an) fun a w h => ?_
         obtain ⟨hc5537,hF⟩:=of_if hF
         refine wp_regy_seq tok (orc:=o0) (l:=[0,1,5,6,10,11,12,13,14,15]) ([],[],[],[]) 10 nw h (by kernel_rfl) (by kernel_rfl) (ac hc5537 an) fun a w h => ?_
         obtain ⟨r5476,hr5536,hF⟩:=of_bind hF
         refine zc (orcL [(116,[⟨iS,r5476⟩])]) [0,1,5,6,10,11,12,13,14,15,16] h (ac (c31 k (w64 ((gD (gD x0 (tZ v4690) (iO,(([]:(List (Int × Int))),((⟨#[]⟩:ByteArray),(iO,iO))))).2.1 (tZ v5404) (iO,iO)).1 - (gD (gD x0 (tZ v4690) (iO,(([]:(List (Int × Int))),((⟨#[]⟩:ByteArray),(iO,iO))))).2.1 (tZ (w64 (v5404 - (1:Int)))) (iO,iO)).1)) r5476 hr5536) an) fun a w h => ?_
         refine wp_seq ?_
         obtain ⟨r5477,hr5535,hF⟩:=of_bind hF
         refine zc (orcL [(118,[⟨iS,r5477⟩])]) [0,1,5,6,10,11,12,13,14,15,16,120] h (ac (c31 k (w64 ((gD (gD x0 (tZ v4690) (iO,(([]:(List (Int × Int))),((⟨#[]⟩:ByteArray),(iO,iO))))).2.1 (tZ v5404) (iO,iO)).2 - (gD (gD x0 (tZ v4690) (iO,(([]:(List (Int × Int))),((⟨#[]⟩:ByteArray),(iO,iO))))).2.1 (tZ (w64 (v5404 - (1:Int)))) (iO,iO)).2)) r5477 hr5535) an) fun a w h => ?_
         refine wp_midT (fun a w => ∃ v:Int,f7.j5481 k x0 v4690 v5404 x1 r5475 (f7.j5474 k v5404 ((f7.l5120 k x0 v4690 x1 (f7.j5118 k v4690 ((f7.l2974 k x0 x1) m2974))) m5120)) v=some r∧Rel w0 (fun _ => False) Zi Try.f7.ntmps ((fun v5480 => ([(0,.val sh7 x0),(1,.val iS x1),(5,.val (.sl true 9 .str) ([]:List ByteArray)),(6,.val sh8 r5475),(10,.val iS v4690),(11,.val sh10 (some (gD x0 (tZ v4690) (iO,(([]:(List (Int × Int))),((⟨#[]⟩:ByteArray),(iO,iO))))))),(12,.val iS v5404),(13,.val sh11 (some (gD (gD x0 (tZ v4690) (iO,(([]:(List (Int × Int))),((⟨#[]⟩:ByteArray),(iO,iO))))).2.1 (tZ (w64 (v5404 - (1:Int)))) (iO,iO)))),(14,.val iS (w64 ((gD (gD x0 (tZ v4690) (iO,(([]:(List (Int × Int))),((⟨#[]⟩:ByteArray),(iO,iO))))).2.1 (tZ v5404) (iO,iO)).1 - (gD (gD x0 (tZ v4690) (iO,(([]:(List (Int × Int))),((⟨#[]⟩:ByteArray),(iO,iO))))).2.1 (tZ (w64 (v5404 - (1:Int)))) (iO,iO)).1))),(15,.val iS (w64 ((gD (gD x0 (tZ v4690) (iO,(([]:(List (Int × Int))),((⟨#[]⟩:ByteArray),(iO,iO))))).2.1 (tZ v5404) (iO,iO)).2 - (gD (gD x0 (tZ v4690) (iO,(([]:(List (Int × Int))),((⟨#[]⟩:ByteArray),(iO,iO))))).2.1 (tZ (w64 (v5404 - (1:Int)))) (iO,iO)).2))),(16,.val iS v5480)]:SS)) v) a w) ?_ ?_
         ·
          refine zi h hF (fun hF => ?_) (fun hF => ?_)
          ·obtain ⟨r5533,hr5534,hF⟩:=of_bind hF
           refine zd (orcL [(122,[⟨iS,r5533⟩])]) [0,1,5,6,10,11,12,13,14,15,16] h (ac (c31 k (w64 ((gD (gD x0 (tZ v4690) (iO,(([]:(List (Int × Int))),((⟨#[]⟩:ByteArray),(iO,iO))))).2.1 (tZ v5404) (iO,iO)).2 - (gD (gD x0 (tZ v4690) (iO,(([]:(List (Int × Int))),((⟨#[]⟩:ByteArray),(iO,iO))))).2.1 (tZ (w64 (v5404 - (1:Int)))) (iO,iO)).2)) r5533 hr5534) an) fun a w h => ?_
           exact ⟨r5533,hF,ar h [0,1,5,6,10,11,12,13,14,15,16]⟩
          ·refine wp_skip ?_
           exact ⟨r5476,hF,ar h [0,1,5,6,10,11,12,13,14,15,16]⟩
         ·rintro a w ⟨v5480,hF,h⟩
          rw [f7.j5481] at hF
          refine zs [0,1,5,6,10,11,12,13,14,15,16,17] h an fun a w h => ?_
          refine wp_block ?_
          refine wp_loop_fuel (f7.l5482 k v5480 x0 v4690 v5404 x1 (f7.j5474 k v5404 ((f7.l5120 k x0 v4690 x1 (f7.j5118 k v4690 ((f7.l2974 k x0 x1) m2974))) m5120))) (fun ((v5517,v5518):((List (List Int)) × Int)) => [(0,.val sh7 x0),(1,.val iS x1),(5,.val (.sl true 9 .str) ([]:List ByteArray)),(6,.val sh8 v5517),(10,.val iS v4690),(11,.val sh10 (some (gD x0 (tZ v4690) (iO,(([]:(List (Int × Int))),((⟨#[]⟩:ByteArray),(iO,iO))))))),(12,.val iS v5404),(13,.val sh11 (some (gD (gD x0 (tZ v4690) (iO,(([]:(List (Int × Int))),((⟨#[]⟩:ByteArray),(iO,iO))))).2.1 (tZ (w64 (v5404 - (1:Int)))) (iO,iO)))),(14,.val iS (w64 ((gD (gD x0 (tZ v4690) (iO,(([]:(List (Int × Int))),((⟨#[]⟩:ByteArray),(iO,iO))))).2.1 (tZ v5404) (iO,iO)).1 - (gD (gD x0 (tZ v4690) (iO,(([]:(List (Int × Int))),((⟨#[]⟩:ByteArray),(iO,iO))))).2.1 (tZ (w64 (v5404 - (1:Int)))) (iO,iO)).1))),(15,.val iS (w64 ((gD (gD x0 (tZ v4690) (iO,(([]:(List (Int × Int))),((⟨#[]⟩:ByteArray),(iO,iO))))).2.1 (tZ v5404) (iO,iO)).2 - (gD (gD x0 (tZ v4690) (iO,(([]:(List (Int × Int))),((⟨#[]⟩:ByteArray),(iO,iO))))).2.1 (tZ (w64 (v5404 - (1:Int)))) (iO,iO)).2))),(16,.val iS v5480),(17,.val iS v5518)]) (fun v h => by obtain ⟨v5517,v5518⟩:=v; rw [f7.l5482] at h; cases h) ?_ hF (ar h [0,1,5,6,10,11,12,13,14,15,16,17])
          intro m5482 v a w hF h
          obtain ⟨v5517,v5518⟩:=v
          rw [f7.l5482] at hF
          refine wp_seq ?_
          refine zs [0,1,5,6,10,11,12,13,14,15,16,17,125] h an fun a w h => ?_
          refine zi h hF (fun hF => ?_) (fun hF => ?_)
          ·refine wp_skip ?_
           refine wp_seq <| wp_block ?_
           obtain ⟨r5526,hr5529,hF⟩:=of_bind hF
           obtain ⟨r5527,hr5530,hF⟩:=of_bind hF
           obtain ⟨hc5531,hF⟩:=of_if hF
           obtain ⟨r5528,hr5532,hF⟩:=of_bind hF
           refine wp_regy tok (orc:=orcL [(135,[⟨iS,r5526⟩]),(143,[⟨iS,r5527⟩]),(150,[⟨.pt false 4294967295 (.sl true 39 (.sl true 5 (.int .u8))),some r5528⟩])]) (l:=[0,1,5,6,10,11,12,13,14,15,16,17]) ([],[],[],[]) 22 nw h (by kernel_rfl) (by kernel_rfl) (ac (c32 k (w64 ((w64 ((gD (gD x0 (tZ v4690) (iO,(([]:(List (Int × Int))),((⟨#[]⟩:ByteArray),(iO,iO))))).2.1 (tZ v5404) (iO,iO)).1 - (gD (gD x0 (tZ v4690) (iO,(([]:(List (Int × Int))),((⟨#[]⟩:ByteArray),(iO,iO))))).2.1 (tZ (w64 (v5404 - (1:Int)))) (iO,iO)).1))*v5518)) v5480 r5526 hr5529) (ac (c32 k (w64 ((w64 ((gD (gD x0 (tZ v4690) (iO,(([]:(List (Int × Int))),((⟨#[]⟩:ByteArray),(iO,iO))))).2.1 (tZ v5404) (iO,iO)).2 - (gD (gD x0 (tZ v4690) (iO,(([]:(List (Int × Int))),((⟨#[]⟩:ByteArray),(iO,iO))))).2.1 (tZ (w64 (v5404 - (1:Int)))) (iO,iO)).2))*v5518)) v5480 r5527 hr5530) (ac hc5531 (ac (c30 k v5517 ((w64 ((gD (gD x0 (tZ v4690) (iO,(([]:(List (Int × Int))),((⟨#[]⟩:ByteArray),(iO,iO))))).2.1 (tZ (w64 (v5404 - (1:Int)))) (iO,iO)).1+r5526)),(w64 ((gD (gD x0 (tZ v4690) (iO,(([]:(List (Int × Int))),((⟨#[]⟩:ByteArray),(iO,iO))))).2.1 (tZ (w64 (v5404 - (1:Int)))) (iO,iO)).2+r5527))) x1 (byteAt (gD x0 (tZ v4690) (iO,(([]:(List (Int × Int))),((⟨#[]⟩:ByteArray),(iO,iO))))).2.2.1 iO) r5528 hr5532) an)))) fun a w h => ?_
           refine zt [0,1,5,6,10,11,12,13,14,15,16,17] h an fun a w h => ?_
           exact ⟨(r5528,(w64 (v5518 + (1:Int)))),hF,ar h [0,1,5,6,10,11,12,13,14,15,16,17]⟩
          ·refine wp_exit ?_
           exact ⟨v5517,hF,ar h [0,1,5,6,10,11,12]⟩
       ·rintro a w ⟨v5473,hF,h⟩
        rw [f7.j5474] at hF
        refine zt [0,1,5,6,10,11,12] h an fun a w h => ?_
        exact ⟨(v5473,(w64 (v5404 + (1:Int)))),hF,ar h [0,1,5,6,10,11,12]⟩
      ·refine wp_exit ?_
       exact ⟨v5403,hF,ar h [0,1,5,6,10]⟩
    ·rintro a w ⟨v5117,hF,h⟩
     rw [f7.j5118] at hF
     refine zt [0,1,5,6,10] h an fun a w h => ?_
     exact ⟨(v5117,(w64 (v4690 + (1:Int)))),hF,ar h [0,1,5,6,10]⟩
   ·refine wp_exit ?_
    refine wp_seq ?_
    refine zs [1,5,6,18] h an fun a w h => ?_
    refine wp_block ?_
    refine wp_loop_fuel (f7.l5566 k x1 v4689) (fun ((v5581,v5582):((List ByteArray) × Int)) => [(1,.val iS x1),(5,.val (.sl true 9 .str) v5581),(6,.val sh8 v4689),(18,.val iS v5582)]) (fun v h => by obtain ⟨v5581,v5582⟩:=v; rw [f7.l5566] at h; cases h) ?_ hF (ar h [1,5,6,18])
    intro m5566 v a w hF h
    obtain ⟨v5581,v5582⟩:=v
    rw [f7.l5566] at hF
    refine wp_seq ?_
    refine zs [1,5,6,18,153] h an fun a w h => ?_
    refine zi h hF (fun hF => ?_) (fun hF => ?_)
    ·refine wp_skip ?_
     refine wp_seq <| wp_block ?_
     obtain ⟨hc5585,hF⟩:=of_if hF
     obtain ⟨hc5586,hF⟩:=of_if hF
     refine zt [1,5,6,18] h (ac hc5585 (ac hc5586 an)) fun a w h => ?_
     refine zt [1,5,6,18] h an fun a w h => ?_
     exact ⟨((v5581 ++ [(strOfNums (gD v4689 (tZ v5582) lO))]),(w64 (v5582 + (1:Int)))),hF,ar h [1,5,6,18]⟩
    ·refine wp_exit ?_
     refine zs [4,5] h an fun a w h => ?_
     cases hF
     exact wp_ret (ret_okR tok h rfl (by kernel_rfl)).1
def f35 (k:Nat) (x0:Int) (x1:Int) (x2_0:(Int × ((List (Int × Int)) × (ByteArray × (Int × Int))))) (x3_0:(List (List Int))) (x4_0:Int):Option (List (List Int)):=if (((4097:Int):Int)≠0) then (if (0 ≤ (IntKind.i64.wrap ((IntKind.i64.wrap (x4_0 - (1:Int))) - (IntKind.i64.wrap (Int.tdiv (IntKind.i64.wrap (x1*x4_0)) (4097:Int))))) ∧ (IntKind.i64.wrap ((IntKind.i64.wrap (x4_0 - (1:Int))) - (IntKind.i64.wrap (Int.tdiv (IntKind.i64.wrap (x1*x4_0)) (4097:Int))))) < (List.length x3_0:Int)) then (if (((4097:Int):Int)≠0) then (if ((0:Int) ≤ (0:Int) ∧ ((0:Int):Int) < (ByteArray.size x2_0.2.2.1:Int)) then (if (0 ≤ (IntKind.i64.wrap (Int.tdiv (IntKind.i64.wrap (x0*x4_0)) (4097:Int))) ∧ (IntKind.i64.wrap (Int.tdiv (IntKind.i64.wrap (x0*x4_0)) (4097:Int))) < (List.length (List.getD x3_0 (Int.toNat (IntKind.i64.wrap ((IntKind.i64.wrap (x4_0 - (1:Int))) - (IntKind.i64.wrap (Int.tdiv (IntKind.i64.wrap (x1*x4_0)) (4097:Int)))))) ([]:(List Int))):Int)) then (some (List.set x3_0 (Int.toNat (IntKind.i64.wrap ((IntKind.i64.wrap (x4_0 - (1:Int))) - (IntKind.i64.wrap (Int.tdiv (IntKind.i64.wrap (x1*x4_0)) (4097:Int)))))) (List.set (List.getD x3_0 (Int.toNat (IntKind.i64.wrap ((IntKind.i64.wrap (x4_0 - (1:Int))) - (IntKind.i64.wrap (Int.tdiv (IntKind.i64.wrap (x1*x4_0)) (4097:Int)))))) ([]:(List Int))) (Int.toNat (IntKind.i64.wrap (Int.tdiv (IntKind.i64.wrap (x0*x4_0)) (4097:Int)))) (byteAt x2_0.2.2.1 (0:Int))))) else none) else none) else none) else none) else none
theorem c35 (k:Nat) (x0:Int) (x1:Int) (x2_0:(Int × ((List (Int × Int)) × (ByteArray × (Int × Int))))) (x3_0:(List (List Int))) (x4_0:Int) (r:(List (List Int))) (hF:f35 k x0 x1 x2_0 x3_0 x4_0=some r):PMut Try.prog 35 [⟨iS,x0⟩,⟨iS,x1⟩,⟨sh13,(some x2_0)⟩,⟨sh12,(some x3_0)⟩,⟨(.pt false 0 iS),(some x4_0)⟩] [] (List.set [⟨iS,x0⟩,⟨iS,x1⟩,⟨sh13,(some x2_0)⟩,⟨sh12,(some x3_0)⟩,⟨(.pt false 0 iS),(some x4_0)⟩] 3 ⟨sh12,some r⟩):=by
 refine pmut_intro (j:=3) (fin:=⟨sh12,some r⟩) Try.func35 rfl rfl (Nat.le_of_ble_eq_true rfl) (Nat.le_of_ble_eq_true rfl) (by kernel_rfl) ?_
 intro w0 Zi f0 v0 a w h
 rw [f35] at hF
 obtain ⟨hc1,hF⟩:=of_if hF
 obtain ⟨hc2,hF⟩:=of_if hF
 obtain ⟨hc3,hF⟩:=of_if hF
 obtain ⟨hc4,hF⟩:=of_if hF
 obtain ⟨hc5,hF⟩:=of_if hF
 refine wp_regy tok (orc:=o0) (fz:=[]) (l:=[3]) ([],[],[],[]) 18 (.inl rfl) h (by kernel_rfl) (by kernel_rfl) (ac hc1 (ac hc2 (ac hc3 (ac hc4 (ac hc5 an))))) fun a w h => ?_
 cases hF
 exact (retM_ok tok h rfl (by kernel_rfl) (by kernel_rfl)).2
def f36 (k:Nat) (x0:Int):Option Int:=if (decide (x0 < (0:Int))) then (some (IntKind.i64.wrap (0 - x0))) else (some x0)
theorem c36 (k:Nat) (x0:Int) (r:Int) (hF:f36 k x0=some r):PCall Try.prog 36 [⟨iS,x0⟩] [⟨iS,r⟩]:=by
 refine pcall_intro Try.func36 rfl rfl (Nat.le_of_ble_eq_true rfl) ?_
 intro w0 Zi a w h
 rw [f36] at hF
 refine zs [0] h an fun a w h => ?_
 refine wp_seq ?_
 refine zs [0,4] h an fun a w h => ?_
 refine zi h hF (fun hF => ?_) (fun hF => ?_)
 ·refine zs [2] h an fun a w h => ?_
  cases hF
  exact wp_ret (ret_okR tok h rfl (by kernel_rfl)).1
 ·refine wp_skip ?_
  refine zs [2] h an fun a w h => ?_
  cases hF
  exact wp_ret (ret_okR tok h rfl (by kernel_rfl)).1
def f37.j2 (k:Nat):Int→Option Int
 | v1 => some v1
def f37 (k:Nat) (x0:Int) (x1:Int):Option Int:=if (x1≠0) then (if (x1≠0) then (if (bif (((Int.tmod x0 x1):Int) != (0:Int)) then (!(((decide (x0 < (0:Int))):Bool) == (decide (x1 < (0:Int))))) else false) then (f37.j2 k (IntKind.i64.wrap ((IntKind.i64.wrap (Int.tdiv x0 x1)) - (1:Int)))) else (f37.j2 k (IntKind.i64.wrap (Int.tdiv x0 x1)))) else none) else none
theorem c37 (k:Nat) (x0:Int) (x1:Int) (r:Int) (hF:f37 k x0 x1=some r):PCall Try.prog 37 [⟨iS,x0⟩,⟨iS,x1⟩] [⟨iS,r⟩]:=by
 refine pcall_intro Try.func37 rfl rfl (Nat.le_of_ble_eq_true rfl) ?_
 intro w0 Zi a w h
 rw [f37] at hF
 refine zs [0,1] h an fun a w h => ?_
 obtain ⟨hc4,hF⟩:=of_if hF
 refine zs [0,1,5] h (ac hc4 an) fun a w h => ?_
 refine wp_seq ?_
 obtain ⟨hc3,hF⟩:=of_if hF
 refine zs [5,19] h (ac hc3 an) fun a w h => ?_
 refine wp_midT (fun a w => ∃ v:Int,f37.j2 k v=some r∧Rel w0 (fun _ => False) Zi Try.f37.ntmps ((fun v1 => ([(5,.val iS v1)]:SS)) v) a w) ?_ ?_
 ·
  refine zi h hF (fun hF => ?_) (fun hF => ?_)
  ·refine zt [5] h an fun a w h => ?_
   exact ⟨(w64 ((w64 (Int.tdiv x0 x1)) - (1:Int))),hF,ar h [5]⟩
  ·refine wp_skip ?_
   exact ⟨(w64 (Int.tdiv x0 x1)),hF,ar h [5]⟩
 ·rintro a w ⟨v1,hF,h⟩
  rw [f37.j2] at hF
  refine zs [4] h an fun a w h => ?_
  cases hF
  exact wp_ret (ret_okR tok h rfl (by kernel_rfl)).1
def f9.j4364 (k:Nat) (v3974:Int) (q2410:((List (List Int)) × Int)→Option (List ByteArray)):(List (List Int))→Option (List ByteArray)
 | v4363 => q2410 (v4363,(IntKind.i64.wrap (v3974 + (1:Int))))
def f9.j4698 (k:Nat) (v4643:Int) (q4419:((List (List Int)) × Int)→Option (List ByteArray)):(List (List Int))→Option (List ByteArray)
 | v4697 => q4419 (v4697,(IntKind.i64.wrap (v4643 + (1:Int))))
def f9.l4702 (k:Nat) (r4701:Int) (r4700:Int) (x0:(List (Int × ((List (Int × Int)) × (ByteArray × (Int × Int)))))) (v3974:Int) (v4643:Int) (x1:Int) (q4698:(List (List Int))→Option (List ByteArray)):Nat → ((List (List Int)) × Int)→Option (List ByteArray)
 | 0,_ => none
 | m4702+1,(v4733,v4734) => if (decide (v4734 < (if r4701 > r4700 then r4701 else r4700))) then ((f37 k (IntKind.i64.wrap (v4734 * (IntKind.i64.wrap ((List.getD (List.getD x0 (Int.toNat v3974) ((0:Int),(([]:(List (Int × Int))),((⟨#[]⟩:ByteArray),((0:Int),(0:Int)))))).2.1 (Int.toNat v4643) ((0:Int),(0:Int))).1 - (List.getD (List.getD x0 (Int.toNat v3974) ((0:Int),(([]:(List (Int × Int))),((⟨#[]⟩:ByteArray),((0:Int),(0:Int)))))).2.1 (Int.toNat (IntKind.i64.wrap (v4643 - (1:Int)))) ((0:Int),(0:Int))).1)))) (if r4701 > r4700 then r4701 else r4700)).bind fun r4741 => ((f37 k (IntKind.i64.wrap (v4734 * (IntKind.i64.wrap ((List.getD (List.getD x0 (Int.toNat v3974) ((0:Int),(([]:(List (Int × Int))),((⟨#[]⟩:ByteArray),((0:Int),(0:Int)))))).2.1 (Int.toNat v4643) ((0:Int),(0:Int))).2 - (List.getD (List.getD x0 (Int.toNat v3974) ((0:Int),(([]:(List (Int × Int))),((⟨#[]⟩:ByteArray),((0:Int),(0:Int)))))).2.1 (Int.toNat (IntKind.i64.wrap (v4643 - (1:Int)))) ((0:Int),(0:Int))).2)))) (if r4701 > r4700 then r4701 else r4700)).bind fun r4742 => ((f35 k (IntKind.i64.wrap ((List.getD (List.getD x0 (Int.toNat v3974) ((0:Int),(([]:(List (Int × Int))),((⟨#[]⟩:ByteArray),((0:Int),(0:Int)))))).2.1 (Int.toNat (IntKind.i64.wrap (v4643 - (1:Int)))) ((0:Int),(0:Int))).1+r4741)) (IntKind.i64.wrap ((List.getD (List.getD x0 (Int.toNat v3974) ((0:Int),(([]:(List (Int × Int))),((⟨#[]⟩:ByteArray),((0:Int),(0:Int)))))).2.1 (Int.toNat (IntKind.i64.wrap (v4643 - (1:Int)))) ((0:Int),(0:Int))).2+r4742)) (List.getD x0 (Int.toNat v3974) ((0:Int),(([]:(List (Int × Int))),((⟨#[]⟩:ByteArray),((0:Int),(0:Int)))))) v4733 x1).bind fun r4743 => ((f9.l4702 k r4701 r4700 x0 v3974 v4643 x1 q4698) m4702 (r4743,(IntKind.i64.wrap (v4734 + (1:Int)))))))) else (q4698 v4733)
def f9.l4419 (k:Nat) (x0:(List (Int × ((List (Int × Int)) × (ByteArray × (Int × Int)))))) (v3974:Int) (x1:Int) (q4364:(List (List Int))→Option (List ByteArray)):Nat → ((List (List Int)) × Int)→Option (List ByteArray)
 | 0,_ => none
 | m4419+1,(v4642,v4643) => if (decide (v4643 < (List.length (List.getD x0 (Int.toNat v3974) ((0:Int),(([]:(List (Int × Int))),((⟨#[]⟩:ByteArray),((0:Int),(0:Int)))))).2.1:Int))) then (if (0≤v4643∧v4643 < (List.length (List.getD x0 (Int.toNat v3974) ((0:Int),(([]:(List (Int × Int))),((⟨#[]⟩:ByteArray),((0:Int),(0:Int)))))).2.1:Int)) then ((f35 k (List.getD (List.getD x0 (Int.toNat v3974) ((0:Int),(([]:(List (Int × Int))),((⟨#[]⟩:ByteArray),((0:Int),(0:Int)))))).2.1 (Int.toNat v4643) ((0:Int),(0:Int))).1 (List.getD (List.getD x0 (Int.toNat v3974) ((0:Int),(([]:(List (Int × Int))),((⟨#[]⟩:ByteArray),((0:Int),(0:Int)))))).2.1 (Int.toNat v4643) ((0:Int),(0:Int))).2 (List.getD x0 (Int.toNat v3974) ((0:Int),(([]:(List (Int × Int))),((⟨#[]⟩:ByteArray),((0:Int),(0:Int)))))) v4642 x1).bind fun r4699 => (if (v4643 == (0:Int)) then (f9.j4698 k v4643 ((f9.l4419 k x0 v3974 x1 q4364) m4419) r4699) else (if (0 ≤ (IntKind.i64.wrap (v4643 - (1:Int))) ∧ (IntKind.i64.wrap (v4643 - (1:Int))) < (List.length (List.getD x0 (Int.toNat v3974) ((0:Int),(([]:(List (Int × Int))),((⟨#[]⟩:ByteArray),((0:Int),(0:Int)))))).2.1:Int)) then ((f36 k (IntKind.i64.wrap ((List.getD (List.getD x0 (Int.toNat v3974) ((0:Int),(([]:(List (Int × Int))),((⟨#[]⟩:ByteArray),((0:Int),(0:Int)))))).2.1 (Int.toNat v4643) ((0:Int),(0:Int))).1 - (List.getD (List.getD x0 (Int.toNat v3974) ((0:Int),(([]:(List (Int × Int))),((⟨#[]⟩:ByteArray),((0:Int),(0:Int)))))).2.1 (Int.toNat (IntKind.i64.wrap (v4643 - (1:Int)))) ((0:Int),(0:Int))).1))).bind fun r4700 => ((f36 k (IntKind.i64.wrap ((List.getD (List.getD x0 (Int.toNat v3974) ((0:Int),(([]:(List (Int × Int))),((⟨#[]⟩:ByteArray),((0:Int),(0:Int)))))).2.1 (Int.toNat v4643) ((0:Int),(0:Int))).2 - (List.getD (List.getD x0 (Int.toNat v3974) ((0:Int),(([]:(List (Int × Int))),((⟨#[]⟩:ByteArray),((0:Int),(0:Int)))))).2.1 (Int.toNat (IntKind.i64.wrap (v4643 - (1:Int)))) ((0:Int),(0:Int))).2))).bind fun r4701 => (f9.l4702 k r4701 r4700 x0 v3974 v4643 x1 (f9.j4698 k v4643 ((f9.l4419 k x0 v3974 x1 q4364) m4419)) k (r4699,(1:Int))))) else none))) else none) else (q4364 v4642)
def f9.l4392 (k:Nat) (x0:(List (Int × ((List (Int × Int)) × (ByteArray × (Int × Int)))))) (v3974:Int) (v3973:(List (List Int))) (x1:Int) (q4364:(List (List Int))→Option (List ByteArray)):Nat → (Bool × Int)→Option (List ByteArray)
 | 0,_ => none
 | m4392+1,(v4411,v4412) => if (decide (v4412 < (List.length (List.getD x0 (Int.toNat v3974) ((0:Int),(([]:(List (Int × Int))),((⟨#[]⟩:ByteArray),((0:Int),(0:Int)))))).2.1:Int))) then (if (0≤v4412∧v4412 < (List.length (List.getD x0 (Int.toNat v3974) ((0:Int),(([]:(List (Int × Int))),((⟨#[]⟩:ByteArray),((0:Int),(0:Int)))))).2.1:Int)) then ((some ((bif (bif (bif (bif v4411 then (decide (((List.getD (List.getD x0 (Int.toNat v3974) ((0:Int),(([]:(List (Int × Int))),((⟨#[]⟩:ByteArray),((0:Int),(0:Int)))))).2.1 (Int.toNat v4412) ((0:Int),(0:Int))).1:Int) ≥ (0:Int))) else false) then (decide (((List.getD (List.getD x0 (Int.toNat v3974) ((0:Int),(([]:(List (Int × Int))),((⟨#[]⟩:ByteArray),((0:Int),(0:Int)))))).2.1 (Int.toNat v4412) ((0:Int),(0:Int))).1:Int) ≤ (4096:Int))) else false) then (decide (((List.getD (List.getD x0 (Int.toNat v3974) ((0:Int),(([]:(List (Int × Int))),((⟨#[]⟩:ByteArray),((0:Int),(0:Int)))))).2.1 (Int.toNat v4412) ((0:Int),(0:Int))).2:Int) ≥ (0:Int))) else false) then (decide (((List.getD (List.getD x0 (Int.toNat v3974) ((0:Int),(([]:(List (Int × Int))),((⟨#[]⟩:ByteArray),((0:Int),(0:Int)))))).2.1 (Int.toNat v4412) ((0:Int),(0:Int))).2:Int) ≤ (4096:Int))) else false):Bool)).bind fun v4416 => ((f9.l4392 k x0 v3974 v3973 x1 q4364) m4392 (v4416,(IntKind.i64.wrap (v4412 + (1:Int)))))) else none) else (if (!v4411) then (q4364 v3973) else (f9.l4419 k x0 v3974 x1 (q4364) k (v3973,(0:Int))))
def f9.l4774 (k:Nat) (v3973:(List (List Int))):Nat → ((List ByteArray) × Int)→Option (List ByteArray)
 | 0,_ => none
 | m4774+1,(v4789,v4790) => if (decide (v4790 < (List.length v3973:Int))) then (if (0≤v4790∧v4790 < (List.length v3973:Int)) then (if (0≤v4790∧v4790 < (List.length v4789:Int)) then ((f9.l4774 k v3973) m4774 ((List.set v4789 (Int.toNat v4790) (strOfNums (List.getD v3973 (Int.toNat v4790) ([]:(List Int))))),(IntKind.i64.wrap (v4790 + (1:Int))))) else none) else none) else (some v4789)
def f9.l2410 (k:Nat) (x0:(List (Int × ((List (Int × Int)) × (ByteArray × (Int × Int)))))) (x1:Int):Nat → ((List (List Int)) × Int)→Option (List ByteArray)
 | 0,_ => none
 | m2410+1,(v3973,v3974) => if (decide (v3974 < (List.length x0:Int))) then (if (0≤v3974∧v3974 < (List.length x0:Int)) then (f9.l4392 k x0 v3974 v3973 x1 (f9.j4364 k v3974 ((f9.l2410 k x0 x1) m2410)) k ((!(ByteArray.toList (List.getD x0 (Int.toNat v3974) ((0:Int),(([]:(List (Int × Int))),((⟨#[]⟩:ByteArray),((0:Int),(0:Int)))))).2.2.1 == ByteArray.toList (⟨#[]⟩:ByteArray))),(0:Int))) else none) else (if (0≤x1∧Int.toNat x1*16≤140737488355328) then (f9.l4774 k v3973 k ((List.replicate (Int.toNat x1) (⟨#[]⟩:ByteArray)),(0:Int))) else none)
def f9.l34 (k:Nat) (x1:Int) (x0:(List (Int × ((List (Int × Int)) × (ByteArray × (Int × Int)))))):Nat → ((List (List Int)) × Int)→Option (List ByteArray)
 | 0,_ => none
 | m34+1,(v57,v58) => if (decide (v58 < (List.length (List.replicate (Int.toNat x1) ([]:(List Int))):Int))) then ((f34 k (⟨#[32]⟩:ByteArray) x1).bind fun r63 => (if (ByteArray.size r63≤140737488355328) then (if (0≤v58∧v58 < (List.length v57:Int)) then ((f9.l34 k x1 x0) m34 ((List.set v57 (Int.toNat v58) (strNums r63)),(IntKind.i64.wrap (v58 + (1:Int))))) else none) else none)) else (f9.l2410 k x0 x1 k (v57,(0:Int)))
def f9 (k:Nat) (x0:(List (Int × ((List (Int × Int)) × (ByteArray × (Int × Int)))))) (x1:Int):Option (List ByteArray):=if (bif (bif (decide (x1 < (1:Int))) then true else (decide (x1 > (256:Int)))) then true else (decide (((List.length x0:Int):Int) > (2000:Int)))) then (some ([]:(List ByteArray))) else (if (0≤x1∧Int.toNat x1*24≤140737488355328) then (f9.l34 k x1 x0 k ((List.replicate (Int.toNat x1) ([]:(List Int))),(0:Int))) else none)
theorem c9 (k:Nat) (x0:(List (Int × ((List (Int × Int)) × (ByteArray × (Int × Int)))))) (x1:Int) (r:(List ByteArray)) (hF:f9 k x0 x1=some r):PCall Try.prog 9 [⟨sh7,x0⟩,⟨iS,x1⟩] [⟨(.sl true 9 .str),r⟩]:=by
 refine pcall_intro Try.func9 rfl rfl (Nat.le_of_ble_eq_true rfl) ?_
 intro w0 Zi a w h
 rw [f9] at hF
 refine zs [0,3] h an fun a w h => ?_
 refine wp_seq ?_
 refine zs [0,3,30] h an fun a w h => ?_
 refine zi h hF (fun hF => ?_) (fun hF => ?_)
 ·refine zs [4] h an fun a w h => ?_
  cases hF
  exact wp_ret (ret_okR tok h rfl (by kernel_rfl)).1
 ·refine wp_skip ?_
  obtain ⟨hc4796,hF⟩:=of_if hF
  refine zs [0,3,5] h (ac hc4796 an) fun a w h => ?_
  refine wp_seq ?_
  refine zs [0,3,5,34,35] h an fun a w h => ?_
  refine wp_block ?_
  refine wp_loop_fuel (f9.l34 k x1 x0) (fun ((v57,v58):((List (List Int)) × Int)) => [(0,.val sh7 x0),(3,.val (.pt true 2 iS) (some x1)),(5,.val sh12 (some v57)),(34,.val iS (List.length (List.replicate (tZ x1) lO):Int)),(35,.val iS v58)]) (fun v h => by obtain ⟨v57,v58⟩:=v; rw [f9.l34] at h; cases h) ?_ hF (ar h [0,3,5,34,35])
  intro m34 v a w hF h
  obtain ⟨v57,v58⟩:=v
  rw [f9.l34] at hF
  refine zs [0,3,5,34,35,36] h an fun a w h => ?_
  refine wp_seq <| zi h hF (fun hF => ?_) (fun hF => ?_)
  ·refine wp_skip ?_
   refine wp_seq <| wp_block ?_
   refine zs [0,3,5,6,34,35] h an fun a w h => ?_
   obtain ⟨r63,hr64,hF⟩:=of_bind hF
   obtain ⟨hc65,hF⟩:=of_if hF
   obtain ⟨hc66,hF⟩:=of_if hF
   refine wp_regX (sxB_ok tok [(4,.toB)] (sxA_ok tok (orc:=orcL [(41,[⟨.str,r63⟩])]) (spA:=[]) (sp:=[]))) [((0,.val sh7 x0),none,none),((3,.val (.pt true 2 iS) (some x1)),none,none),((5,.val sh12 (some v57)),none,some 6),((5,.val sh12 (some (List.set v57 (tZ v58) (strNums r63)))),some 6,none),((6,.val iS v58),none,some 6),((34,.val iS (List.length (List.replicate (tZ x1) lO):Int)),none,none),((35,.val iS v58),none,none),((38,.copy 5 [.der]),some 0,some 6),((39,.val iS v58),some 1,some 6),((40,.val iS x1),some 2,some 6),((41,.val .str r63),some 3,some 6),((42,.val (.sl true 5 (.int .u8)) (strNums r63)),some 4,some 6),((43,.addr 5 [.der,.idx (tZ v58)]),some 5,some 6)] [] [0,2,3,6,7,14,15,30,31,63,127] 127 [(3,0,1),(4,1,1),(5,2,1)] h (by kernel_rfl) (by kernel_rfl) (by kernel_rfl) (ac (c34 k (⟨#[32]⟩:ByteArray) x1 r63 hr64) (ac hc65 (ac hc66 an))) (fun _ _ _ _ _ h => h) fun a w h => ?_
   refine zt [0,3,5,34,35] h an fun a w h => ?_
   exact ⟨((List.set v57 (tZ v58) (strNums r63)),(w64 (v58 + (1:Int)))),hF,ar h [0,3,5,34,35]⟩
  ·refine wp_exit ?_
   refine wp_seq ?_
   refine zs [3,5,45,46,47] h an fun a w h => ?_
   refine wp_block ?_
   refine wp_loop_fuel (f9.l2410 k x0 x1) (fun ((v3973,v3974):((List (List Int)) × Int)) => [(3,.val (.pt true 2 iS) (some x1)),(5,.val sh12 (some v3973)),(45,.val sh7 x0),(46,.val iS (List.length x0:Int)),(47,.val iS v3974)]) (fun v h => by obtain ⟨v3973,v3974⟩:=v; rw [f9.l2410] at h; cases h) ?_ hF (ar h [3,5,45,46,47])
   intro m2410 v a w hF h
   obtain ⟨v3973,v3974⟩:=v
   rw [f9.l2410] at hF
   refine zs [3,5,45,46,47,48] h an fun a w h => ?_
   refine wp_seq <| zi h hF (fun hF => ?_) (fun hF => ?_)
   ·refine wp_skip ?_
    refine wp_mid (fun a w => ∃ v:(List (List Int)),f9.j4364 k v3974 ((f9.l2410 k x0 x1) m2410) v=some r∧Rel w0 (fun _ => False) Zi Try.f9.ntmps ((fun (v4363:(List (List Int))) => ([(3,.val (.pt true 2 iS) (some x1)),(5,.val sh12 (some v4363)),(45,.val sh7 x0),(46,.val iS (List.length x0:Int)),(47,.val iS v3974)]:SS)) v) a w) ?_ ?_
    ·
     refine wp_block ?_
     obtain ⟨hc4752,hF⟩:=of_if hF
     refine zs [3,5,8,45,46,47] h (ac hc4752 an) fun a w h => ?_
     refine zs [3,5,8,9,45,46,47] h an fun a w h => ?_
     refine wp_seq ?_
     refine zs [3,5,8,9,45,46,47,55,56,57] h an fun a w h => ?_
     refine wp_block ?_
     refine wp_loop_fuel (f9.l4392 k x0 v3974 v3973 x1 (f9.j4364 k v3974 ((f9.l2410 k x0 x1) m2410))) (fun ((v4411,v4412):(Bool × Int)) => [(3,.val (.pt true 2 iS) (some x1)),(5,.val sh12 (some v3973)),(8,.val sh10 (some (gD x0 (tZ v3974) (iO,(([]:(List (Int × Int))),((⟨#[]⟩:ByteArray),(iO,iO))))))),(9,.val .bool v4411),(45,.val sh7 x0),(46,.val iS (List.length x0:Int)),(47,.val iS v3974),(55,.val sh9 (gD x0 (tZ v3974) (iO,(([]:(List (Int × Int))),((⟨#[]⟩:ByteArray),(iO,iO))))).2.1),(56,.val iS (List.length (gD x0 (tZ v3974) (iO,(([]:(List (Int × Int))),((⟨#[]⟩:ByteArray),(iO,iO))))).2.1:Int)),(57,.val iS v4412)]) (fun v h => by obtain ⟨v4411,v4412⟩:=v; rw [f9.l4392] at h; cases h) ?_ hF (ar h [3,5,8,9,45,46,47,55,56,57])
     intro m4392 v a w hF h
     obtain ⟨v4411,v4412⟩:=v
     rw [f9.l4392] at hF
     refine zs [3,5,8,9,45,46,47,55,56,57,58] h an fun a w h => ?_
     refine wp_seq <| zi h hF (fun hF => ?_) (fun hF => ?_)
     ·refine wp_skip ?_
      refine wp_seq <| wp_block ?_
      obtain ⟨hc4418,hF⟩:=of_if hF
      refine zs [3,5,8,9,11,45,46,47,55,56,57] h (ac hc4418 an) fun a w h => ?_
      refine zt [3,5,8,9,45,46,47,55,56,57] h an fun a w h => ?_
      obtain ⟨v4416,hv4417,hF⟩:=of_bind hF
      replace h:=h.cast (S':=[(3,.val (.pt true 2 iS) (some x1)),(5,.val sh12 (some v3973)),(8,.val sh10 (some (gD x0 (tZ v3974) (iO,(([]:(List (Int × Int))),((⟨#[]⟩:ByteArray),(iO,iO))))))),(9,.val .bool v4416),(45,.val sh7 x0),(46,.val iS (List.length x0:Int)),(47,.val iS v3974),(55,.val sh9 (gD x0 (tZ v3974) (iO,(([]:(List (Int × Int))),((⟨#[]⟩:ByteArray),(iO,iO))))).2.1),(56,.val iS (List.length (gD x0 (tZ v3974) (iO,(([]:(List (Int × Int))),((⟨#[]⟩:ByteArray),(iO,iO))))).2.1:Int)),(57,.val iS v4412)]) (by cases hv4417; kernel_rfl)
      refine zt [3,5,8,9,45,46,47,55,56,57] h an fun a w h => ?_
      exact ⟨(v4416,(w64 (v4412 + (1:Int)))),hF,ar h [3,5,8,9,45,46,47,55,56,57]⟩
     ·refine wp_exit ?_
      refine wp_seq ?_
      refine zs [3,5,8,45,46,47,84] h an fun a w h => ?_
      refine zi h hF (fun hF => ?_) (fun hF => ?_)
      ·refine wp_exit ?_
       exact ⟨v3973,hF,ar h [3,5,45,46,47]⟩
      ·refine wp_skip ?_
       refine zs [3,5,8,12,45,46,47] h an fun a w h => ?_
       refine zs [3,5,8,12,45,46,47,87,88,89] h an fun a w h => ?_
       refine wp_block ?_
       refine wp_loop_fuel (f9.l4419 k x0 v3974 x1 (f9.j4364 k v3974 ((f9.l2410 k x0 x1) m2410))) (fun ((v4642,v4643):((List (List Int)) × Int)) => [(3,.val (.pt true 2 iS) (some x1)),(5,.val sh12 (some v4642)),(8,.val sh10 (some (gD x0 (tZ v3974) (iO,(([]:(List (Int × Int))),((⟨#[]⟩:ByteArray),(iO,iO))))))),(12,.clo 35 [(8,[]),(5,[]),(3,[])]),(45,.val sh7 x0),(46,.val iS (List.length x0:Int)),(47,.val iS v3974),(87,.val sh9 (gD x0 (tZ v3974) (iO,(([]:(List (Int × Int))),((⟨#[]⟩:ByteArray),(iO,iO))))).2.1),(88,.val iS (List.length (gD x0 (tZ v3974) (iO,(([]:(List (Int × Int))),((⟨#[]⟩:ByteArray),(iO,iO))))).2.1:Int)),(89,.val iS v4643)]) (fun v h => by obtain ⟨v4642,v4643⟩:=v; rw [f9.l4419] at h; cases h) ?_ hF (ar h [3,5,8,12,45,46,47,87,88,89])
       intro m4419 v a w hF h
       obtain ⟨v4642,v4643⟩:=v
       rw [f9.l4419] at hF
       refine zs [3,5,8,12,45,46,47,87,88,89,90] h an fun a w h => ?_
       refine wp_seq <| zi h hF (fun hF => ?_) (fun hF => ?_)
       ·refine wp_skip ?_
        refine wp_mid (fun a w => ∃ v:(List (List Int)),f9.j4698 k v4643 ((f9.l4419 k x0 v3974 x1 (f9.j4364 k v3974 ((f9.l2410 k x0 x1) m2410))) m4419) v=some r∧Rel w0 (fun _ => False) Zi Try.f9.ntmps ((fun (v4697:(List (List Int))) => ([(3,.val (.pt true 2 iS) (some x1)),(5,.val sh12 (some v4697)),(8,.val sh10 (some (gD x0 (tZ v3974) (iO,(([]:(List (Int × Int))),((⟨#[]⟩:ByteArray),(iO,iO))))))),(12,.clo 35 [(8,[]),(5,[]),(3,[])]),(45,.val sh7 x0),(46,.val iS (List.length x0:Int)),(47,.val iS v3974),(87,.val sh9 (gD x0 (tZ v3974) (iO,(([]:(List (Int × Int))),((⟨#[]⟩:ByteArray),(iO,iO))))).2.1),(88,.val iS (List.length (gD x0 (tZ v3974) (iO,(([]:(List (Int × Int))),((⟨#[]⟩:ByteArray),(iO,iO))))).2.1:Int)),(89,.val iS v4643)]:SS)) v) a w) ?_ ?_
        ·
         refine wp_block ?_
         obtain ⟨hc4751,hF⟩:=of_if hF
         refine zs [3,5,8,12,13,14,45,46,47,87,88,89] h (ac hc4751 an) fun a w h => ?_
         obtain ⟨r4699,hr4750,hF⟩:=of_bind hF
         refine wp_seqX_seq (sxB_ok tok [(5,(.clo 1 ⟨sh12,some r4699⟩ 12))] (sxA_ok tok (orc:=orcL [(99,[⟨.pt false 4294967295 (.pt true 59 (.sl true 39 (.sl true 5 (.int .u8)))),some (some r4699)⟩])]) (spA:=[]) (sp:=[]))) h (by kernel_rfl) (ac (c35 k (gD (gD x0 (tZ v3974) (iO,(([]:(List (Int × Int))),((⟨#[]⟩:ByteArray),(iO,iO))))).2.1 (tZ v4643) (iO,iO)).1 (gD (gD x0 (tZ v3974) (iO,(([]:(List (Int × Int))),((⟨#[]⟩:ByteArray),(iO,iO))))).2.1 (tZ v4643) (iO,iO)).2 (gD x0 (tZ v3974) (iO,(([]:(List (Int × Int))),((⟨#[]⟩:ByteArray),(iO,iO))))) v4642 x1 r4699 hr4750) an) fun a w h => ?_
         refine wp_seq ?_
         refine zs [3,5,8,12,13,14,45,46,47,87,88,89,101] h an fun a w h => ?_
         refine zi h hF (fun hF => ?_) (fun hF => ?_)
         ·refine wp_exit ?_
          exact ⟨r4699,hF,ar h [3,5,8,12,45,46,47,87,88,89]⟩
         ·refine wp_skip ?_
          obtain ⟨hc4749,hF⟩:=of_if hF
          refine zs [3,5,8,12,14,15,45,46,47,87,88,89] h (ac hc4749 an) fun a w h => ?_
          obtain ⟨r4700,hr4747,hF⟩:=of_bind hF
          obtain ⟨r4701,hr4748,hF⟩:=of_bind hF
          refine wp_regy_seq tok (orc:=orcL [(113,[⟨iS,r4700⟩]),(119,[⟨iS,r4701⟩])]) (l:=[3,5,8,12,14,15,16,45,46,47,87,88,89]) ([],[],[],[]) 14 nw h (by kernel_rfl) (by kernel_rfl) (ac (c36 k (w64 ((gD (gD x0 (tZ v3974) (iO,(([]:(List (Int × Int))),((⟨#[]⟩:ByteArray),(iO,iO))))).2.1 (tZ v4643) (iO,iO)).1 - (gD (gD x0 (tZ v3974) (iO,(([]:(List (Int × Int))),((⟨#[]⟩:ByteArray),(iO,iO))))).2.1 (tZ (w64 (v4643 - (1:Int)))) (iO,iO)).1)) r4700 hr4747) (ac (c36 k (w64 ((gD (gD x0 (tZ v3974) (iO,(([]:(List (Int × Int))),((⟨#[]⟩:ByteArray),(iO,iO))))).2.1 (tZ v4643) (iO,iO)).2 - (gD (gD x0 (tZ v3974) (iO,(([]:(List (Int × Int))),((⟨#[]⟩:ByteArray),(iO,iO))))).2.1 (tZ (w64 (v4643 - (1:Int)))) (iO,iO)).2)) r4701 hr4748) an)) fun a w h => ?_
          refine zs [3,5,8,12,14,15,16,17,45,46,47,87,88,89] h an fun a w h => ?_
          refine wp_block ?_
          refine wp_loop_fuel (f9.l4702 k r4701 r4700 x0 v3974 v4643 x1 (f9.j4698 k v4643 ((f9.l4419 k x0 v3974 x1 (f9.j4364 k v3974 ((f9.l2410 k x0 x1) m2410))) m4419))) (fun ((v4733,v4734):((List (List Int)) × Int)) => [(3,.val (.pt true 2 iS) (some x1)),(5,.val sh12 (some v4733)),(8,.val sh10 (some (gD x0 (tZ v3974) (iO,(([]:(List (Int × Int))),((⟨#[]⟩:ByteArray),(iO,iO))))))),(12,.clo 35 [(8,[]),(5,[]),(3,[])]),(14,.val sh11 (some (gD (gD x0 (tZ v3974) (iO,(([]:(List (Int × Int))),((⟨#[]⟩:ByteArray),(iO,iO))))).2.1 (tZ v4643) (iO,iO)))),(15,.val sh11 (some (gD (gD x0 (tZ v3974) (iO,(([]:(List (Int × Int))),((⟨#[]⟩:ByteArray),(iO,iO))))).2.1 (tZ (w64 (v4643 - (1:Int)))) (iO,iO)))),(16,.val iS (if r4701 > r4700 then r4701 else r4700)),(17,.val iS v4734),(45,.val sh7 x0),(46,.val iS (List.length x0:Int)),(47,.val iS v3974),(87,.val sh9 (gD x0 (tZ v3974) (iO,(([]:(List (Int × Int))),((⟨#[]⟩:ByteArray),(iO,iO))))).2.1),(88,.val iS (List.length (gD x0 (tZ v3974) (iO,(([]:(List (Int × Int))),((⟨#[]⟩:ByteArray),(iO,iO))))).2.1:Int)),(89,.val iS v4643)]) (fun v h => by obtain ⟨v4733,v4734⟩:=v; rw [f9.l4702] at h; cases h) ?_ hF (ar h [3,5,8,12,14,15,16,17,45,46,47,87,88,89])
          intro m4702 v a w hF h
          obtain ⟨v4733,v4734⟩:=v
          rw [f9.l4702] at hF
          refine wp_seq ?_
          refine zs [3,5,8,12,14,15,16,17,45,46,47,87,88,89,123] h an fun a w h => ?_
          refine zi h hF (fun hF => ?_) (fun hF => ?_)
          ·refine wp_skip ?_
           refine wp_seq <| wp_block ?_
           obtain ⟨r4741,hr4744,hF⟩:=of_bind hF
           obtain ⟨r4742,hr4745,hF⟩:=of_bind hF
           obtain ⟨r4743,hr4746,hF⟩:=of_bind hF
           refine wp_regX (sxB_ok tok [(25,(.clo 1 ⟨sh12,some r4743⟩ 12))] (sxA_ok tok (orc:=orcL [(137,[⟨iS,r4741⟩]),(149,[⟨iS,r4742⟩]),(151,[⟨.pt false 4294967295 (.pt true 59 (.sl true 39 (.sl true 5 (.int .u8)))),some (some r4743)⟩])]) (spA:=[]) (sp:=[]))) [((3,.val (.pt true 2 iS) (some x1)),none,none),((5,.val sh12 (some v4733)),none,some 25),((5,.val sh12 (some r4743)),some 25,none),((8,.val sh10 (some (gD x0 (tZ v3974) (iO,(([]:(List (Int × Int))),((⟨#[]⟩:ByteArray),(iO,iO))))))),none,none),((12,.clo 35 [(8,[]),(5,[]),(3,[])]),none,none),((14,.val sh11 (some (gD (gD x0 (tZ v3974) (iO,(([]:(List (Int × Int))),((⟨#[]⟩:ByteArray),(iO,iO))))).2.1 (tZ v4643) (iO,iO)))),none,none),((15,.val sh11 (some (gD (gD x0 (tZ v3974) (iO,(([]:(List (Int × Int))),((⟨#[]⟩:ByteArray),(iO,iO))))).2.1 (tZ (w64 (v4643 - (1:Int)))) (iO,iO)))),none,none),((16,.val iS (if r4701 > r4700 then r4701 else r4700)),none,none),((17,.val iS v4734),none,none),((45,.val sh7 x0),none,none),((46,.val iS (List.length x0:Int)),none,none),((47,.val iS v3974),none,none),((87,.val sh9 (gD x0 (tZ v3974) (iO,(([]:(List (Int × Int))),((⟨#[]⟩:ByteArray),(iO,iO))))).2.1),none,none),((88,.val iS (List.length (gD x0 (tZ v3974) (iO,(([]:(List (Int × Int))),((⟨#[]⟩:ByteArray),(iO,iO))))).2.1:Int)),none,none),((89,.val iS v4643),none,none),((123,.val .bool (decide (v4734 < (if r4701 > r4700 then r4701 else r4700)))),none,none),((126,.clo 35 [(8,[]),(5,[]),(3,[])]),some 0,none),((127,.addr 15 [.der,.fst]),some 1,none),((128,.val iS (gD (gD x0 (tZ v3974) (iO,(([]:(List (Int × Int))),((⟨#[]⟩:ByteArray),(iO,iO))))).2.1 (tZ (w64 (v4643 - (1:Int)))) (iO,iO)).1),some 2,none),((129,.val iS v4734),some 3,none),((130,.addr 14 [.der,.fst]),some 4,none),((131,.val iS (gD (gD x0 (tZ v3974) (iO,(([]:(List (Int × Int))),((⟨#[]⟩:ByteArray),(iO,iO))))).2.1 (tZ v4643) (iO,iO)).1),some 5,none),((132,.addr 15 [.der,.fst]),some 6,none),((133,.val iS (gD (gD x0 (tZ v3974) (iO,(([]:(List (Int × Int))),((⟨#[]⟩:ByteArray),(iO,iO))))).2.1 (tZ (w64 (v4643 - (1:Int)))) (iO,iO)).1),some 7,none),((134,.val iS (w64 ((gD (gD x0 (tZ v3974) (iO,(([]:(List (Int × Int))),((⟨#[]⟩:ByteArray),(iO,iO))))).2.1 (tZ v4643) (iO,iO)).1 - (gD (gD x0 (tZ v3974) (iO,(([]:(List (Int × Int))),((⟨#[]⟩:ByteArray),(iO,iO))))).2.1 (tZ (w64 (v4643 - (1:Int)))) (iO,iO)).1))),some 8,none),((135,.val iS (w64 (v4734 * (w64 ((gD (gD x0 (tZ v3974) (iO,(([]:(List (Int × Int))),((⟨#[]⟩:ByteArray),(iO,iO))))).2.1 (tZ v4643) (iO,iO)).1 - (gD (gD x0 (tZ v3974) (iO,(([]:(List (Int × Int))),((⟨#[]⟩:ByteArray),(iO,iO))))).2.1 (tZ (w64 (v4643 - (1:Int)))) (iO,iO)).1))))),some 9,none),((136,.val iS (if r4701 > r4700 then r4701 else r4700)),some 10,none),((137,.val iS r4741),some 11,none),((138,.val iS (w64 ((gD (gD x0 (tZ v3974) (iO,(([]:(List (Int × Int))),((⟨#[]⟩:ByteArray),(iO,iO))))).2.1 (tZ (w64 (v4643 - (1:Int)))) (iO,iO)).1+r4741))),some 12,none),((139,.addr 15 [.der,.snd]),some 13,none),((140,.val iS (gD (gD x0 (tZ v3974) (iO,(([]:(List (Int × Int))),((⟨#[]⟩:ByteArray),(iO,iO))))).2.1 (tZ (w64 (v4643 - (1:Int)))) (iO,iO)).2),some 14,none),((141,.val iS v4734),some 15,none),((142,.addr 14 [.der,.snd]),some 16,none),((143,.val iS (gD (gD x0 (tZ v3974) (iO,(([]:(List (Int × Int))),((⟨#[]⟩:ByteArray),(iO,iO))))).2.1 (tZ v4643) (iO,iO)).2),some 17,none),((144,.addr 15 [.der,.snd]),some 18,none),((145,.val iS (gD (gD x0 (tZ v3974) (iO,(([]:(List (Int × Int))),((⟨#[]⟩:ByteArray),(iO,iO))))).2.1 (tZ (w64 (v4643 - (1:Int)))) (iO,iO)).2),some 19,none),((146,.val iS (w64 ((gD (gD x0 (tZ v3974) (iO,(([]:(List (Int × Int))),((⟨#[]⟩:ByteArray),(iO,iO))))).2.1 (tZ v4643) (iO,iO)).2 - (gD (gD x0 (tZ v3974) (iO,(([]:(List (Int × Int))),((⟨#[]⟩:ByteArray),(iO,iO))))).2.1 (tZ (w64 (v4643 - (1:Int)))) (iO,iO)).2))),some 20,none),((147,.val iS (w64 (v4734 * (w64 ((gD (gD x0 (tZ v3974) (iO,(([]:(List (Int × Int))),((⟨#[]⟩:ByteArray),(iO,iO))))).2.1 (tZ v4643) (iO,iO)).2 - (gD (gD x0 (tZ v3974) (iO,(([]:(List (Int × Int))),((⟨#[]⟩:ByteArray),(iO,iO))))).2.1 (tZ (w64 (v4643 - (1:Int)))) (iO,iO)).2))))),some 21,none),((148,.val iS (if r4701 > r4700 then r4701 else r4700)),some 22,none),((149,.val iS r4742),some 23,none),((150,.val iS (w64 ((gD (gD x0 (tZ v3974) (iO,(([]:(List (Int × Int))),((⟨#[]⟩:ByteArray),(iO,iO))))).2.1 (tZ (w64 (v4643 - (1:Int)))) (iO,iO)).2+r4742))),some 24,none),((151,.tup []),some 25,none)] [] [0,1,3,11,27,91,1115,9307,42075,107611,369755,4564059,4564063,4564091,4564187,4580443,4695131,5088347,4564095,4564191,4580447,4695135,5088351,4564219,4580475,4695163,5088379,4580571,4695259,5088475,4711515,5104731,5219419,4564223,4580479,4695167,5088383,4580575,4695263,5088479,4711519,5104735,5219423,4564475,4580603,4695291,5088507,4711547,5104763,5219451,4711643,5104859,5219547,5235803,6267995,4564479,4580607,4695295,5088511,4711551,5104767,5219455,4711647,5104863,5219551,5235807,6267999,4564987,4580859,4695547,5088763,4711675,5104891,5219579,5235835,6268027,5235931,6268123,6284379,8365147,4564991,4580863,4695551,5088767,4711679,5104895,5219583,5235839,6268031,5235935,6268127,6284383,8365151,4567035,4581371,4696059,5089275,4711931,5105147,5219835,5235963,6268155,6284411,8365179,6284507,8365275,8381531,4567039,4581375,4696063,5089279,4711935,5105151,5219839,5235967,6268159,6284415,8365183,6284511,8365279,8381535,4583419,4698107,5091323,4712443,5105659,5220347,5236219,6268411,6284539,8365307,8381563,8381659,4571135,4583423,4698111,5091327,4712447,5105663,5220351,5236223,6268415,6284543,8365311,8381567,8381663,4714491,5107707,5222395,5236731,6268923,6284795,8365563,8381691,4587519,4702207,5095423,4714495,5107711,5222399,5236735,6268927,6284799,8365567,8381695,5238779,6270971,6285307,8366075,8381947,4718591,5111807,5226495,5238783,6270975,6285311,8366079,8381951,6287355,8368123,8382459,5242879,6275071,6287359,8368127,8382463,8384507,16756731,6291455,8372223,8384511,16756735,16773115,8388607,16760831,16773119,33550331,16777215,33550335,33554431,67108863] 67108863 [(11,0,1),(23,1,1),(25,2,1)] h (by kernel_rfl) (by kernel_rfl) (by kernel_rfl) (ac (c37 k (w64 (v4734 * (w64 ((gD (gD x0 (tZ v3974) (iO,(([]:(List (Int × Int))),((⟨#[]⟩:ByteArray),(iO,iO))))).2.1 (tZ v4643) (iO,iO)).1 - (gD (gD x0 (tZ v3974) (iO,(([]:(List (Int × Int))),((⟨#[]⟩:ByteArray),(iO,iO))))).2.1 (tZ (w64 (v4643 - (1:Int)))) (iO,iO)).1)))) (if r4701 > r4700 then r4701 else r4700) r4741 hr4744) (ac (c37 k (w64 (v4734 * (w64 ((gD (gD x0 (tZ v3974) (iO,(([]:(List (Int × Int))),((⟨#[]⟩:ByteArray),(iO,iO))))).2.1 (tZ v4643) (iO,iO)).2 - (gD (gD x0 (tZ v3974) (iO,(([]:(List (Int × Int))),((⟨#[]⟩:ByteArray),(iO,iO))))).2.1 (tZ (w64 (v4643 - (1:Int)))) (iO,iO)).2)))) (if r4701 > r4700 then r4701 else r4700) r4742 hr4745) (ac (c35 k (w64 ((gD (gD x0 (tZ v3974) (iO,(([]:(List (Int × Int))),((⟨#[]⟩:ByteArray),(iO,iO))))).2.1 (tZ (w64 (v4643 - (1:Int)))) (iO,iO)).1+r4741)) (w64 ((gD (gD x0 (tZ v3974) (iO,(([]:(List (Int × Int))),((⟨#[]⟩:ByteArray),(iO,iO))))).2.1 (tZ (w64 (v4643 - (1:Int)))) (iO,iO)).2+r4742)) (gD x0 (tZ v3974) (iO,(([]:(List (Int × Int))),((⟨#[]⟩:ByteArray),(iO,iO))))) v4733 x1 r4743 hr4746) an))) (fun _ _ _ _ _ h => h) fun a w h => ?_
           refine zt [3,5,8,12,14,15,16,17,45,46,47,87,88,89] h an fun a w h => ?_
           exact ⟨(r4743,(w64 (v4734 + (1:Int)))),hF,ar h [3,5,8,12,14,15,16,17,45,46,47,87,88,89]⟩
          ·refine wp_exit ?_
           exact ⟨v4733,hF,ar h [3,5,8,12,45,46,47,87,88,89]⟩
        ·rintro a w ⟨v4697,hF,h⟩
         rw [f9.j4698] at hF
         refine zt [3,5,8,12,45,46,47,87,88,89] h an fun a w h => ?_
         exact ⟨(v4697,(w64 (v4643 + (1:Int)))),hF,ar h [3,5,8,12,45,46,47,87,88,89]⟩
       ·refine wp_exit ?_
        exact ⟨v4642,hF,ar h [3,5,45,46,47]⟩
    ·rintro a w ⟨v4363,hF,h⟩
     rw [f9.j4364] at hF
     refine zt [3,5,45,46,47] h an fun a w h => ?_
     exact ⟨(v4363,(w64 (v3974 + (1:Int)))),hF,ar h [3,5,45,46,47]⟩
   ·refine wp_exit ?_
    obtain ⟨hc4795,hF⟩:=of_if hF
    refine zs [5,18] h (ac hc4795 an) fun a w h => ?_
    refine wp_seq ?_
    refine zs [5,18,157,158] h an fun a w h => ?_
    refine wp_block ?_
    refine wp_loop_fuel (f9.l4774 k v3973) (fun ((v4789,v4790):((List ByteArray) × Int)) => [(5,.val sh12 (some v3973)),(18,.val (.sl true 9 .str) v4789),(157,.val iS (List.length v3973:Int)),(158,.val iS v4790)]) (fun v h => by obtain ⟨v4789,v4790⟩:=v; rw [f9.l4774] at h; cases h) ?_ hF (ar h [5,18,157,158])
    intro m4774 v a w hF h
    obtain ⟨v4789,v4790⟩:=v
    rw [f9.l4774] at hF
    refine zs [5,18,157,158,159] h an fun a w h => ?_
    refine wp_seq <| zi h hF (fun hF => ?_) (fun hF => ?_)
    ·refine wp_skip ?_
     refine wp_seq <| wp_block ?_
     refine zs [5,18,19,157,158] h an fun a w h => ?_
     obtain ⟨hc4793,hF⟩:=of_if hF
     obtain ⟨hc4794,hF⟩:=of_if hF
     refine zt [5,18,157,158] h (ac hc4793 (ac hc4794 an)) fun a w h => ?_
     refine zt [5,18,157,158] h an fun a w h => ?_
     exact ⟨((List.set v4789 (tZ v4790) (strOfNums (gD v3973 (tZ v4790) lO))),(w64 (v4790 + (1:Int)))),hF,ar h [5,18,157,158]⟩
    ·refine wp_exit ?_
     refine zs [4,18] h an fun a w h => ?_
     cases hF
     exact wp_ret (ret_okR tok h rfl (by kernel_rfl)).1
def f10.l18 (k:Nat) (x0:(List ByteArray)) (x1:(List ByteArray)):Nat→Int→Option Bool
 | 0,_ => none
 | m18+1,v30 => if (decide (v30 < (List.length x0:Int))) then (if (0≤v30∧v30 < (List.length x0:Int)) then (if (0≤v30∧v30 < (List.length x1:Int)) then (if (!(ByteArray.toList (List.getD x0 (Int.toNat v30) (⟨#[]⟩:ByteArray)) == ByteArray.toList (List.getD x1 (Int.toNat v30) (⟨#[]⟩:ByteArray)))) then (some false) else ((f10.l18 k x0 x1) m18 (IntKind.i64.wrap (v30 + (1:Int))))) else none) else none) else (some true)
def f10 (k:Nat) (x0:(List ByteArray)) (x1:(List ByteArray)):Option Bool:=if (((List.length x0:Int):Int) != (List.length x1:Int)) then (some false) else (f10.l18 k x0 x1 k (0:Int))
theorem c10 (k:Nat) (x0:(List ByteArray)) (x1:(List ByteArray)) (r:Bool) (hF:f10 k x0 x1=some r):PCall Try.prog 10 [⟨(.sl false 9 .str),x0⟩,⟨(.sl false 9 .str),x1⟩] [⟨.bool,r⟩]:=by
 refine pcall_intro Try.func10 rfl rfl (Nat.le_of_ble_eq_true rfl) ?_
 intro w0 Zi a w h
 rw [f10] at hF
 refine zs [0,1] h an fun a w h => ?_
 refine wp_seq ?_
 refine zs [0,1,10] h an fun a w h => ?_
 refine zi h hF (fun hF => ?_) (fun hF => ?_)
 ·refine zs [4] h an fun a w h => ?_
  cases hF
  exact wp_ret (ret_okR tok h rfl (by kernel_rfl)).1
 ·refine wp_skip ?_
  refine wp_seq ?_
  refine zs [0,1,5] h an fun a w h => ?_
  refine wp_block ?_
  refine wp_loop_fuel (f10.l18 k x0 x1) (fun v30 => [(0,.val (.sl false 9 .str) x0),(1,.val (.sl false 9 .str) x1),(5,.val iS v30)]) (fun v h => by rw [f10.l18] at h; cases h) ?_ hF (ar h [0,1,5])
  intro m18 v30 a w hF h
  rw [f10.l18] at hF
  refine wp_seq ?_
  refine zs [0,1,5,14] h an fun a w h => ?_
  refine zi h hF (fun hF => ?_) (fun hF => ?_)
  ·refine wp_skip ?_
   refine wp_seq <| wp_block ?_
   obtain ⟨hc33,hF⟩:=of_if hF
   obtain ⟨hc34,hF⟩:=of_if hF
   refine wp_regy_seq tok (orc:=o0) (l:=[0,1,5,25]) ([],[],[],[]) 9 nw h (by kernel_rfl) (by kernel_rfl) (ac hc33 (ac hc34 an)) fun a w h => ?_
   refine zi h hF (fun hF => ?_) (fun hF => ?_)
   ·refine zs [4] h an fun a w h => ?_
    cases hF
    exact wp_ret (ret_okR tok h rfl (by kernel_rfl)).1
   ·refine wp_skip ?_
    refine zt [0,1,5] h an fun a w h => ?_
    exact ⟨(w64 (v30 + (1:Int))),hF,ar h [0,1,5]⟩
  ·refine wp_exit ?_
   refine zs [4] h an fun a w h => ?_
   cases hF
   exact wp_ret (ret_okR tok h rfl (by kernel_rfl)).1
def f95 (k:Nat) (x0:(Int × Int)) (x1:(Int × Int)):Option Bool:=if (x0.1 != x1.1) then (some false) else (if (x0.2 != x1.2) then (some false) else (some true))
theorem c95 (k:Nat) (x0:(Int × Int)) (x1:(Int × Int)) (r:Bool) (hF:f95 k x0 x1=some r):PCall Try.prog 95 [⟨sh3,x0⟩,⟨sh3,x1⟩] [⟨.bool,r⟩]:=by
 refine pcall_intro Try.func95 rfl rfl (Nat.le_of_ble_eq_true rfl) ?_
 intro w0 Zi a w h
 rw [f95] at hF
 refine zs [2,3] h an fun a w h => ?_
 refine wp_seq ?_
 refine zs [2,3,9] h an fun a w h => ?_
 refine zi h hF (fun hF => ?_) (fun hF => ?_)
 ·refine zs [4] h an fun a w h => ?_
  cases hF
  exact wp_ret (ret_okR tok h rfl (by kernel_rfl)).1
 ·refine wp_skip ?_
  refine wp_seq ?_
  refine zs [14] h an fun a w h => ?_
  refine zi h hF (fun hF => ?_) (fun hF => ?_)
  ·refine zs [4] h an fun a w h => ?_
   cases hF
   exact wp_ret (ret_okR tok h rfl (by kernel_rfl)).1
  ·refine wp_skip ?_
   refine zs [4] h an fun a w h => ?_
   cases hF
   exact wp_ret (ret_okR tok h rfl (by kernel_rfl)).1
def f75.l30 (k:Nat) (x0:(List (Int × Int))) (x1:(List (Int × Int))):Nat→Int→Option Bool
 | 0,_ => none
 | m30+1,v50 => if (decide (v50 < (List.length x0:Int))) then (if (0≤v50∧v50 < (List.length x0:Int)) then (if (0≤v50∧v50 < (List.length x1:Int)) then ((f95 k (List.getD x0 (Int.toNat v50) ((0:Int),(0:Int))) (List.getD x1 (Int.toNat v50) ((0:Int),(0:Int)))).bind fun r55 => (if (!r55) then (some false) else ((f75.l30 k x0 x1) m30 (IntKind.i64.wrap (v50 + (1:Int)))))) else none) else none) else (some true)
def f75 (k:Nat) (x0:(List (Int × Int))) (x1:(List (Int × Int))):Option Bool:=if (((List.length x0:Int):Int) != (List.length x1:Int)) then (some false) else (f75.l30 k x0 x1 k (0:Int))
theorem c75 (k:Nat) (x0:(List (Int × Int))) (x1:(List (Int × Int))) (r:Bool) (hF:f75 k x0 x1=some r):PCall Try.prog 75 [⟨sh9,x0⟩,⟨sh9,x1⟩] [⟨.bool,r⟩]:=by
 refine pcall_intro Try.func75 rfl rfl (Nat.le_of_ble_eq_true rfl) ?_
 intro w0 Zi a w h
 rw [f75] at hF
 refine zs [0,1] h an fun a w h => ?_
 refine wp_seq ?_
 refine zs [0,1,10] h an fun a w h => ?_
 refine zi h hF (fun hF => ?_) (fun hF => ?_)
 ·refine zs [4] h an fun a w h => ?_
  cases hF
  exact wp_ret (ret_okR tok h rfl (by kernel_rfl)).1
 ·refine wp_skip ?_
  refine wp_seq ?_
  refine zs [0,1,5] h an fun a w h => ?_
  refine wp_block ?_
  refine wp_loop_fuel (f75.l30 k x0 x1) (fun v50 => [(0,.val sh9 x0),(1,.val sh9 x1),(5,.val iS v50)]) (fun v h => by rw [f75.l30] at h; cases h) ?_ hF (ar h [0,1,5])
  intro m30 v50 a w hF h
  rw [f75.l30] at hF
  refine wp_seq ?_
  refine zs [0,1,5,14] h an fun a w h => ?_
  refine zi h hF (fun hF => ?_) (fun hF => ?_)
  ·refine wp_skip ?_
   refine wp_seq <| wp_block ?_
   obtain ⟨hc56,hF⟩:=of_if hF
   obtain ⟨hc57,hF⟩:=of_if hF
   obtain ⟨r55,hr58,hF⟩:=of_bind hF
   refine wp_regy_seq tok (orc:=orcL [(25,[⟨.bool,r55⟩])]) (l:=[0,1,5,26]) ([],[],[],[]) 10 nw h (by kernel_rfl) (by kernel_rfl) (ac hc56 (ac hc57 (ac (c95 k (gD x0 (tZ v50) (iO,iO)) (gD x1 (tZ v50) (iO,iO)) r55 hr58) an))) fun a w h => ?_
   refine zi h hF (fun hF => ?_) (fun hF => ?_)
   ·refine zs [4] h an fun a w h => ?_
    cases hF
    exact wp_ret (ret_okR tok h rfl (by kernel_rfl)).1
   ·refine wp_skip ?_
    refine zt [0,1,5] h an fun a w h => ?_
    exact ⟨(w64 (v50 + (1:Int))),hF,ar h [0,1,5]⟩
  ·refine wp_exit ?_
   refine zs [4] h an fun a w h => ?_
   cases hF
   exact wp_ret (ret_okR tok h rfl (by kernel_rfl)).1
def f38 (k:Nat) (x0:(Int × ((List (Int × Int)) × (ByteArray × (Int × Int))))) (x1:(Int × ((List (Int × Int)) × (ByteArray × (Int × Int))))):Option Bool:=if (x0.1 != x1.1) then (some false) else ((f75 k x0.2.1 x1.2.1).bind fun r1 => (if (!r1) then (some false) else (if (!(ByteArray.toList x0.2.2.1 == ByteArray.toList x1.2.2.1)) then (some false) else (if (x0.2.2.2.1 != x1.2.2.2.1) then (some false) else (if (x0.2.2.2.2 != x1.2.2.2.2) then (some false) else (some true))))))
theorem c38 (k:Nat) (x0:(Int × ((List (Int × Int)) × (ByteArray × (Int × Int))))) (x1:(Int × ((List (Int × Int)) × (ByteArray × (Int × Int))))) (r:Bool) (hF:f38 k x0 x1=some r):PCall Try.prog 38 [⟨sh14,x0⟩,⟨sh14,x1⟩] [⟨.bool,r⟩]:=by
 refine pcall_intro Try.func38 rfl rfl (Nat.le_of_ble_eq_true rfl) ?_
 intro w0 Zi a w h
 rw [f38] at hF
 refine zs [2,3] h an fun a w h => ?_
 refine wp_seq ?_
 refine zs [2,3,9] h an fun a w h => ?_
 refine zi h hF (fun hF => ?_) (fun hF => ?_)
 ·refine zs [4] h an fun a w h => ?_
  cases hF
  exact wp_ret (ret_okR tok h rfl (by kernel_rfl)).1
 ·refine wp_skip ?_
  refine wp_seq ?_
  obtain ⟨r1,hr2,hF⟩:=of_bind hF
  refine zc (orcL [(14,[⟨.bool,r1⟩])]) [2,3,15] h (ac (c75 k x0.2.1 x1.2.1 r1 hr2) an) fun a w h => ?_
  refine zi h hF (fun hF => ?_) (fun hF => ?_)
  ·refine zs [4] h an fun a w h => ?_
   cases hF
   exact wp_ret (ret_okR tok h rfl (by kernel_rfl)).1
  ·refine wp_skip ?_
   refine wp_seq ?_
   refine zs [2,3,20] h an fun a w h => ?_
   refine zi h hF (fun hF => ?_) (fun hF => ?_)
   ·refine zs [4] h an fun a w h => ?_
    cases hF
    exact wp_ret (ret_okR tok h rfl (by kernel_rfl)).1
   ·refine wp_skip ?_
    refine wp_seq ?_
    refine zs [2,3,25] h an fun a w h => ?_
    refine zi h hF (fun hF => ?_) (fun hF => ?_)
    ·refine zs [4] h an fun a w h => ?_
     cases hF
     exact wp_ret (ret_okR tok h rfl (by kernel_rfl)).1
    ·refine wp_skip ?_
     refine wp_seq ?_
     refine zs [30] h an fun a w h => ?_
     refine zi h hF (fun hF => ?_) (fun hF => ?_)
     ·refine zs [4] h an fun a w h => ?_
      cases hF
      exact wp_ret (ret_okR tok h rfl (by kernel_rfl)).1
     ·refine wp_skip ?_
      refine zs [4] h an fun a w h => ?_
      cases hF
      exact wp_ret (ret_okR tok h rfl (by kernel_rfl)).1
def f11.l30 (k:Nat) (x0:(List (Int × ((List (Int × Int)) × (ByteArray × (Int × Int)))))) (x1:(List (Int × ((List (Int × Int)) × (ByteArray × (Int × Int)))))):Nat→Int→Option Bool
 | 0,_ => none
 | m30+1,v50 => if (decide (v50 < (List.length x0:Int))) then (if (0≤v50∧v50 < (List.length x0:Int)) then (if (0≤v50∧v50 < (List.length x1:Int)) then ((f38 k (List.getD x0 (Int.toNat v50) ((0:Int),(([]:(List (Int × Int))),((⟨#[]⟩:ByteArray),((0:Int),(0:Int)))))) (List.getD x1 (Int.toNat v50) ((0:Int),(([]:(List (Int × Int))),((⟨#[]⟩:ByteArray),((0:Int),(0:Int))))))).bind fun r55 => (if (!r55) then (some false) else ((f11.l30 k x0 x1) m30 (IntKind.i64.wrap (v50 + (1:Int)))))) else none) else none) else (some true)
def f11 (k:Nat) (x0:(List (Int × ((List (Int × Int)) × (ByteArray × (Int × Int)))))) (x1:(List (Int × ((List (Int × Int)) × (ByteArray × (Int × Int)))))):Option Bool:=if (((List.length x0:Int):Int) != (List.length x1:Int)) then (some false) else (f11.l30 k x0 x1 k (0:Int))
theorem c11 (k:Nat) (x0:(List (Int × ((List (Int × Int)) × (ByteArray × (Int × Int)))))) (x1:(List (Int × ((List (Int × Int)) × (ByteArray × (Int × Int)))))) (r:Bool) (hF:f11 k x0 x1=some r):PCall Try.prog 11 [⟨sh7,x0⟩,⟨sh7,x1⟩] [⟨.bool,r⟩]:=by
 refine pcall_intro Try.func11 rfl rfl (Nat.le_of_ble_eq_true rfl) ?_
 intro w0 Zi a w h
 rw [f11] at hF
 refine zs [0,1] h an fun a w h => ?_
 refine wp_seq ?_
 refine zs [0,1,10] h an fun a w h => ?_
 refine zi h hF (fun hF => ?_) (fun hF => ?_)
 ·refine zs [4] h an fun a w h => ?_
  cases hF
  exact wp_ret (ret_okR tok h rfl (by kernel_rfl)).1
 ·refine wp_skip ?_
  refine wp_seq ?_
  refine zs [0,1,5] h an fun a w h => ?_
  refine wp_block ?_
  refine wp_loop_fuel (f11.l30 k x0 x1) (fun v50 => [(0,.val sh7 x0),(1,.val sh7 x1),(5,.val iS v50)]) (fun v h => by rw [f11.l30] at h; cases h) ?_ hF (ar h [0,1,5])
  intro m30 v50 a w hF h
  rw [f11.l30] at hF
  refine wp_seq ?_
  refine zs [0,1,5,14] h an fun a w h => ?_
  refine zi h hF (fun hF => ?_) (fun hF => ?_)
  ·refine wp_skip ?_
   refine wp_seq <| wp_block ?_
   obtain ⟨hc56,hF⟩:=of_if hF
   obtain ⟨hc57,hF⟩:=of_if hF
   obtain ⟨r55,hr58,hF⟩:=of_bind hF
   refine wp_regy_seq tok (orc:=orcL [(25,[⟨.bool,r55⟩])]) (l:=[0,1,5,26]) ([],[],[],[]) 10 nw h (by kernel_rfl) (by kernel_rfl) (ac hc56 (ac hc57 (ac (c38 k (gD x0 (tZ v50) (iO,(([]:(List (Int × Int))),((⟨#[]⟩:ByteArray),(iO,iO))))) (gD x1 (tZ v50) (iO,(([]:(List (Int × Int))),((⟨#[]⟩:ByteArray),(iO,iO))))) r55 hr58) an))) fun a w h => ?_
   refine zi h hF (fun hF => ?_) (fun hF => ?_)
   ·refine zs [4] h an fun a w h => ?_
    cases hF
    exact wp_ret (ret_okR tok h rfl (by kernel_rfl)).1
   ·refine wp_skip ?_
    refine zt [0,1,5] h an fun a w h => ?_
    exact ⟨(w64 (v50 + (1:Int))),hF,ar h [0,1,5]⟩
  ·refine wp_exit ?_
   refine zs [4] h an fun a w h => ?_
   cases hF
   exact wp_ret (ret_okR tok h rfl (by kernel_rfl)).1
def f39.l26 (k:Nat):Nat → ((List (Int × Int)) × Int × Int)→Option (Int × (List (Int × Int)))
 | 0,_ => none
 | m26+1,(v44,v45,v46) => if (decide (v46 < (List.length v44:Int))) then (if (0≤v46∧v46 < (List.length v44:Int)) then (if (0≤v46∧v46 < (List.length (List.set v44 (Int.toNat v46) (v45,(List.getD v44 (Int.toNat v46) ((0:Int),(0:Int))).2)):Int)) then ((f39.l26 k) m26 ((List.set (List.set v44 (Int.toNat v46) (v45,(List.getD v44 (Int.toNat v46) ((0:Int),(0:Int))).2)) (Int.toNat v46) ((List.getD (List.set v44 (Int.toNat v46) (v45,(List.getD v44 (Int.toNat v46) ((0:Int),(0:Int))).2)) (Int.toNat v46) ((0:Int),(0:Int))).1,(IntKind.i64.wrap (v45 + (1:Int))))),(IntKind.i64.wrap ((IntKind.i64.wrap (v45 + (1:Int))) + (1:Int))),(IntKind.i64.wrap (v46 + (1:Int))))) else none) else none) else (some (v45,v44))
def f39 (k:Nat) (x0:(List (Int × Int))) (x1:Int):Option (Int × (List (Int × Int))):=f39.l26 k k (x0,x1,(0:Int))
theorem c39 (k:Nat) (x0:(List (Int × Int))) (x1:Int) (r:(Int × (List (Int × Int)))) (hF:f39 k x0 x1=some r):PMut Try.prog 39 [⟨sh4,x0⟩,⟨iS,x1⟩] [⟨iS,r.1⟩] (List.set [⟨sh4,x0⟩,⟨iS,x1⟩] 0 ⟨sh4,r.2⟩):=by
 refine pmut_intro (j:=0) (fin:=⟨sh4,r.2⟩) Try.func39 rfl rfl (Nat.le_of_ble_eq_true rfl) (Nat.le_of_ble_eq_true rfl) (by kernel_rfl) ?_
 intro w0 Zi f0 v0 a w h
 rw [f39] at hF
 refine wp_reg_seq tok (orc:=o0) (fz:=[]) (l:=[0,1]) (.inl rfl) h (by kernel_rfl) an fun a w h => ?_
 refine wp_seq ?_
 refine wp_reg_seq tok (orc:=o0) (fz:=[]) (l:=[0,1,5]) (.inl rfl) h (by kernel_rfl) an fun a w h => ?_
 refine wp_block ?_
 refine wp_loop_fuel (f39.l26 k) (fun ((v44,v45,v46):((List (Int × Int)) × Int × Int)) => [(0,.val sh4 v44),(1,.val iS v45),(5,.val iS v46)]) (fun v h => by obtain ⟨v44,v45,v46⟩:=v; rw [f39.l26] at h; cases h) ?_ hF (h.arrive (fz:=[]) (l:=[0,1,5]) (.inl rfl) (by kernel_rfl))
 intro m26 v a w hF h
 obtain ⟨v44,v45,v46⟩:=v
 rw [f39.l26] at hF
 refine wp_seq ?_
 refine wp_reg_seq tok (orc:=o0) (fz:=[]) (l:=[0,1,5,9]) (.inl rfl) h (by kernel_rfl) an fun a w h => ?_
 refine zi h hF (fun hF => ?_) (fun hF => ?_)
 ·refine wp_skip ?_
  refine wp_seq <| wp_block ?_
  obtain ⟨hc50,hF⟩:=of_if hF
  refine wp_reg_seq tok (orc:=o0) (fz:=[]) (l:=[0,1,5]) (.inl rfl) h (by kernel_rfl) (ac hc50 an) fun a w h => ?_
  refine wp_reg_seq tok (orc:=o0) (fz:=[]) (l:=[0,1,5]) (.inl rfl) h (by kernel_rfl) an fun a w h => ?_
  obtain ⟨hc49,hF⟩:=of_if hF
  refine wp_reg_seq tok (orc:=o0) (fz:=[]) (l:=[0,1,5]) (.inl rfl) h (by kernel_rfl) (ac hc49 an) fun a w h => ?_
  refine wp_reg tok (orc:=o0) (fz:=[]) (l:=[0,1,5]) (.inl rfl) h (by kernel_rfl) an fun a w h => ?_
  refine wp_reg tok (orc:=o0) (fz:=[]) (l:=[0,1,5]) (.inl rfl) h (by kernel_rfl) an fun a w h => ?_
  exact ⟨((List.set (List.set v44 (tZ v46) (v45,(gD v44 (tZ v46) (iO,iO)).2)) (tZ v46) ((gD (List.set v44 (tZ v46) (v45,(gD v44 (tZ v46) (iO,iO)).2)) (tZ v46) (iO,iO)).1,(w64 (v45 + (1:Int))))),(w64 ((w64 (v45 + (1:Int))) + (1:Int))),(w64 (v46 + (1:Int)))),hF,h.arrive (fz:=[]) (l:=[0,1,5]) (.inl rfl) (by kernel_rfl)⟩
 ·refine wp_exit ?_
  refine wp_reg_seq tok (orc:=o0) (fz:=[]) (l:=[0,4]) (.inl rfl) h (by kernel_rfl) an fun a w h => ?_
  cases hF
  exact wp_ret (retM_ok tok h rfl (by kernel_rfl) (by kernel_rfl)).1
def f40.l19 (k:Nat):Nat → (Int × ByteArray)→Option ByteArray
 | 0,_ => none
 | m19+1,(v32,v33) => if (decide (v32 > (0:Int))) then (if (((10:Int):Int)≠0) then (if (ByteArray.size (strOfNums [(IntKind.u8.wrap (IntKind.i64.wrap ((48:Int) + (Int.tmod v32 (10:Int)))))])+ByteArray.size v33≤9223372036854775807) then (if (((10:Int):Int)≠0) then ((f40.l19 k) m19 ((IntKind.i64.wrap (Int.tdiv v32 (10:Int))),((strOfNums [(IntKind.u8.wrap (IntKind.i64.wrap ((48:Int) + (Int.tmod v32 (10:Int)))))]) ++ v33))) else none) else none) else none) else (if (ByteArray.size (⟨#[109]⟩:ByteArray)+ByteArray.size v33≤9223372036854775807) then (some ((⟨#[109]⟩:ByteArray) ++ v33)) else none)
def f40 (k:Nat) (x0:Int):Option ByteArray:=if (decide (x0 ≤ (0:Int))) then (some (⟨#[109,48]⟩:ByteArray)) else (f40.l19 k k (x0,(⟨#[]⟩:ByteArray)))
theorem c40 (k:Nat) (x0:Int) (r:ByteArray) (hF:f40 k x0=some r):PCall Try.prog 40 [⟨iS,x0⟩] [⟨.str,r⟩]:=by
 refine pcall_intro Try.func40 rfl rfl (Nat.le_of_ble_eq_true rfl) ?_
 intro w0 Zi a w h
 rw [f40] at hF
 refine zs [0] h an fun a w h => ?_
 refine wp_seq ?_
 refine zs [0,5] h an fun a w h => ?_
 refine zi h hF (fun hF => ?_) (fun hF => ?_)
 ·refine zs [2] h an fun a w h => ?_
  cases hF
  exact wp_ret (ret_okR tok h rfl (by kernel_rfl)).1
 ·refine wp_skip ?_
  refine zs [0,3] h an fun a w h => ?_
  refine wp_seq <| wp_block ?_
  refine wp_loop_fuel (f40.l19 k) (fun ((v32,v33):(Int × ByteArray)) => [(0,.val iS v32),(3,.val .str v33)]) (fun v h => by obtain ⟨v32,v33⟩:=v; rw [f40.l19] at h; cases h) ?_ hF (ar h [0,3])
  intro m19 v a w hF h
  obtain ⟨v32,v33⟩:=v
  rw [f40.l19] at hF
  refine wp_seq ?_
  refine zs [0,3,7] h an fun a w h => ?_
  refine zi h hF (fun hF => ?_) (fun hF => ?_)
  ·refine wp_skip ?_
   refine wp_block ?_
   obtain ⟨hc35,hF⟩:=of_if hF
   obtain ⟨hc36,hF⟩:=of_if hF
   refine zs [0,3] h (ac hc35 (ac hc36 an)) fun a w h => ?_
   obtain ⟨hc34,hF⟩:=of_if hF
   refine zt [0,3] h (ac hc34 an) fun a w h => ?_
   exact ⟨((w64 (Int.tdiv v32 (10:Int))),((strOfNums [(IntKind.u8.wrap (w64 ((48:Int) + (Int.tmod v32 (10:Int)))))]) ++ v33)),hF,ar h [0,3]⟩
  ·refine wp_exit ?_
   obtain ⟨hc37,hF⟩:=of_if hF
   refine zs [2] h (ac hc37 an) fun a w h => ?_
   cases hF
   exact wp_ret (ret_okR tok h rfl (by kernel_rfl)).1
def f12.l104 (k:Nat):Nat → ((List (Int × ((List (Int × Int)) × (ByteArray × (Int × Int))))) × Int × Int)→Option (Int × (List (Int × ((List (Int × Int)) × (ByteArray × (Int × Int))))))
 | 0,_ => none
 | m104+1,(v174,v175,v176) => if (decide (v176 < (List.length v174:Int))) then (if (0≤v176∧v176 < (List.length v174:Int)) then (if (0≤v176∧v176 < (List.length (List.set v174 (Int.toNat v176) (v175,(List.getD v174 (Int.toNat v176) ((0:Int),(([]:(List (Int × Int))),((⟨#[]⟩:ByteArray),((0:Int),(0:Int)))))).2)):Int)) then ((f39 k (List.getD (List.set v174 (Int.toNat v176) (v175,(List.getD v174 (Int.toNat v176) ((0:Int),(([]:(List (Int × Int))),((⟨#[]⟩:ByteArray),((0:Int),(0:Int)))))).2)) (Int.toNat v176) ((0:Int),(([]:(List (Int × Int))),((⟨#[]⟩:ByteArray),((0:Int),(0:Int)))))).2.1 (IntKind.i64.wrap (v175 + (1:Int)))).bind fun r192 => ((some ((List.set (List.set v174 (Int.toNat v176) (v175,(List.getD v174 (Int.toNat v176) ((0:Int),(([]:(List (Int × Int))),((⟨#[]⟩:ByteArray),((0:Int),(0:Int)))))).2)) (Int.toNat v176) ((List.getD (List.set v174 (Int.toNat v176) (v175,(List.getD v174 (Int.toNat v176) ((0:Int),(([]:(List (Int × Int))),((⟨#[]⟩:ByteArray),((0:Int),(0:Int)))))).2)) (Int.toNat v176) ((0:Int),(([]:(List (Int × Int))),((⟨#[]⟩:ByteArray),((0:Int),(0:Int)))))).1,(r192.2,(List.getD (List.set v174 (Int.toNat v176) (v175,(List.getD v174 (Int.toNat v176) ((0:Int),(([]:(List (Int × Int))),((⟨#[]⟩:ByteArray),((0:Int),(0:Int)))))).2)) (Int.toNat v176) ((0:Int),(([]:(List (Int × Int))),((⟨#[]⟩:ByteArray),((0:Int),(0:Int)))))).2.2))):(List (Int × ((List (Int × Int)) × (ByteArray × (Int × Int))))))).bind fun v193 => ((f40 k r192.1).bind fun r194 => (if (0≤v176∧v176 < (List.length v193:Int)) then (if (0≤v176∧v176 < (List.length (List.set v193 (Int.toNat v176) ((List.getD v193 (Int.toNat v176) ((0:Int),(([]:(List (Int × Int))),((⟨#[]⟩:ByteArray),((0:Int),(0:Int)))))).1,((List.getD v193 (Int.toNat v176) ((0:Int),(([]:(List (Int × Int))),((⟨#[]⟩:ByteArray),((0:Int),(0:Int)))))).2.1,(r194,(List.getD v193 (Int.toNat v176) ((0:Int),(([]:(List (Int × Int))),((⟨#[]⟩:ByteArray),((0:Int),(0:Int)))))).2.2.2)))):Int)) then ((some ((List.set (List.set v193 (Int.toNat v176) ((List.getD v193 (Int.toNat v176) ((0:Int),(([]:(List (Int × Int))),((⟨#[]⟩:ByteArray),((0:Int),(0:Int)))))).1,((List.getD v193 (Int.toNat v176) ((0:Int),(([]:(List (Int × Int))),((⟨#[]⟩:ByteArray),((0:Int),(0:Int)))))).2.1,(r194,(List.getD v193 (Int.toNat v176) ((0:Int),(([]:(List (Int × Int))),((⟨#[]⟩:ByteArray),((0:Int),(0:Int)))))).2.2.2)))) (Int.toNat v176) ((List.getD (List.set v193 (Int.toNat v176) ((List.getD v193 (Int.toNat v176) ((0:Int),(([]:(List (Int × Int))),((⟨#[]⟩:ByteArray),((0:Int),(0:Int)))))).1,((List.getD v193 (Int.toNat v176) ((0:Int),(([]:(List (Int × Int))),((⟨#[]⟩:ByteArray),((0:Int),(0:Int)))))).2.1,(r194,(List.getD v193 (Int.toNat v176) ((0:Int),(([]:(List (Int × Int))),((⟨#[]⟩:ByteArray),((0:Int),(0:Int)))))).2.2.2)))) (Int.toNat v176) ((0:Int),(([]:(List (Int × Int))),((⟨#[]⟩:ByteArray),((0:Int),(0:Int)))))).1,((List.getD (List.set v193 (Int.toNat v176) ((List.getD v193 (Int.toNat v176) ((0:Int),(([]:(List (Int × Int))),((⟨#[]⟩:ByteArray),((0:Int),(0:Int)))))).1,((List.getD v193 (Int.toNat v176) ((0:Int),(([]:(List (Int × Int))),((⟨#[]⟩:ByteArray),((0:Int),(0:Int)))))).2.1,(r194,(List.getD v193 (Int.toNat v176) ((0:Int),(([]:(List (Int × Int))),((⟨#[]⟩:ByteArray),((0:Int),(0:Int)))))).2.2.2)))) (Int.toNat v176) ((0:Int),(([]:(List (Int × Int))),((⟨#[]⟩:ByteArray),((0:Int),(0:Int)))))).2.1,((List.getD (List.set v193 (Int.toNat v176) ((List.getD v193 (Int.toNat v176) ((0:Int),(([]:(List (Int × Int))),((⟨#[]⟩:ByteArray),((0:Int),(0:Int)))))).1,((List.getD v193 (Int.toNat v176) ((0:Int),(([]:(List (Int × Int))),((⟨#[]⟩:ByteArray),((0:Int),(0:Int)))))).2.1,(r194,(List.getD v193 (Int.toNat v176) ((0:Int),(([]:(List (Int × Int))),((⟨#[]⟩:ByteArray),((0:Int),(0:Int)))))).2.2.2)))) (Int.toNat v176) ((0:Int),(([]:(List (Int × Int))),((⟨#[]⟩:ByteArray),((0:Int),(0:Int)))))).2.2.1,((IntKind.i64.wrap (r192.1 + (1:Int))),(List.getD (List.set v193 (Int.toNat v176) ((List.getD v193 (Int.toNat v176) ((0:Int),(([]:(List (Int × Int))),((⟨#[]⟩:ByteArray),((0:Int),(0:Int)))))).1,((List.getD v193 (Int.toNat v176) ((0:Int),(([]:(List (Int × Int))),((⟨#[]⟩:ByteArray),((0:Int),(0:Int)))))).2.1,(r194,(List.getD v193 (Int.toNat v176) ((0:Int),(([]:(List (Int × Int))),((⟨#[]⟩:ByteArray),((0:Int),(0:Int)))))).2.2.2)))) (Int.toNat v176) ((0:Int),(([]:(List (Int × Int))),((⟨#[]⟩:ByteArray),((0:Int),(0:Int)))))).2.2.2.2))))):(List (Int × ((List (Int × Int)) × (ByteArray × (Int × Int))))))).bind fun v195 => (if (0≤v176∧v176 < (List.length v195:Int)) then ((some ((List.set v195 (Int.toNat v176) ((List.getD v195 (Int.toNat v176) ((0:Int),(([]:(List (Int × Int))),((⟨#[]⟩:ByteArray),((0:Int),(0:Int)))))).1,((List.getD v195 (Int.toNat v176) ((0:Int),(([]:(List (Int × Int))),((⟨#[]⟩:ByteArray),((0:Int),(0:Int)))))).2.1,((List.getD v195 (Int.toNat v176) ((0:Int),(([]:(List (Int × Int))),((⟨#[]⟩:ByteArray),((0:Int),(0:Int)))))).2.2.1,((List.getD v195 (Int.toNat v176) ((0:Int),(([]:(List (Int × Int))),((⟨#[]⟩:ByteArray),((0:Int),(0:Int)))))).2.2.2.1,(IntKind.i64.wrap ((IntKind.i64.wrap (r192.1 + (1:Int))) + (1:Int)))))))):(List (Int × ((List (Int × Int)) × (ByteArray × (Int × Int))))))).bind fun v196 => ((f12.l104 k) m104 (v196,(IntKind.i64.wrap ((IntKind.i64.wrap ((IntKind.i64.wrap (r192.1 + (1:Int))) + (1:Int))) + (1:Int))),(IntKind.i64.wrap (v176 + (1:Int)))))) else none)) else none) else none)))) else none) else none) else (some (v175,v174))
def f12 (k:Nat) (x0:(List (Int × ((List (Int × Int)) × (ByteArray × (Int × Int)))))) (x1:Int):Option (Int × (List (Int × ((List (Int × Int)) × (ByteArray × (Int × Int)))))):=f12.l104 k k (x0,x1,(0:Int))
theorem c12 (k:Nat) (x0:(List (Int × ((List (Int × Int)) × (ByteArray × (Int × Int)))))) (x1:Int) (r:(Int × (List (Int × ((List (Int × Int)) × (ByteArray × (Int × Int))))))) (hF:f12 k x0 x1=some r):PMut Try.prog 12 [⟨sh6,x0⟩,⟨iS,x1⟩] [⟨iS,r.1⟩] (List.set [⟨sh6,x0⟩,⟨iS,x1⟩] 0 ⟨sh6,r.2⟩):=by
 refine pmut_intro (j:=0) (fin:=⟨sh6,r.2⟩) Try.func12 rfl rfl (Nat.le_of_ble_eq_true rfl) (Nat.le_of_ble_eq_true rfl) (by kernel_rfl) ?_
 intro w0 Zi f0 v0 a w h
 rw [f12] at hF
 refine wp_reg_seq tok (orc:=o0) (fz:=[]) (l:=[0,1]) (.inl rfl) h (by kernel_rfl) an fun a w h => ?_
 refine wp_seq ?_
 refine wp_reg_seq tok (orc:=o0) (fz:=[]) (l:=[0,1,5]) (.inl rfl) h (by kernel_rfl) an fun a w h => ?_
 refine wp_block ?_
 refine wp_loop_fuel (f12.l104 k) (fun ((v174,v175,v176):((List (Int × ((List (Int × Int)) × (ByteArray × (Int × Int))))) × Int × Int)) => [(0,.val sh6 v174),(1,.val iS v175),(5,.val iS v176)]) (fun v h => by obtain ⟨v174,v175,v176⟩:=v; rw [f12.l104] at h; cases h) ?_ hF (h.arrive (fz:=[]) (l:=[0,1,5]) (.inl rfl) (by kernel_rfl))
 intro m104 v a w hF h
 obtain ⟨v174,v175,v176⟩:=v
 rw [f12.l104] at hF
 refine wp_seq ?_
 refine wp_reg_seq tok (orc:=o0) (fz:=[]) (l:=[0,1,5,9]) (.inl rfl) h (by kernel_rfl) an fun a w h => ?_
 refine zi h hF (fun hF => ?_) (fun hF => ?_)
 ·refine wp_skip ?_
  refine wp_seq <| wp_block ?_
  obtain ⟨hc206,hF⟩:=of_if hF
  refine wp_reg_seq tok (orc:=o0) (fz:=[]) (l:=[0,1,5]) (.inl rfl) h (by kernel_rfl) (ac hc206 an) fun a w h => ?_
  refine wp_reg_seq tok (orc:=o0) (fz:=[]) (l:=[0,1,5]) (.inl rfl) h (by kernel_rfl) an fun a w h => ?_
  obtain ⟨hc204,hF⟩:=of_if hF
  obtain ⟨r192,hr205,hF⟩:=of_bind hF
  refine wp_reg_seq tok (orc:=orcL [(25,[⟨.pt false 4294967295 (.sl true 66 (.st (.pair iS iS))),some r192.2⟩,⟨iS,r192.1⟩])]) (fz:=[]) (l:=[0,1,5]) (.inl rfl) h (by kernel_rfl) (ac hc204 (ac (c39 k (gD (List.set v174 (tZ v176) (v175,(gD v174 (tZ v176) (iO,(([]:(List (Int × Int))),((⟨#[]⟩:ByteArray),(iO,iO))))).2)) (tZ v176) (iO,(([]:(List (Int × Int))),((⟨#[]⟩:ByteArray),(iO,iO))))).2.1 (w64 (v175 + (1:Int))) r192 hr205) an)) fun a w h => ?_
  obtain ⟨v193,hv203,hF⟩:=of_bind hF
  replace h:=h.cast (S':=[(0,.val sh6 v193),(1,.val iS r192.1),(5,.val iS v176)]) (by cases hv203; kernel_rfl)
  obtain ⟨r194,hr201,hF⟩:=of_bind hF
  obtain ⟨hc202,hF⟩:=of_if hF
  refine wp_reg_seq tok (orc:=orcL [(29,[⟨.str,r194⟩])]) (fz:=[]) (l:=[0,1,5]) (.inl rfl) h (by kernel_rfl) (ac (c40 k r192.1 r194 hr201) (ac hc202 an)) fun a w h => ?_
  refine wp_reg_seq tok (orc:=o0) (fz:=[]) (l:=[0,1,5]) (.inl rfl) h (by kernel_rfl) an fun a w h => ?_
  obtain ⟨hc200,hF⟩:=of_if hF
  refine wp_reg_seq tok (orc:=o0) (fz:=[]) (l:=[0,1,5]) (.inl rfl) h (by kernel_rfl) (ac hc200 an) fun a w h => ?_
  obtain ⟨v195,hv199,hF⟩:=of_bind hF
  replace h:=h.cast (S':=[(0,.val sh6 v195),(1,.val iS (w64 (r192.1 + (1:Int)))),(5,.val iS v176)]) (by cases hv199; kernel_rfl)
  refine wp_reg_seq tok (orc:=o0) (fz:=[]) (l:=[0,1,5]) (.inl rfl) h (by kernel_rfl) an fun a w h => ?_
  obtain ⟨hc198,hF⟩:=of_if hF
  refine wp_reg_seq tok (orc:=o0) (fz:=[]) (l:=[0,1,5]) (.inl rfl) h (by kernel_rfl) (ac hc198 an) fun a w h => ?_
  obtain ⟨v196,hv197,hF⟩:=of_bind hF
  replace h:=h.cast (S':=[(0,.val sh6 v196),(1,.val iS (w64 ((w64 (r192.1 + (1:Int))) + (1:Int)))),(5,.val iS v176)]) (by cases hv197; kernel_rfl)
  refine wp_reg tok (orc:=o0) (fz:=[]) (l:=[0,1,5]) (.inl rfl) h (by kernel_rfl) an fun a w h => ?_
  refine wp_reg tok (orc:=o0) (fz:=[]) (l:=[0,1,5]) (.inl rfl) h (by kernel_rfl) an fun a w h => ?_
  exact ⟨(v196,(w64 ((w64 ((w64 (r192.1 + (1:Int))) + (1:Int))) + (1:Int))),(w64 (v176 + (1:Int)))),hF,h.arrive (fz:=[]) (l:=[0,1,5]) (.inl rfl) (by kernel_rfl)⟩
 ·refine wp_exit ?_
  refine wp_reg_seq tok (orc:=o0) (fz:=[]) (l:=[0,4]) (.inl rfl) h (by kernel_rfl) an fun a w h => ?_
  cases hF
  exact wp_ret (retM_ok tok h rfl (by kernel_rfl) (by kernel_rfl)).1
def f13.l32 (k:Nat):Nat → ((List ByteArray) × Int × Int)→Option (Int × (List ByteArray))
 | 0,_ => none
 | m32+1,(v54,v55,v56) => if (decide (v56 < (List.length v54:Int))) then ((f40 k v55).bind fun r60 => (if (0≤v56∧v56 < (List.length v54:Int)) then ((f13.l32 k) m32 ((List.set v54 (Int.toNat v56) r60),(IntKind.i64.wrap (v55 + (1:Int))),(IntKind.i64.wrap (v56 + (1:Int))))) else none)) else (some (v55,v54))
def f13 (k:Nat) (x0:(List ByteArray)) (x1:Int):Option (Int × (List ByteArray)):=f13.l32 k k (x0,x1,(0:Int))
theorem c13 (k:Nat) (x0:(List ByteArray)) (x1:Int) (r:(Int × (List ByteArray))) (hF:f13 k x0 x1=some r):PMut Try.prog 13 [⟨(.sl true 9 .str),x0⟩,⟨iS,x1⟩] [⟨iS,r.1⟩] (List.set [⟨(.sl true 9 .str),x0⟩,⟨iS,x1⟩] 0 ⟨(.sl true 9 .str),r.2⟩):=by
 refine pmut_intro (j:=0) (fin:=⟨(.sl true 9 .str),r.2⟩) Try.func13 rfl rfl (Nat.le_of_ble_eq_true rfl) (Nat.le_of_ble_eq_true rfl) (by kernel_rfl) ?_
 intro w0 Zi f0 v0 a w h
 rw [f13] at hF
 refine wp_reg_seq tok (orc:=o0) (fz:=[]) (l:=[0,1]) (.inl rfl) h (by kernel_rfl) an fun a w h => ?_
 refine wp_seq ?_
 refine wp_reg_seq tok (orc:=o0) (fz:=[]) (l:=[0,1,5]) (.inl rfl) h (by kernel_rfl) an fun a w h => ?_
 refine wp_block ?_
 refine wp_loop_fuel (f13.l32 k) (fun ((v54,v55,v56):((List ByteArray) × Int × Int)) => [(0,.val (.sl true 9 .str) v54),(1,.val iS v55),(5,.val iS v56)]) (fun v h => by obtain ⟨v54,v55,v56⟩:=v; rw [f13.l32] at h; cases h) ?_ hF (h.arrive (fz:=[]) (l:=[0,1,5]) (.inl rfl) (by kernel_rfl))
 intro m32 v a w hF h
 obtain ⟨v54,v55,v56⟩:=v
 rw [f13.l32] at hF
 refine wp_seq ?_
 refine wp_reg_seq tok (orc:=o0) (fz:=[]) (l:=[0,1,5,9]) (.inl rfl) h (by kernel_rfl) an fun a w h => ?_
 refine zi h hF (fun hF => ?_) (fun hF => ?_)
 ·refine wp_skip ?_
  refine wp_seq <| wp_block ?_
  obtain ⟨r60,hr61,hF⟩:=of_bind hF
  obtain ⟨hc62,hF⟩:=of_if hF
  refine wp_reg_seq tok (orc:=orcL [(15,[⟨.str,r60⟩])]) (fz:=[]) (l:=[0,1,5]) (.inl rfl) h (by kernel_rfl) (ac (c40 k v55 r60 hr61) (ac hc62 an)) fun a w h => ?_
  refine wp_reg tok (orc:=o0) (fz:=[]) (l:=[0,1,5]) (.inl rfl) h (by kernel_rfl) an fun a w h => ?_
  refine wp_reg tok (orc:=o0) (fz:=[]) (l:=[0,1,5]) (.inl rfl) h (by kernel_rfl) an fun a w h => ?_
  exact ⟨((List.set v54 (tZ v56) r60),(w64 (v55 + (1:Int))),(w64 (v56 + (1:Int)))),hF,h.arrive (fz:=[]) (l:=[0,1,5]) (.inl rfl) (by kernel_rfl)⟩
 ·refine wp_exit ?_
  refine wp_reg_seq tok (orc:=o0) (fz:=[]) (l:=[0,4]) (.inl rfl) h (by kernel_rfl) an fun a w h => ?_
  cases hF
  exact wp_ret (retM_ok tok h rfl (by kernel_rfl) (by kernel_rfl)).1
def f14.l28 (k:Nat) (x0:(List ByteArray)):Nat → (Int × Int)→Option Int
 | 0,_ => none
 | m28+1,(v47,v48) => if (decide (v48 < (List.length x0:Int))) then (if (0≤v48∧v48 < (List.length x0:Int)) then ((f40 k v47).bind fun r52 => (if (!(ByteArray.toList (List.getD x0 (Int.toNat v48) (⟨#[]⟩:ByteArray)) == ByteArray.toList r52)) then (some (-1:Int)) else ((f14.l28 k x0) m28 ((IntKind.i64.wrap (v47 + (1:Int))),(IntKind.i64.wrap (v48 + (1:Int))))))) else none) else (some v47)
def f14 (k:Nat) (x0:(List ByteArray)) (x1:Int):Option Int:=f14.l28 k x0 k (x1,(0:Int))
theorem c14 (k:Nat) (x0:(List ByteArray)) (x1:Int) (r:Int) (hF:f14 k x0 x1=some r):PCall Try.prog 14 [⟨(.sl false 9 .str),x0⟩,⟨iS,x1⟩] [⟨iS,r⟩]:=by
 refine pcall_intro Try.func14 rfl rfl (Nat.le_of_ble_eq_true rfl) ?_
 intro w0 Zi a w h
 rw [f14] at hF
 refine zs [0,1] h an fun a w h => ?_
 refine wp_seq ?_
 refine zs [0,1,5] h an fun a w h => ?_
 refine wp_block ?_
 refine wp_loop_fuel (f14.l28 k x0) (fun ((v47,v48):(Int × Int)) => [(0,.val (.sl false 9 .str) x0),(1,.val iS v47),(5,.val iS v48)]) (fun v h => by obtain ⟨v47,v48⟩:=v; rw [f14.l28] at h; cases h) ?_ hF (ar h [0,1,5])
 intro m28 v a w hF h
 obtain ⟨v47,v48⟩:=v
 rw [f14.l28] at hF
 refine wp_seq ?_
 refine zs [0,1,5,9] h an fun a w h => ?_
 refine zi h hF (fun hF => ?_) (fun hF => ?_)
 ·refine wp_skip ?_
  refine wp_seq <| wp_block ?_
  refine wp_seq ?_
  obtain ⟨hc53,hF⟩:=of_if hF
  obtain ⟨r52,hr54,hF⟩:=of_bind hF
  refine wp_regy_seq tok (orc:=orcL [(17,[⟨.str,r52⟩])]) (l:=[0,1,5,18]) ([],[],[],[]) 7 nw h (by kernel_rfl) (by kernel_rfl) (ac hc53 (ac (c40 k v47 r52 hr54) an)) fun a w h => ?_
  refine zi h hF (fun hF => ?_) (fun hF => ?_)
  ·refine zs [4] h an fun a w h => ?_
   cases hF
   exact wp_ret (ret_okR tok h rfl (by kernel_rfl)).1
  ·refine wp_skip ?_
   refine zt [0,1,5] h an fun a w h => ?_
   refine zt [0,1,5] h an fun a w h => ?_
   exact ⟨((w64 (v47 + (1:Int))),(w64 (v48 + (1:Int)))),hF,ar h [0,1,5]⟩
 ·refine wp_exit ?_
  refine zs [4] h an fun a w h => ?_
  cases hF
  exact wp_ret (ret_okR tok h rfl (by kernel_rfl)).1
def f3 (k:Nat) (x0:(List (Int × ((List (Int × Int)) × (ByteArray × (Int × Int)))))) (x1:Int):Option Bool:=(f6 k x0 (1048576:Int)).bind fun r1 => (if (decide (r1 < (0:Int))) then (some true) else ((f8 k x0).bind fun r2 => ((f7 k r2 x1).bind fun r3 => ((f8 k x0).bind fun r4 => ((f9 k r4 x1).bind fun r5 => ((f10 k r5 r3).bind fun r6 => (if (!r6) then (some false) else ((f8 k x0).bind fun r7 => ((f11 k r4 r7).bind fun r8 => (if (!r8) then (some false) else ((f12 k r4 (1:Int)).bind fun r9 => ((if ((decide (r9.1 < (0:Int)))=false) then f10 k r5 r3 else some default).bind fun r10 => (if (bif (decide (r9.1 < (0:Int))) then true else (!r10)) then (some false) else ((f13 k r5 (1:Int)).bind fun r11 => ((f14 k r11.2 (1:Int)).bind fun r12 => (if (decide (r12 < (0:Int))) then (some false) else (if (r12 != r11.1) then (some false) else ((f8 k x0).bind fun r13 => ((f9 k r13 x1).bind fun r14 => ((f10 k r14 r3).bind fun r15 => (if (!r15) then (some false) else ((f14 k r11.2 (1:Int)).bind fun r16 => (if (decide (r16 < (0:Int))) then (some false) else (if (r16 != r11.1) then (some false) else (some true)))))))))))))))))))))))))
theorem c3 (k:Nat) (x0:(List (Int × ((List (Int × Int)) × (ByteArray × (Int × Int)))))) (x1:Int) (r:Bool) (hF:f3 k x0 x1=some r):PCall Try.prog 3 [⟨sh2,x0⟩,⟨iS,x1⟩] [⟨.bool,r⟩]:=by
 refine pcall_intro Try.func3 rfl rfl (Nat.le_of_ble_eq_true rfl) ?_
 intro w0 Zi a w h
 rw [f3] at hF
 refine zs [0,1] h an fun a w h => ?_
 refine zs [0,1,5] h an fun a w h => ?_
 obtain ⟨r1,hr32,hF⟩:=of_bind hF
 refine zc (orcL [(15,[⟨iS,r1⟩])]) [0,1,5] h (ac (c6 k x0 (1048576:Int) r1 hr32) an) fun a w h => ?_
 refine wp_seq ?_
 refine zs [0,1,17] h an fun a w h => ?_
 refine zi h hF (fun hF => ?_) (fun hF => ?_)
 ·refine zs [4] h an fun a w h => ?_
  cases hF
  exact wp_ret (ret_okR tok h rfl (by kernel_rfl)).1
 ·refine wp_skip ?_
  obtain ⟨r2,hr30,hF⟩:=of_bind hF
  obtain ⟨r3,hr31,hF⟩:=of_bind hF
  refine zc (orcL [(19,[⟨sh6,r2⟩]),(21,[⟨(.sl true 9 .str),r3⟩])]) [0,1,6] h (ac (c8 k x0 r2 hr30) (ac (c7 k r2 x1 r3 hr31) an)) fun a w h => ?_
  obtain ⟨r4,hr29,hF⟩:=of_bind hF
  refine zc (orcL [(23,[⟨sh6,r4⟩])]) [0,1,6,7] h (ac (c8 k x0 r4 hr29) an) fun a w h => ?_
  obtain ⟨r5,hr28,hF⟩:=of_bind hF
  refine zc (orcL [(26,[⟨(.sl true 9 .str),r5⟩])]) [0,1,6,7,8] h (ac (c9 k r4 x1 r5 hr28) an) fun a w h => ?_
  refine wp_seq ?_
  obtain ⟨r6,hr27,hF⟩:=of_bind hF
  refine zc (orcL [(29,[⟨.bool,r6⟩])]) [0,1,6,7,8,30] h (ac (c10 k r5 r3 r6 hr27) an) fun a w h => ?_
  refine zi h hF (fun hF => ?_) (fun hF => ?_)
  ·refine zs [4] h an fun a w h => ?_
   cases hF
   exact wp_ret (ret_okR tok h rfl (by kernel_rfl)).1
  ·refine wp_skip ?_
   refine wp_seq ?_
   obtain ⟨r7,hr25,hF⟩:=of_bind hF
   obtain ⟨r8,hr26,hF⟩:=of_bind hF
   refine zc (orcL [(33,[⟨sh6,r7⟩]),(34,[⟨.bool,r8⟩])]) [0,1,6,7,8,35] h (ac (c8 k x0 r7 hr25) (ac (c11 k r4 r7 r8 hr26) an)) fun a w h => ?_
   refine zi h hF (fun hF => ?_) (fun hF => ?_)
   ·refine zs [4] h an fun a w h => ?_
    cases hF
    exact wp_ret (ret_okR tok h rfl (by kernel_rfl)).1
   ·refine wp_skip ?_
    refine zs [0,1,6,7,8,9] h an fun a w h => ?_
    obtain ⟨r9,hr24,hF⟩:=of_bind hF
    refine zc (orcL [(38,[⟨.pt false 4294967295 (.sl true 62 (.st (.pair iS (.pair (.sl true 66 (.st (.pair iS iS))) (.pair .str (.pair iS iS)))))),some r9.2⟩,⟨iS,r9.1⟩])]) [0,1,6,8,9] h (ac (c12 k r4 (1:Int) r9 hr24) an) fun a w h => ?_
    refine wp_seq ?_
    obtain ⟨r10,hr23,hF⟩:=of_bind hF
    refine zc (orcL [(44,[⟨.bool,r10⟩])]) [0,1,6,8,46] h (ac (fun (hg:((decide (r9.1 < iO))=false)) => c10 k r5 r3 r10 (of_g hg hr23)) an) fun a w h => ?_
    refine zi h hF (fun hF => ?_) (fun hF => ?_)
    ·refine zs [4] h an fun a w h => ?_
     cases hF
     exact wp_ret (ret_okR tok h rfl (by kernel_rfl)).1
    ·refine wp_skip ?_
     refine zs [0,1,6,8,10] h an fun a w h => ?_
     obtain ⟨r11,hr22,hF⟩:=of_bind hF
     refine zc (orcL [(49,[⟨.pt false 4294967295 (.sl true 9 .str),some r11.2⟩,⟨iS,r11.1⟩])]) [0,1,6,8,10] h (ac (c13 k r5 (1:Int) r11 hr22) an) fun a w h => ?_
     refine zs [0,1,6,8,10,11] h an fun a w h => ?_
     obtain ⟨r12,hr21,hF⟩:=of_bind hF
     refine zc (orcL [(52,[⟨iS,r12⟩])]) [0,1,6,8,10,11] h (ac (c14 k r11.2 (1:Int) r12 hr21) an) fun a w h => ?_
     refine wp_seq ?_
     refine zs [0,1,6,8,10,11,54] h an fun a w h => ?_
     refine zi h hF (fun hF => ?_) (fun hF => ?_)
     ·refine zs [4] h an fun a w h => ?_
      cases hF
      exact wp_ret (ret_okR tok h rfl (by kernel_rfl)).1
     ·refine wp_skip ?_
      refine wp_seq ?_
      refine zs [0,1,6,8,10,57] h an fun a w h => ?_
      refine zi h hF (fun hF => ?_) (fun hF => ?_)
      ·refine zs [4] h an fun a w h => ?_
       cases hF
       exact wp_ret (ret_okR tok h rfl (by kernel_rfl)).1
      ·refine wp_skip ?_
       obtain ⟨r13,hr19,hF⟩:=of_bind hF
       obtain ⟨r14,hr20,hF⟩:=of_bind hF
       refine zc (orcL [(59,[⟨sh6,r13⟩]),(61,[⟨(.sl true 9 .str),r14⟩])]) [6,8,10,12] h (ac (c8 k x0 r13 hr19) (ac (c9 k r13 x1 r14 hr20) an)) fun a w h => ?_
       refine wp_seq ?_
       obtain ⟨r15,hr18,hF⟩:=of_bind hF
       refine zc (orcL [(64,[⟨.bool,r15⟩])]) [8,10,65] h (ac (c10 k r14 r3 r15 hr18) an) fun a w h => ?_
       refine zi h hF (fun hF => ?_) (fun hF => ?_)
       ·refine zs [4] h an fun a w h => ?_
        cases hF
        exact wp_ret (ret_okR tok h rfl (by kernel_rfl)).1
       ·refine wp_skip ?_
        refine zs [8,10,11] h an fun a w h => ?_
        obtain ⟨r16,hr17,hF⟩:=of_bind hF
        refine zc (orcL [(68,[⟨iS,r16⟩])]) [10,11] h (ac (c14 k r11.2 (1:Int) r16 hr17) an) fun a w h => ?_
        refine wp_seq ?_
        refine zs [10,11,70] h an fun a w h => ?_
        refine zi h hF (fun hF => ?_) (fun hF => ?_)
        ·refine zs [4] h an fun a w h => ?_
         cases hF
         exact wp_ret (ret_okR tok h rfl (by kernel_rfl)).1
        ·refine wp_skip ?_
         refine wp_seq ?_
         refine zs [73] h an fun a w h => ?_
         refine zi h hF (fun hF => ?_) (fun hF => ?_)
         ·refine zs [4] h an fun a w h => ?_
          cases hF
          exact wp_ret (ret_okR tok h rfl (by kernel_rfl)).1
         ·refine wp_skip ?_
          refine zs [4] h an fun a w h => ?_
          cases hF
          exact wp_ret (ret_okR tok h rfl (by kernel_rfl)).1
end Go.Proofs.Ytgfekidehbancaa.V
