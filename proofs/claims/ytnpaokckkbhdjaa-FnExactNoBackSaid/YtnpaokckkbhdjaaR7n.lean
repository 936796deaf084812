/-
  THE CONTRACTS OF SOME FUNCTIONS OF THIS SEAT, PRINTED BY A PROGRAM OF THIS PROJECT (wip/gen/vgen.py).
-/
import Derived.Test.YtnpaokckkbhdjaaProg
import Derived.Test.YtnpaokckkbhdjaaVmW
import Derived.Test.YtnpaokckkbhdjaaVmSr
import Derived.KernelRfl
import Derived.Test.YtnpaokckkbhdjaaVmKe
import Derived.Test.YtnpaokckkbhdjaaSoN
set_option linter.unusedVariables false
open Go Go.Vm Go.Proofs
namespace Go.Proofs.Ytnpaokckkbhdjaa.V
set_option maxRecDepth 100000
abbrev zR:Int × (Int × (Int × (Int × (Int × ByteArray)))):=((0:Int),((0:Int),((0:Int),((0:Int),((0:Int),(⟨#[]⟩:ByteArray))))))
abbrev tG:=((List (Int × (Int × Int))) × ((List (Int × (Int × (Int × (Int × (Int × ByteArray)))))) × (List (Int × Int))))
abbrev tN:=(((List (Int × (Int × Int))) × ((List (Int × (Int × (Int × (Int × (Int × ByteArray)))))) × (List (Int × Int)))) × ((List (List Int)) × ((List (List Int)) × (Option (List ((Int × Int) × Bool))))))
abbrev gD {α:Type} (l:List α) (i:Nat) (d:α):α:=List.getD l i d
abbrev tZ (n:Int):Nat:=Int.toNat n
abbrev iO:Int:=0
abbrev lO:List Int:=[]
theorem nw {p:Prop}:([]:List Nat)=[]∨p:=.inl rfl
abbrev o0:=orcL []
theorem ac {p:Prop} {l:List Prop} (h:p) (t:AllP l):AllP (p :: l):=AllP.cons h t
theorem an:AllP []:=AllP.nil
abbrev sh0:Sh:=(.sl false 214 (.st (.pair (.int .i64) (.st (.pair (.int .i64) (.int .i64))))))
abbrev sh1:Sh:=(.st (.pair (.int .i64) (.pair (.int .i64) (.pair (.int .i64) (.pair (.int .i64) (.pair (.int .i64) .str))))))
abbrev sh2:Sh:=(.sl false 207 (.st (.pair (.int .i64) (.pair (.int .i64) (.pair (.int .i64) (.pair (.int .i64) (.pair (.int .i64) .str)))))))
abbrev sh3:Sh:=(.sl false 217 (.st (.pair (.int .i64) (.int .i64))))
abbrev sh4:Sh:=(.st (.pair (.sl false 214 (.st (.pair (.int .i64) (.st (.pair (.int .i64) (.int .i64)))))) (.pair (.sl false 207 (.st (.pair (.int .i64) (.pair (.int .i64) (.pair (.int .i64) (.pair (.int .i64) (.pair (.int .i64) .str))))))) (.sl false 217 (.st (.pair (.int .i64) (.int .i64)))))))
abbrev sh5:Sh:=(.st (.pair (.int .i64) (.int .i64)))
abbrev sh6:Sh:=(.st (.pair (.int .i64) (.st (.pair (.int .i64) (.int .i64)))))
abbrev sh7:Sh:=(.sl true 181 (.st (.pair (.int .i64) (.st (.pair (.int .i64) (.int .i64))))))
abbrev sh8:Sh:=(.sl true 171 (.st (.pair (.int .i64) (.pair (.int .i64) (.pair (.int .i64) (.pair (.int .i64) (.pair (.int .i64) .str)))))))
abbrev sh9:Sh:=(.sl true 174 (.st (.pair (.int .i64) (.int .i64))))
abbrev sh10:Sh:=(.st (.pair (.sl true 181 (.st (.pair (.int .i64) (.st (.pair (.int .i64) (.int .i64)))))) (.pair (.sl true 171 (.st (.pair (.int .i64) (.pair (.int .i64) (.pair (.int .i64) (.pair (.int .i64) (.pair (.int .i64) .str))))))) (.sl true 174 (.st (.pair (.int .i64) (.int .i64)))))))
abbrev sh11:Sh:=(.pt true 71 (.st (.pair (.sl false 181 (.st (.pair (.int .i64) (.st (.pair (.int .i64) (.int .i64)))))) (.pair (.sl false 171 (.st (.pair (.int .i64) (.pair (.int .i64) (.pair (.int .i64) (.pair (.int .i64) (.pair (.int .i64) .str))))))) (.sl false 174 (.st (.pair (.int .i64) (.int .i64))))))))
abbrev sh12:Sh:=(.st (.pair (.sl false 181 (.st (.pair (.int .i64) (.st (.pair (.int .i64) (.int .i64)))))) (.pair (.sl false 171 (.st (.pair (.int .i64) (.pair (.int .i64) (.pair (.int .i64) (.pair (.int .i64) (.pair (.int .i64) .str))))))) (.sl false 174 (.st (.pair (.int .i64) (.int .i64)))))))
abbrev sh13:Sh:=(.pt true 71 (.st (.pair (.sl true 181 (.st (.pair (.int .i64) (.st (.pair (.int .i64) (.int .i64)))))) (.pair (.sl true 171 (.st (.pair (.int .i64) (.pair (.int .i64) (.pair (.int .i64) (.pair (.int .i64) (.pair (.int .i64) .str))))))) (.sl true 174 (.st (.pair (.int .i64) (.int .i64))))))))
abbrev sh14:Sh:=(.pt true 171 (.st (.pair (.int .i64) (.pair (.int .i64) (.pair (.int .i64) (.pair (.int .i64) (.pair (.int .i64) .str)))))))
abbrev sh15:Sh:=(.sl false 174 (.st (.pair (.int .i64) (.int .i64))))
abbrev sh16:Sh:=(.pt true 174 (.st (.pair (.int .i64) (.int .i64))))
abbrev sh17:Sh:=(.sl false 181 (.st (.pair (.int .i64) (.st (.pair (.int .i64) (.int .i64))))))
abbrev sh18:Sh:=(.sl false 171 (.st (.pair (.int .i64) (.pair (.int .i64) (.pair (.int .i64) (.pair (.int .i64) (.pair (.int .i64) .str)))))))
abbrev sh19:Sh:=(.sl true 23 (.sl true 2 (.int .i64)))
abbrev sh20:Sh:=(.mp true (.st (.pair (.int .i64) (.int .i64))) .bool)
abbrev sh21:Sh:=(.pt false 0 (.st (.pair (.sl false 181 (.st (.pair (.int .i64) (.st (.pair (.int .i64) (.int .i64)))))) (.pair (.sl false 171 (.st (.pair (.int .i64) (.pair (.int .i64) (.pair (.int .i64) (.pair (.int .i64) (.pair (.int .i64) .str))))))) (.sl false 174 (.st (.pair (.int .i64) (.int .i64))))))))
def tbl:Tbl:=[⟨2,.int .i64,1,8,(.int .i64)⟩,
 ⟨3,.int .i64,1,8,(.int .i64)⟩,
 ⟨4,.bool,1,1,.bool⟩,
 ⟨5,.int .u8,1,1,(.int .u8)⟩,
 ⟨9,.string,1,16,.str⟩,
 ⟨23,.slice 2,1,24,(.sl true 2 (.int .i64))⟩,
 ⟨36,.slice 23,1,24,(.sl true 23 (.sl true 2 (.int .i64)))⟩,
 ⟨45,.slice 5,1,24,(.sl true 5 (.int .u8))⟩,
 ⟨52,.struct [(2,0),(2,1)],2,16,(.st (.pair (.int .i64) (.int .i64)))⟩,
 ⟨59,.slice 214,1,24,(.sl true 214 (.st (.pair (.int .i64) (.st (.pair (.int .i64) (.int .i64))))))⟩,
 ⟨60,.slice 207,1,24,(.sl true 207 (.st (.pair (.int .i64) (.pair (.int .i64) (.pair (.int .i64) (.pair (.int .i64) (.pair (.int .i64) .str)))))))⟩,
 ⟨61,.slice 217,1,24,(.sl true 217 (.st (.pair (.int .i64) (.int .i64))))⟩,
 ⟨63,.struct [(59,0),(60,1),(61,2)],3,72,(.st (.pair (.sl true 214 (.st (.pair (.int .i64) (.st (.pair (.int .i64) (.int .i64)))))) (.pair (.sl true 207 (.st (.pair (.int .i64) (.pair (.int .i64) (.pair (.int .i64) (.pair (.int .i64) (.pair (.int .i64) .str))))))) (.sl true 217 (.st (.pair (.int .i64) (.int .i64)))))))⟩,
 ⟨67,.slice 181,1,24,(.sl true 181 (.st (.pair (.int .i64) (.st (.pair (.int .i64) (.int .i64))))))⟩,
 ⟨68,.slice 171,1,24,(.sl true 171 (.st (.pair (.int .i64) (.pair (.int .i64) (.pair (.int .i64) (.pair (.int .i64) (.pair (.int .i64) .str)))))))⟩,
 ⟨69,.slice 174,1,24,(.sl true 174 (.st (.pair (.int .i64) (.int .i64))))⟩,
 ⟨71,.struct [(67,0),(68,1),(69,2)],3,72,(.st (.pair (.sl true 181 (.st (.pair (.int .i64) (.st (.pair (.int .i64) (.int .i64)))))) (.pair (.sl true 171 (.st (.pair (.int .i64) (.pair (.int .i64) (.pair (.int .i64) (.pair (.int .i64) (.pair (.int .i64) .str))))))) (.sl true 174 (.st (.pair (.int .i64) (.int .i64)))))))⟩,
 ⟨108,.struct [(2,0),(2,1)],2,16,(.st (.pair (.int .i64) (.int .i64)))⟩,
 ⟨171,.struct [(2,0),(2,1),(2,2),(2,3),(2,4),(9,5)],6,56,(.st (.pair (.int .i64) (.pair (.int .i64) (.pair (.int .i64) (.pair (.int .i64) (.pair (.int .i64) .str))))))⟩,
 ⟨174,.struct [(2,0),(2,1)],2,16,(.st (.pair (.int .i64) (.int .i64)))⟩,
 ⟨175,.map 174 4,1,8,(.mp true (.st (.pair (.int .i64) (.int .i64))) .bool)⟩,
 ⟨181,.struct [(2,0),(52,1)],3,24,(.st (.pair (.int .i64) (.st (.pair (.int .i64) (.int .i64)))))⟩,
 ⟨207,.struct [(2,0),(2,1),(2,2),(2,3),(2,4),(9,5)],6,56,(.st (.pair (.int .i64) (.pair (.int .i64) (.pair (.int .i64) (.pair (.int .i64) (.pair (.int .i64) .str))))))⟩,
 ⟨214,.struct [(2,0),(108,1)],3,24,(.st (.pair (.int .i64) (.st (.pair (.int .i64) (.int .i64)))))⟩,
 ⟨217,.struct [(2,0),(2,1)],2,16,(.st (.pair (.int .i64) (.int .i64)))⟩]
theorem tok:TOk Try.prog tbl:=by unfold TOk; kernel_rfl
abbrev iS:Sh:=.int .i64
section
variable {w0:World} {Wr Zi:Fp} {N:Fr} {S S':SS} {a:Act} {w:World} {Q:Exit→Act→World→Prop} {id:Nat} {ops:Array Oper} {rest:Code} {c:List Prop}
theorem zc (orc:Nat→List TV) (l:List Nat) (h:Rel w0 Wr Zi N S a w) (hc:AllP c) (hr:∀ a w,Rel w0 Wr Zi N (regS tbl Try.prog N orc [] ops l S) a w→rest.wp Try.prog Q a w) (e:regC tbl Try.prog N orc [] ops l S=c:=by kernel_rfl):((Code.region id ops false).seq rest).wp Try.prog Q a w:=wp_reg_seq tok nw h e hc hr
theorem zd (orc:Nat→List TV) (l:List Nat) (h:Rel w0 Wr Zi N S a w) (hc:AllP c) (hr:∀ a w,Rel w0 Wr Zi N (regS tbl Try.prog N orc [] ops l S) a w→Q .normal a w) (e:regC tbl Try.prog N orc [] ops l S=c:=by kernel_rfl):(Code.region id ops false).wp Try.prog Q a w:=wp_reg tok nw h e hc hr
theorem zs (l:List Nat) (h:Rel w0 Wr Zi N S a w) (hc:AllP c) (hr:∀ a w,Rel w0 Wr Zi N (regS tbl Try.prog N o0 [] ops l S) a w→rest.wp Try.prog Q a w) (e:regC tbl Try.prog N o0 [] ops l S=c:=by kernel_rfl):((Code.region id ops false).seq rest).wp Try.prog Q a w:=wp_reg_seq tok nw h e hc hr
theorem zt (l:List Nat) (h:Rel w0 Wr Zi N S a w) (hc:AllP c) (hr:∀ a w,Rel w0 Wr Zi N (regS tbl Try.prog N o0 [] ops l S) a w→Q .normal a w) (e:regC tbl Try.prog N o0 [] ops l S=c:=by kernel_rfl):(Code.region id ops false).wp Try.prog Q a w:=wp_reg tok nw h e hc hr
theorem ar (h:Rel w0 Wr Zi N S a w) (l:List Nat) (e:arr [] l S=some S':=by kernel_rfl):Rel w0 Wr Zi N S' a w:=h.arrive nw e
theorem zi {α:Type} {t:Nat} {x y:Code} {b:Bool} {X Y:α} {r:α} (h:Rel w0 Wr Zi N S a w) (hF:(if b=true then X else Y)=r) (h1:X=r→x.wp Try.prog Q a w) (h2:Y=r→y.wp Try.prog Q a w) (hb:boolAt S t=some b:=by kernel_rfl):(Code.cond (.tmp t) x y).wp Try.prog Q a w:=wp_if h hb (fun hb => h1 (of_t hb hF)) (fun hb => h2 (of_f hb hF))
end
def f83 (k:Nat) (x0:(List (Int × (Int × Int)))) (x1:Int):Option Int:=if (decide (((IntKind.i64.wrap (x1 - (List.length x0:Int))):Int) < (0:Int))) then (some (-1:Int)) else (some (IntKind.i64.wrap (x1 - (List.length x0:Int))))
theorem c83 (k:Nat) (x0:(List (Int × (Int × Int)))) (x1:Int) (r:Int) (hF:f83 k x0 x1=some r):PCall Try.prog 83 [⟨sh0,x0⟩,⟨iS,x1⟩] [⟨iS,r⟩]:=by
 refine pcall_intro Try.func83 rfl rfl (Nat.le_of_ble_eq_true rfl) ?_
 intro w0 Zi a w h
 rw [f83] at hF
 refine zs [0,1] h an fun a w h => ?_
 refine zs [1] h an fun a w h => ?_
 refine wp_seq ?_
 refine zs [1,10] h an fun a w h => ?_
 refine zi h hF (fun hF => ?_) (fun hF => ?_)
 ·refine zs [4] h an fun a w h => ?_
  cases hF
  exact wp_ret (ret_okR tok h rfl (by kernel_rfl)).1
 ·refine wp_skip ?_
  refine zs [4] h an fun a w h => ?_
  cases hF
  exact wp_ret (ret_okR tok h rfl (by kernel_rfl)).1
def f148 (k:Nat) (x0:(Int × (Int × (Int × (Int × (Int × ByteArray)))))) (x1:Int):Option Int:=if (decide (((IntKind.i64.wrap (x1 - (ByteArray.size x0.2.2.2.2.2:Int))):Int) < (0:Int))) then (some (-1:Int)) else (some (IntKind.i64.wrap (x1 - (ByteArray.size x0.2.2.2.2.2:Int))))
theorem c148 (k:Nat) (x0:(Int × (Int × (Int × (Int × (Int × ByteArray)))))) (x1:Int) (r:Int) (hF:f148 k x0 x1=some r):PCall Try.prog 148 [⟨sh1,x0⟩,⟨iS,x1⟩] [⟨iS,r⟩]:=by
 refine pcall_intro Try.func148 rfl rfl (Nat.le_of_ble_eq_true rfl) ?_
 intro w0 Zi a w h
 rw [f148] at hF
 refine zs [1,2] h an fun a w h => ?_
 refine zs [1] h an fun a w h => ?_
 refine wp_seq ?_
 refine zs [1,11] h an fun a w h => ?_
 refine zi h hF (fun hF => ?_) (fun hF => ?_)
 ·refine zs [4] h an fun a w h => ?_
  cases hF
  exact wp_ret (ret_okR tok h rfl (by kernel_rfl)).1
 ·refine wp_skip ?_
  refine zs [4] h an fun a w h => ?_
  cases hF
  exact wp_ret (ret_okR tok h rfl (by kernel_rfl)).1
def f84.l28 (k:Nat) (x0:(List (Int × (Int × (Int × (Int × (Int × ByteArray))))))):Nat → (Int × Int)→Option Int
 | 0,_ => none
 | m28+1,(v47,v48) => if (decide (v48 < (List.length x0:Int))) then (if (0≤v48∧v48 < (List.length x0:Int)) then ((f148 k (List.getD x0 (Int.toNat v48) ((0:Int),((0:Int),((0:Int),((0:Int),((0:Int),(⟨#[]⟩:ByteArray))))))) v47).bind fun r52 => (if (decide (r52 < (0:Int))) then (some (-1:Int)) else ((f84.l28 k x0) m28 (r52,(IntKind.i64.wrap (v48 + (1:Int))))))) else none) else (some v47)
def f84 (k:Nat) (x0:(List (Int × (Int × (Int × (Int × (Int × ByteArray))))))) (x1:Int):Option Int:=if (decide (((IntKind.i64.wrap (x1 - (List.length x0:Int))):Int) < (0:Int))) then (some (-1:Int)) else (f84.l28 k x0 k ((IntKind.i64.wrap (x1 - (List.length x0:Int))),(0:Int)))
theorem c84 (k:Nat) (x0:(List (Int × (Int × (Int × (Int × (Int × ByteArray))))))) (x1:Int) (r:Int) (hF:f84 k x0 x1=some r):PCall Try.prog 84 [⟨sh2,x0⟩,⟨iS,x1⟩] [⟨iS,r⟩]:=by
 refine pcall_intro Try.func84 rfl rfl (Nat.le_of_ble_eq_true rfl) ?_
 intro w0 Zi a w h
 rw [f84] at hF
 refine zs [0,1] h an fun a w h => ?_
 refine zs [0,1] h an fun a w h => ?_
 refine wp_seq ?_
 refine zs [0,1,11] h an fun a w h => ?_
 refine zi h hF (fun hF => ?_) (fun hF => ?_)
 ·refine zs [4] h an fun a w h => ?_
  cases hF
  exact wp_ret (ret_okR tok h rfl (by kernel_rfl)).1
 ·refine wp_skip ?_
  refine wp_seq ?_
  refine zs [0,1,5] h an fun a w h => ?_
  refine wp_block ?_
  refine wp_loop_fuel (f84.l28 k x0) (fun ((v47,v48):(Int × Int)) => [(0,.val sh2 x0),(1,.val iS v47),(5,.val iS v48)]) (fun v h => by obtain ⟨v47,v48⟩:=v; rw [f84.l28] at h; cases h) ?_ hF (ar h [0,1,5])
  intro m28 v a w hF h
  obtain ⟨v47,v48⟩:=v
  rw [f84.l28] at hF
  refine wp_seq ?_
  refine zs [0,1,5,15] h an fun a w h => ?_
  refine zi h hF (fun hF => ?_) (fun hF => ?_)
  ·refine wp_skip ?_
   refine wp_seq <| wp_block ?_
   obtain ⟨hc53,hF⟩:=of_if hF
   obtain ⟨r52,hr54,hF⟩:=of_bind hF
   refine zc (orcL [(23,[⟨iS,r52⟩])]) [0,1,5] h (ac hc53 (ac (c148 k (gD x0 (tZ v48) zR) v47 r52 hr54) an)) fun a w h => ?_
   refine zs [0,1,5,25] h an fun a w h => ?_
   refine zi h hF (fun hF => ?_) (fun hF => ?_)
   ·refine zs [4] h an fun a w h => ?_
    cases hF
    exact wp_ret (ret_okR tok h rfl (by kernel_rfl)).1
   ·refine wp_skip ?_
    refine zt [0,1,5] h an fun a w h => ?_
    exact ⟨(r52,(w64 (v48 + (1:Int)))),hF,ar h [0,1,5]⟩
  ·refine wp_exit ?_
   refine zs [4] h an fun a w h => ?_
   cases hF
   exact wp_ret (ret_okR tok h rfl (by kernel_rfl)).1
def f85 (k:Nat) (x0:(List (Int × Int))) (x1:Int):Option Int:=if (decide (((IntKind.i64.wrap (x1 - (List.length x0:Int))):Int) < (0:Int))) then (some (-1:Int)) else (some (IntKind.i64.wrap (x1 - (List.length x0:Int))))
theorem c85 (k:Nat) (x0:(List (Int × Int))) (x1:Int) (r:Int) (hF:f85 k x0 x1=some r):PCall Try.prog 85 [⟨sh3,x0⟩,⟨iS,x1⟩] [⟨iS,r⟩]:=by
 refine pcall_intro Try.func85 rfl rfl (Nat.le_of_ble_eq_true rfl) ?_
 intro w0 Zi a w h
 rw [f85] at hF
 refine zs [0,1] h an fun a w h => ?_
 refine zs [1] h an fun a w h => ?_
 refine wp_seq ?_
 refine zs [1,10] h an fun a w h => ?_
 refine zi h hF (fun hF => ?_) (fun hF => ?_)
 ·refine zs [4] h an fun a w h => ?_
  cases hF
  exact wp_ret (ret_okR tok h rfl (by kernel_rfl)).1
 ·refine wp_skip ?_
  refine zs [4] h an fun a w h => ?_
  cases hF
  exact wp_ret (ret_okR tok h rfl (by kernel_rfl)).1
def f40 (k:Nat) (x0:((List (Int × (Int × Int))) × ((List (Int × (Int × (Int × (Int × (Int × ByteArray)))))) × (List (Int × Int))))) (x1:Int):Option Int:=(f83 k x0.1 x1).bind fun r1 => (if (decide (r1 < (0:Int))) then (some (-1:Int)) else ((f84 k x0.2.1 r1).bind fun r2 => (if (decide (r2 < (0:Int))) then (some (-1:Int)) else ((f85 k x0.2.2 r2).bind fun r3 => (if (decide (r3 < (0:Int))) then (some (-1:Int)) else (some r3))))))
theorem c40 (k:Nat) (x0:tG) (x1:Int) (r:Int) (hF:f40 k x0 x1=some r):PCall Try.prog 40 [⟨sh4,x0⟩,⟨iS,x1⟩] [⟨iS,r⟩]:=by
 refine pcall_intro Try.func40 rfl rfl (Nat.le_of_ble_eq_true rfl) ?_
 intro w0 Zi a w h
 rw [f40] at hF
 refine zs [1,2] h an fun a w h => ?_
 obtain ⟨r1,hr6,hF⟩:=of_bind hF
 refine zc (orcL [(8,[⟨iS,r1⟩])]) [1,2] h (ac (c83 k x0.1 x1 r1 hr6) an) fun a w h => ?_
 refine wp_seq ?_
 refine zs [1,2,10] h an fun a w h => ?_
 refine zi h hF (fun hF => ?_) (fun hF => ?_)
 ·refine zs [4] h an fun a w h => ?_
  cases hF
  exact wp_ret (ret_okR tok h rfl (by kernel_rfl)).1
 ·refine wp_skip ?_
  obtain ⟨r2,hr5,hF⟩:=of_bind hF
  refine zc (orcL [(14,[⟨iS,r2⟩])]) [1,2] h (ac (c84 k x0.2.1 r1 r2 hr5) an) fun a w h => ?_
  refine wp_seq ?_
  refine zs [1,2,16] h an fun a w h => ?_
  refine zi h hF (fun hF => ?_) (fun hF => ?_)
  ·refine zs [4] h an fun a w h => ?_
   cases hF
   exact wp_ret (ret_okR tok h rfl (by kernel_rfl)).1
  ·refine wp_skip ?_
   obtain ⟨r3,hr4,hF⟩:=of_bind hF
   refine zc (orcL [(20,[⟨iS,r3⟩])]) [1] h (ac (c85 k x0.2.2 r2 r3 hr4) an) fun a w h => ?_
   refine wp_seq ?_
   refine zs [1,22] h an fun a w h => ?_
   refine zi h hF (fun hF => ?_) (fun hF => ?_)
   ·refine zs [4] h an fun a w h => ?_
    cases hF
    exact wp_ret (ret_okR tok h rfl (by kernel_rfl)).1
   ·refine wp_skip ?_
    refine zs [4] h an fun a w h => ?_
    cases hF
    exact wp_ret (ret_okR tok h rfl (by kernel_rfl)).1
def f137 (k:Nat) (x0:(Int × Int)):Option (Int × Int):=some (x0.1,x0.2)
theorem c137 (k:Nat) (x0:(Int × Int)) (r:(Int × Int)) (hF:f137 k x0=some r):PCall Try.prog 137 [⟨sh5,x0⟩] [⟨sh5,r⟩]:=by
 refine pcall_intro Try.func137 rfl rfl (Nat.le_of_ble_eq_true rfl) ?_
 intro w0 Zi a w h
 rw [f137] at hF
 refine zs [1,2] h an fun a w h => ?_
 refine zs [1,2,3] h an fun a w h => ?_
 refine zs [1,2,3] h an fun a w h => ?_
 refine zs [2,3] h an fun a w h => ?_
 refine zs [2] h an fun a w h => ?_
 cases hF
 exact wp_ret (ret_okR tok h rfl (by kernel_rfl)).1
def f154 (k:Nat) (x0:(Int × (Int × Int))):Option (Int × (Int × Int)):=(f137 k x0.2).bind fun r1 => (some (x0.1,r1))
theorem c154 (k:Nat) (x0:(Int × (Int × Int))) (r:(Int × (Int × Int))) (hF:f154 k x0=some r):PCall Try.prog 154 [⟨sh6,x0⟩] [⟨sh6,r⟩]:=by
 refine pcall_intro Try.func154 rfl rfl (Nat.le_of_ble_eq_true rfl) ?_
 intro w0 Zi a w h
 rw [f154] at hF
 refine zs [1,2] h an fun a w h => ?_
 refine zs [1,2,3] h an fun a w h => ?_
 refine zs [1,2,3] h an fun a w h => ?_
 obtain ⟨r1,hr2,hF⟩:=of_bind hF
 refine zc (orcL [(9,[⟨sh5,r1⟩])]) [2,3] h (ac (c137 k x0.2 r1 hr2) an) fun a w h => ?_
 refine zs [2] h an fun a w h => ?_
 cases hF
 exact wp_ret (ret_okR tok h rfl (by kernel_rfl)).1
def f89.l34 (k:Nat) (x0:(List (Int × (Int × Int)))):Nat → ((List (Int × (Int × Int))) × Int)→Option (List (Int × (Int × Int)))
 | 0,_ => none
 | m34+1,(v57,v58) => if (decide (v58 < (List.length x0:Int))) then (if (0≤v58∧v58 < (List.length x0:Int)) then ((f154 k (List.getD x0 (Int.toNat v58) ((0:Int),((0:Int),(0:Int))))).bind fun r63 => (if (0≤v58∧v58 < (List.length v57:Int)) then ((f89.l34 k x0) m34 ((List.set v57 (Int.toNat v58) r63),(IntKind.i64.wrap (v58 + (1:Int))))) else none)) else none) else (some v57)
def f89 (k:Nat) (x0:(List (Int × (Int × Int)))):Option (List (Int × (Int × Int))):=if (0 ≤ (List.length x0:Int)∧Int.toNat (List.length x0:Int)*24≤140737488355328) then (f89.l34 k x0 k ((List.replicate (Int.toNat (List.length x0:Int)) ((0:Int),((0:Int),(0:Int)))),(0:Int))) else none
theorem c89 (k:Nat) (x0:(List (Int × (Int × Int)))) (r:(List (Int × (Int × Int)))) (hF:f89 k x0=some r):PCall Try.prog 89 [⟨sh0,x0⟩] [⟨sh7,r⟩]:=by
 refine pcall_intro Try.func89 rfl rfl (Nat.le_of_ble_eq_true rfl) ?_
 intro w0 Zi a w h
 rw [f89] at hF
 refine zs [0] h an fun a w h => ?_
 obtain ⟨hc67,hF⟩:=of_if hF
 refine zs [0,3] h (ac hc67 an) fun a w h => ?_
 refine wp_seq ?_
 refine zs [0,3,4] h an fun a w h => ?_
 refine wp_block ?_
 refine wp_loop_fuel (f89.l34 k x0) (fun ((v57,v58):((List (Int × (Int × Int))) × Int)) => [(0,.val sh0 x0),(3,.val sh7 v57),(4,.val iS v58)]) (fun v h => by obtain ⟨v57,v58⟩:=v; rw [f89.l34] at h; cases h) ?_ hF (ar h [0,3,4])
 intro m34 v a w hF h
 obtain ⟨v57,v58⟩:=v
 rw [f89.l34] at hF
 refine wp_seq ?_
 refine zs [0,3,4,11] h an fun a w h => ?_
 refine zi h hF (fun hF => ?_) (fun hF => ?_)
 ·refine wp_skip ?_
  refine wp_seq <| wp_block ?_
  obtain ⟨hc64,hF⟩:=of_if hF
  obtain ⟨r63,hr65,hF⟩:=of_bind hF
  obtain ⟨hc66,hF⟩:=of_if hF
  refine zd (orcL [(20,[⟨sh6,r63⟩])]) [0,3,4] h (ac hc64 (ac (c154 k (gD x0 (tZ v58) (iO,(iO,iO))) r63 hr65) (ac hc66 an))) fun a w h => ?_
  refine zt [0,3,4] h an fun a w h => ?_
  exact ⟨((List.set v57 (tZ v58) r63),(w64 (v58 + (1:Int)))),hF,ar h [0,3,4]⟩
 ·refine wp_exit ?_
  refine zs [2,3] h an fun a w h => ?_
  cases hF
  exact wp_ret (ret_okR tok h rfl (by kernel_rfl)).1
def f155 (k:Nat) (x0:(Int × (Int × (Int × (Int × (Int × ByteArray)))))):Option (Int × (Int × (Int × (Int × (Int × ByteArray))))):=some (x0.1,(x0.2.1,(x0.2.2.1,(x0.2.2.2.1,(x0.2.2.2.2.1,x0.2.2.2.2.2)))))
theorem c155 (k:Nat) (x0:(Int × (Int × (Int × (Int × (Int × ByteArray)))))) (r:(Int × (Int × (Int × (Int × (Int × ByteArray)))))) (hF:f155 k x0=some r):PCall Try.prog 155 [⟨sh1,x0⟩] [⟨sh1,r⟩]:=by
 refine pcall_intro Try.func155 rfl rfl (Nat.le_of_ble_eq_true rfl) ?_
 intro w0 Zi a w h
 rw [f155] at hF
 refine zs [1,2] h an fun a w h => ?_
 refine zs [1,2,3] h an fun a w h => ?_
 refine zs [1,2,3] h an fun a w h => ?_
 refine zs [1,2,3] h an fun a w h => ?_
 refine zs [1,2,3] h an fun a w h => ?_
 refine zs [1,2,3] h an fun a w h => ?_
 refine zs [1,2,3] h an fun a w h => ?_
 refine zs [2,3] h an fun a w h => ?_
 refine zs [2] h an fun a w h => ?_
 cases hF
 exact wp_ret (ret_okR tok h rfl (by kernel_rfl)).1
def f90.l34 (k:Nat) (x0:(List (Int × (Int × (Int × (Int × (Int × ByteArray))))))):Nat → ((List (Int × (Int × (Int × (Int × (Int × ByteArray)))))) × Int)→Option (List (Int × (Int × (Int × (Int × (Int × ByteArray))))))
 | 0,_ => none
 | m34+1,(v57,v58) => if (decide (v58 < (List.length x0:Int))) then (if (0≤v58∧v58 < (List.length x0:Int)) then ((f155 k (List.getD x0 (Int.toNat v58) ((0:Int),((0:Int),((0:Int),((0:Int),((0:Int),(⟨#[]⟩:ByteArray)))))))).bind fun r63 => (if (0≤v58∧v58 < (List.length v57:Int)) then ((f90.l34 k x0) m34 ((List.set v57 (Int.toNat v58) r63),(IntKind.i64.wrap (v58 + (1:Int))))) else none)) else none) else (some v57)
def f90 (k:Nat) (x0:(List (Int × (Int × (Int × (Int × (Int × ByteArray))))))):Option (List (Int × (Int × (Int × (Int × (Int × ByteArray)))))):=if (0 ≤ (List.length x0:Int)∧Int.toNat (List.length x0:Int)*56≤140737488355328) then (f90.l34 k x0 k ((List.replicate (Int.toNat (List.length x0:Int)) ((0:Int),((0:Int),((0:Int),((0:Int),((0:Int),(⟨#[]⟩:ByteArray))))))),(0:Int))) else none
theorem c90 (k:Nat) (x0:(List (Int × (Int × (Int × (Int × (Int × ByteArray))))))) (r:(List (Int × (Int × (Int × (Int × (Int × ByteArray))))))) (hF:f90 k x0=some r):PCall Try.prog 90 [⟨sh2,x0⟩] [⟨sh8,r⟩]:=by
 refine pcall_intro Try.func90 rfl rfl (Nat.le_of_ble_eq_true rfl) ?_
 intro w0 Zi a w h
 rw [f90] at hF
 refine zs [0] h an fun a w h => ?_
 obtain ⟨hc67,hF⟩:=of_if hF
 refine zs [0,3] h (ac hc67 an) fun a w h => ?_
 refine wp_seq ?_
 refine zs [0,3,4] h an fun a w h => ?_
 refine wp_block ?_
 refine wp_loop_fuel (f90.l34 k x0) (fun ((v57,v58):((List (Int × (Int × (Int × (Int × (Int × ByteArray)))))) × Int)) => [(0,.val sh2 x0),(3,.val sh8 v57),(4,.val iS v58)]) (fun v h => by obtain ⟨v57,v58⟩:=v; rw [f90.l34] at h; cases h) ?_ hF (ar h [0,3,4])
 intro m34 v a w hF h
 obtain ⟨v57,v58⟩:=v
 rw [f90.l34] at hF
 refine wp_seq ?_
 refine zs [0,3,4,11] h an fun a w h => ?_
 refine zi h hF (fun hF => ?_) (fun hF => ?_)
 ·refine wp_skip ?_
  refine wp_seq <| wp_block ?_
  obtain ⟨hc64,hF⟩:=of_if hF
  obtain ⟨r63,hr65,hF⟩:=of_bind hF
  obtain ⟨hc66,hF⟩:=of_if hF
  refine zd (orcL [(20,[⟨sh1,r63⟩])]) [0,3,4] h (ac hc64 (ac (c155 k (gD x0 (tZ v58) zR) r63 hr65) (ac hc66 an))) fun a w h => ?_
  refine zt [0,3,4] h an fun a w h => ?_
  exact ⟨((List.set v57 (tZ v58) r63),(w64 (v58 + (1:Int)))),hF,ar h [0,3,4]⟩
 ·refine wp_exit ?_
  refine zs [2,3] h an fun a w h => ?_
  cases hF
  exact wp_ret (ret_okR tok h rfl (by kernel_rfl)).1
def f156 (k:Nat) (x0:(Int × Int)):Option (Int × Int):=some (x0.1,x0.2)
theorem c156 (k:Nat) (x0:(Int × Int)) (r:(Int × Int)) (hF:f156 k x0=some r):PCall Try.prog 156 [⟨sh5,x0⟩] [⟨sh5,r⟩]:=by
 refine pcall_intro Try.func156 rfl rfl (Nat.le_of_ble_eq_true rfl) ?_
 intro w0 Zi a w h
 rw [f156] at hF
 refine zs [1,2] h an fun a w h => ?_
 refine zs [1,2,3] h an fun a w h => ?_
 refine zs [1,2,3] h an fun a w h => ?_
 refine zs [2,3] h an fun a w h => ?_
 refine zs [2] h an fun a w h => ?_
 cases hF
 exact wp_ret (ret_okR tok h rfl (by kernel_rfl)).1
def f91.l34 (k:Nat) (x0:(List (Int × Int))):Nat → ((List (Int × Int)) × Int)→Option (List (Int × Int))
 | 0,_ => none
 | m34+1,(v57,v58) => if (decide (v58 < (List.length x0:Int))) then (if (0≤v58∧v58 < (List.length x0:Int)) then ((f156 k (List.getD x0 (Int.toNat v58) ((0:Int),(0:Int)))).bind fun r63 => (if (0≤v58∧v58 < (List.length v57:Int)) then ((f91.l34 k x0) m34 ((List.set v57 (Int.toNat v58) r63),(IntKind.i64.wrap (v58 + (1:Int))))) else none)) else none) else (some v57)
def f91 (k:Nat) (x0:(List (Int × Int))):Option (List (Int × Int)):=if (0 ≤ (List.length x0:Int)∧Int.toNat (List.length x0:Int)*16≤140737488355328) then (f91.l34 k x0 k ((List.replicate (Int.toNat (List.length x0:Int)) ((0:Int),(0:Int))),(0:Int))) else none
theorem c91 (k:Nat) (x0:(List (Int × Int))) (r:(List (Int × Int))) (hF:f91 k x0=some r):PCall Try.prog 91 [⟨sh3,x0⟩] [⟨sh9,r⟩]:=by
 refine pcall_intro Try.func91 rfl rfl (Nat.le_of_ble_eq_true rfl) ?_
 intro w0 Zi a w h
 rw [f91] at hF
 refine zs [0] h an fun a w h => ?_
 obtain ⟨hc67,hF⟩:=of_if hF
 refine zs [0,3] h (ac hc67 an) fun a w h => ?_
 refine wp_seq ?_
 refine zs [0,3,4] h an fun a w h => ?_
 refine wp_block ?_
 refine wp_loop_fuel (f91.l34 k x0) (fun ((v57,v58):((List (Int × Int)) × Int)) => [(0,.val sh3 x0),(3,.val sh9 v57),(4,.val iS v58)]) (fun v h => by obtain ⟨v57,v58⟩:=v; rw [f91.l34] at h; cases h) ?_ hF (ar h [0,3,4])
 intro m34 v a w hF h
 obtain ⟨v57,v58⟩:=v
 rw [f91.l34] at hF
 refine wp_seq ?_
 refine zs [0,3,4,11] h an fun a w h => ?_
 refine zi h hF (fun hF => ?_) (fun hF => ?_)
 ·refine wp_skip ?_
  refine wp_seq <| wp_block ?_
  obtain ⟨hc64,hF⟩:=of_if hF
  obtain ⟨r63,hr65,hF⟩:=of_bind hF
  obtain ⟨hc66,hF⟩:=of_if hF
  refine zd (orcL [(20,[⟨sh5,r63⟩])]) [0,3,4] h (ac hc64 (ac (c156 k (gD x0 (tZ v58) (iO,iO)) r63 hr65) (ac hc66 an))) fun a w h => ?_
  refine zt [0,3,4] h an fun a w h => ?_
  exact ⟨((List.set v57 (tZ v58) r63),(w64 (v58 + (1:Int)))),hF,ar h [0,3,4]⟩
 ·refine wp_exit ?_
  refine zs [2,3] h an fun a w h => ?_
  cases hF
  exact wp_ret (ret_okR tok h rfl (by kernel_rfl)).1
def f42 (k:Nat) (x0:((List (Int × (Int × Int))) × ((List (Int × (Int × (Int × (Int × (Int × ByteArray)))))) × (List (Int × Int))))):Option ((List (Int × (Int × Int))) × ((List (Int × (Int × (Int × (Int × (Int × ByteArray)))))) × (List (Int × Int)))):=(f89 k x0.1).bind fun r1 => ((f90 k x0.2.1).bind fun r2 => ((f91 k x0.2.2).bind fun r3 => (some (r1,(r2,r3)))))
theorem c42 (k:Nat) (x0:tG) (r:tG) (hF:f42 k x0=some r):PCall Try.prog 42 [⟨sh4,x0⟩] [⟨sh10,r⟩]:=by
 refine pcall_intro Try.func42 rfl rfl (Nat.le_of_ble_eq_true rfl) ?_
 intro w0 Zi a w h
 rw [f42] at hF
 refine zs [1,2] h an fun a w h => ?_
 refine zs [1,2,3] h an fun a w h => ?_
 obtain ⟨r1,hr6,hF⟩:=of_bind hF
 refine zc (orcL [(6,[⟨sh7,r1⟩])]) [1,2,3] h (ac (c89 k x0.1 r1 hr6) an) fun a w h => ?_
 obtain ⟨r2,hr5,hF⟩:=of_bind hF
 refine zc (orcL [(10,[⟨sh8,r2⟩])]) [1,2,3] h (ac (c90 k x0.2.1 r2 hr5) an) fun a w h => ?_
 obtain ⟨r3,hr4,hF⟩:=of_bind hF
 refine zc (orcL [(14,[⟨sh9,r3⟩])]) [2,3] h (ac (c91 k x0.2.2 r3 hr4) an) fun a w h => ?_
 refine zs [2] h an fun a w h => ?_
 cases hF
 exact wp_ret (ret_okR tok h rfl (by kernel_rfl)).1
def f149 (k:Nat) (x0:Int):Option Bool:=some (bif (decide (x0 ≥ (1:Int))) then (decide (x0 ≤ (1000000000:Int))) else false)
theorem c149 (k:Nat) (x0:Int) (r:Bool) (hF:f149 k x0=some r):PCall Try.prog 149 [⟨iS,x0⟩] [⟨.bool,r⟩]:=by
 refine pcall_intro Try.func149 rfl rfl (Nat.le_of_ble_eq_true rfl) ?_
 intro w0 Zi a w h
 rw [f149] at hF
 refine zs [0] h an fun a w h => ?_
 refine zs [2] h an fun a w h => ?_
 cases hF
 exact wp_ret (ret_okR tok h rfl (by kernel_rfl)).1
def f150 (k:Nat) (x0:(Int × Int)):Option Bool:=some (bif (bif (bif (decide (x0.1 ≥ (-10000000:Int))) then (decide (x0.1 ≤ (10000000:Int))) else false) then (decide (x0.2 ≥ (-10000000:Int))) else false) then (decide (x0.2 ≤ (10000000:Int))) else false)
theorem c150 (k:Nat) (x0:(Int × Int)) (r:Bool) (hF:f150 k x0=some r):PCall Try.prog 150 [⟨sh5,x0⟩] [⟨.bool,r⟩]:=by
 refine pcall_intro Try.func150 rfl rfl (Nat.le_of_ble_eq_true rfl) ?_
 intro w0 Zi a w h
 rw [f150] at hF
 refine zs [1] h an fun a w h => ?_
 refine zs [2] h an fun a w h => ?_
 cases hF
 exact wp_ret (ret_okR tok h rfl (by kernel_rfl)).1
def f151 (k:Nat) (x0:(Int × Int)) (x1:(Int × Int)):Option Bool:=some (bif (decide (x0.1 < x1.1)) then true else (bif (x0.1 == x1.1) then (decide (x0.2 < x1.2)) else false))
theorem c151 (k:Nat) (x0:(Int × Int)) (x1:(Int × Int)) (r:Bool) (hF:f151 k x0 x1=some r):PCall Try.prog 151 [⟨sh5,x0⟩,⟨sh5,x1⟩] [⟨.bool,r⟩]:=by
 refine pcall_intro Try.func151 rfl rfl (Nat.le_of_ble_eq_true rfl) ?_
 intro w0 Zi a w h
 rw [f151] at hF
 refine zs [2,3] h an fun a w h => ?_
 refine zs [4] h an fun a w h => ?_
 cases hF
 exact wp_ret (ret_okR tok h rfl (by kernel_rfl)).1
def f86.l206 (k:Nat) (x0:((List (Int × (Int × Int))) × ((List (Int × (Int × (Int × (Int × (Int × ByteArray)))))) × (List (Int × Int))))):Nat→Int→Option Bool
 | 0,_ => none
 | m206+1,v242 => if (decide (v242 < (List.length x0.2.2:Int))) then (if (0≤v242∧v242 < (List.length x0.2.2:Int)) then (if (((bif (bif (bif (decide (((List.getD x0.2.2 (Int.toNat v242) ((0:Int),(0:Int))).1:Int) < (0:Int))) then true else (decide (((List.getD x0.2.2 (Int.toNat v242) ((0:Int),(0:Int))).1:Int) ≥ (List.length x0.2.1:Int)))) then true else (decide (((List.getD x0.2.2 (Int.toNat v242) ((0:Int),(0:Int))).2:Int) < (0:Int)))) then true else (decide (((List.getD x0.2.2 (Int.toNat v242) ((0:Int),(0:Int))).2:Int) ≥ (List.length x0.2.1:Int))))=false) → (0 ≤ (List.getD x0.2.2 (Int.toNat v242) ((0:Int),(0:Int))).1 ∧ (List.getD x0.2.2 (Int.toNat v242) ((0:Int),(0:Int))).1 < (List.length x0.2.1:Int))) then (if (((bif (bif (bif (decide (((List.getD x0.2.2 (Int.toNat v242) ((0:Int),(0:Int))).1:Int) < (0:Int))) then true else (decide (((List.getD x0.2.2 (Int.toNat v242) ((0:Int),(0:Int))).1:Int) ≥ (List.length x0.2.1:Int)))) then true else (decide (((List.getD x0.2.2 (Int.toNat v242) ((0:Int),(0:Int))).2:Int) < (0:Int)))) then true else (decide (((List.getD x0.2.2 (Int.toNat v242) ((0:Int),(0:Int))).2:Int) ≥ (List.length x0.2.1:Int))))=false) → (0 ≤ (List.getD x0.2.2 (Int.toNat v242) ((0:Int),(0:Int))).2 ∧ (List.getD x0.2.2 (Int.toNat v242) ((0:Int),(0:Int))).2 < (List.length x0.2.1:Int))) then (if ((((bif (bif (bif (bif (decide (((List.getD x0.2.2 (Int.toNat v242) ((0:Int),(0:Int))).1:Int) < (0:Int))) then true else (decide (((List.getD x0.2.2 (Int.toNat v242) ((0:Int),(0:Int))).1:Int) ≥ (List.length x0.2.1:Int)))) then true else (decide (((List.getD x0.2.2 (Int.toNat v242) ((0:Int),(0:Int))).2:Int) < (0:Int)))) then true else (decide (((List.getD x0.2.2 (Int.toNat v242) ((0:Int),(0:Int))).2:Int) ≥ (List.length x0.2.1:Int)))) then true else (((List.getD x0.2.1 (Int.toNat (List.getD x0.2.2 (Int.toNat v242) ((0:Int),(0:Int))).1) ((0:Int),((0:Int),((0:Int),((0:Int),((0:Int),(⟨#[]⟩:ByteArray))))))).2.1:Int) != (List.getD x0.2.1 (Int.toNat (List.getD x0.2.2 (Int.toNat v242) ((0:Int),(0:Int))).2) ((0:Int),((0:Int),((0:Int),((0:Int),((0:Int),(⟨#[]⟩:ByteArray))))))).1))=false) ∧ ((decide (v242 > (0:Int)))=true)) → (0 ≤ (IntKind.i64.wrap (v242 - (1:Int))) ∧ (IntKind.i64.wrap (v242 - (1:Int))) < (List.length x0.2.2:Int))) then ((if (((bif (bif (bif (bif (decide (((List.getD x0.2.2 (Int.toNat v242) ((0:Int),(0:Int))).1:Int) < (0:Int))) then true else (decide (((List.getD x0.2.2 (Int.toNat v242) ((0:Int),(0:Int))).1:Int) ≥ (List.length x0.2.1:Int)))) then true else (decide (((List.getD x0.2.2 (Int.toNat v242) ((0:Int),(0:Int))).2:Int) < (0:Int)))) then true else (decide (((List.getD x0.2.2 (Int.toNat v242) ((0:Int),(0:Int))).2:Int) ≥ (List.length x0.2.1:Int)))) then true else (((List.getD x0.2.1 (Int.toNat (List.getD x0.2.2 (Int.toNat v242) ((0:Int),(0:Int))).1) ((0:Int),((0:Int),((0:Int),((0:Int),((0:Int),(⟨#[]⟩:ByteArray))))))).2.1:Int) != (List.getD x0.2.1 (Int.toNat (List.getD x0.2.2 (Int.toNat v242) ((0:Int),(0:Int))).2) ((0:Int),((0:Int),((0:Int),((0:Int),((0:Int),(⟨#[]⟩:ByteArray))))))).1))=false) ∧ ((decide (v242 > (0:Int)))=true)) then f151 k (List.getD x0.2.2 (Int.toNat (IntKind.i64.wrap (v242 - (1:Int)))) ((0:Int),(0:Int))) (List.getD x0.2.2 (Int.toNat v242) ((0:Int),(0:Int))) else some default).bind fun r251 => ((some ((bif (bif (bif (bif (bif (decide (((List.getD x0.2.2 (Int.toNat v242) ((0:Int),(0:Int))).1:Int) < (0:Int))) then true else (decide (((List.getD x0.2.2 (Int.toNat v242) ((0:Int),(0:Int))).1:Int) ≥ (List.length x0.2.1:Int)))) then true else (decide (((List.getD x0.2.2 (Int.toNat v242) ((0:Int),(0:Int))).2:Int) < (0:Int)))) then true else (decide (((List.getD x0.2.2 (Int.toNat v242) ((0:Int),(0:Int))).2:Int) ≥ (List.length x0.2.1:Int)))) then true else (((List.getD x0.2.1 (Int.toNat (List.getD x0.2.2 (Int.toNat v242) ((0:Int),(0:Int))).1) ((0:Int),((0:Int),((0:Int),((0:Int),((0:Int),(⟨#[]⟩:ByteArray))))))).2.1:Int) != (List.getD x0.2.1 (Int.toNat (List.getD x0.2.2 (Int.toNat v242) ((0:Int),(0:Int))).2) ((0:Int),((0:Int),((0:Int),((0:Int),((0:Int),(⟨#[]⟩:ByteArray))))))).1)) then true else (bif (decide (v242 > (0:Int))) then (!r251) else false)):Bool)).bind fun v252 => (if v252 then (some false) else ((f86.l206 k x0) m206 (IntKind.i64.wrap (v242 + (1:Int))))))) else none) else none) else none) else none) else (some true)
def f86.l118 (k:Nat) (x0:((List (Int × (Int × Int))) × ((List (Int × (Int × (Int × (Int × (Int × ByteArray)))))) × (List (Int × Int))))):Nat→Int→Option Bool
 | 0,_ => none
 | m118+1,v142 => if (decide (v142 < (List.length x0.2.1:Int))) then (if (0≤v142∧v142 < (List.length x0.2.1:Int)) then ((if ((bif (bif (bif (decide (((List.getD x0.2.1 (Int.toNat v142) ((0:Int),((0:Int),((0:Int),((0:Int),((0:Int),(⟨#[]⟩:ByteArray))))))).1:Int) < (0:Int))) then true else (decide (((List.getD x0.2.1 (Int.toNat v142) ((0:Int),((0:Int),((0:Int),((0:Int),((0:Int),(⟨#[]⟩:ByteArray))))))).1:Int) ≥ (List.length x0.1:Int)))) then true else (decide (((List.getD x0.2.1 (Int.toNat v142) ((0:Int),((0:Int),((0:Int),((0:Int),((0:Int),(⟨#[]⟩:ByteArray))))))).2.1:Int) < (0:Int)))) then true else (decide (((List.getD x0.2.1 (Int.toNat v142) ((0:Int),((0:Int),((0:Int),((0:Int),((0:Int),(⟨#[]⟩:ByteArray))))))).2.1:Int) ≥ (List.length x0.1:Int))))=false) then f149 k (List.getD x0.2.1 (Int.toNat v142) ((0:Int),((0:Int),((0:Int),((0:Int),((0:Int),(⟨#[]⟩:ByteArray))))))).2.2.1 else some default).bind fun r148 => ((some ((bif (bif (bif (bif (bif (bif (bif (bif (decide (((List.getD x0.2.1 (Int.toNat v142) ((0:Int),((0:Int),((0:Int),((0:Int),((0:Int),(⟨#[]⟩:ByteArray))))))).1:Int) < (0:Int))) then true else (decide (((List.getD x0.2.1 (Int.toNat v142) ((0:Int),((0:Int),((0:Int),((0:Int),((0:Int),(⟨#[]⟩:ByteArray))))))).1:Int) ≥ (List.length x0.1:Int)))) then true else (decide (((List.getD x0.2.1 (Int.toNat v142) ((0:Int),((0:Int),((0:Int),((0:Int),((0:Int),(⟨#[]⟩:ByteArray))))))).2.1:Int) < (0:Int)))) then true else (decide (((List.getD x0.2.1 (Int.toNat v142) ((0:Int),((0:Int),((0:Int),((0:Int),((0:Int),(⟨#[]⟩:ByteArray))))))).2.1:Int) ≥ (List.length x0.1:Int)))) then true else (!r148)) then true else (decide (((List.getD x0.2.1 (Int.toNat v142) ((0:Int),((0:Int),((0:Int),((0:Int),((0:Int),(⟨#[]⟩:ByteArray))))))).2.2.2.1:Int) < (1:Int)))) then true else (decide (((List.getD x0.2.1 (Int.toNat v142) ((0:Int),((0:Int),((0:Int),((0:Int),((0:Int),(⟨#[]⟩:ByteArray))))))).2.2.2.1:Int) > (1000000:Int)))) then true else (decide (((List.getD x0.2.1 (Int.toNat v142) ((0:Int),((0:Int),((0:Int),((0:Int),((0:Int),(⟨#[]⟩:ByteArray))))))).2.2.2.2.1:Int) < (0:Int)))) then true else (decide (((List.getD x0.2.1 (Int.toNat v142) ((0:Int),((0:Int),((0:Int),((0:Int),((0:Int),(⟨#[]⟩:ByteArray))))))).2.2.2.2.1:Int) > (1000000000:Int)))):Bool)).bind fun v149 => (if v149 then (some false) else ((f86.l118 k x0) m118 (IntKind.i64.wrap (v142 + (1:Int))))))) else none) else (f86.l206 k x0 k (0:Int))
def f86.l42 (k:Nat) (x0:((List (Int × (Int × Int))) × ((List (Int × (Int × (Int × (Int × (Int × ByteArray)))))) × (List (Int × Int))))):Nat→Int→Option Bool
 | 0,_ => none
 | m42+1,v70 => if (decide (v70 < (List.length x0.1:Int))) then (if (0≤v70∧v70 < (List.length x0.1:Int)) then ((f149 k (List.getD x0.1 (Int.toNat v70) ((0:Int),((0:Int),(0:Int)))).1).bind fun r77 => ((if ((!r77)=false) then f150 k (List.getD x0.1 (Int.toNat v70) ((0:Int),((0:Int),(0:Int)))).2 else some default).bind fun r78 => (if ((((bif (!r77) then true else (!r78))=false) ∧ ((decide (v70 > (0:Int)))=true)) → (0 ≤ (IntKind.i64.wrap (v70 - (1:Int))) ∧ (IntKind.i64.wrap (v70 - (1:Int))) < (List.length x0.1:Int))) then (if (bif (bif (!r77) then true else (!r78)) then true else (bif (decide (v70 > (0:Int))) then (decide (((List.getD x0.1 (Int.toNat (IntKind.i64.wrap (v70 - (1:Int)))) ((0:Int),((0:Int),(0:Int)))).1:Int) ≥ (List.getD x0.1 (Int.toNat v70) ((0:Int),((0:Int),(0:Int)))).1)) else false)) then (some false) else ((f86.l42 k x0) m42 (IntKind.i64.wrap (v70 + (1:Int))))) else none))) else none) else (f86.l118 k x0 k (0:Int))
def f86 (k:Nat) (x0:((List (Int × (Int × Int))) × ((List (Int × (Int × (Int × (Int × (Int × ByteArray)))))) × (List (Int × Int))))):Option Bool:=if (bif (bif (decide (((List.length x0.1:Int):Int) > (5000:Int))) then true else (decide (((List.length x0.2.1:Int):Int) > (8000:Int)))) then true else (decide (((List.length x0.2.2:Int):Int) > (2000:Int)))) then (some false) else (f86.l42 k x0 k (0:Int))
theorem c86 (k:Nat) (x0:tG) (r:Bool) (hF:f86 k x0=some r):PCall Try.prog 86 [⟨sh12,x0⟩] [⟨.bool,r⟩]:=by
 refine pcall_intro Try.func86 rfl rfl (Nat.le_of_ble_eq_true rfl) ?_
 intro w0 Zi a w h
 rw [f86] at hF
 refine zs [1] h an fun a w h => ?_
 refine wp_seq ?_
 refine zs [1,26] h an fun a w h => ?_
 refine zi h hF (fun hF => ?_) (fun hF => ?_)
 ·refine zs [2] h an fun a w h => ?_
  cases hF
  exact wp_ret (ret_okR tok h rfl (by kernel_rfl)).1
 ·refine wp_skip ?_
  refine wp_seq ?_
  refine zs [1,3] h an fun a w h => ?_
  refine wp_block ?_
  refine wp_loop_fuel (f86.l42 k x0) (fun v70 => [(1,.val sh11 (some x0)),(3,.val iS v70)]) (fun v h => by rw [f86.l42] at h; cases h) ?_ hF (ar h [1,3])
  intro m42 v70 a w hF h
  rw [f86.l42] at hF
  refine wp_seq ?_
  refine zs [1,3,31] h an fun a w h => ?_
  refine zi h hF (fun hF => ?_) (fun hF => ?_)
  ·refine wp_skip ?_
   refine wp_seq <| wp_block ?_
   obtain ⟨hc82,hF⟩:=of_if hF
   refine zs [1,3,4] h (ac hc82 an) fun a w h => ?_
   obtain ⟨r77,hr79,hF⟩:=of_bind hF
   obtain ⟨r78,hr80,hF⟩:=of_bind hF
   obtain ⟨hc81,hF⟩:=of_if hF
   refine wp_regy_seq tok (orc:=orcL [(41,[⟨.bool,r77⟩]),(46,[⟨.bool,r78⟩])]) (l:=[1,3,64]) ([],[],[],[]) 26 nw h (by kernel_rfl) (by kernel_rfl) (ac (c149 k (gD x0.1 (tZ v70) (iO,(iO,iO))).1 r77 hr79) (ac (fun (hg:((!r77)=false)) => c150 k (gD x0.1 (tZ v70) (iO,(iO,iO))).2 r78 (of_g hg hr80)) (ac hc81 an))) fun a w h => ?_
   refine zi h hF (fun hF => ?_) (fun hF => ?_)
   ·refine zs [2] h an fun a w h => ?_
    cases hF
    exact wp_ret (ret_okR tok h rfl (by kernel_rfl)).1
   ·refine wp_skip ?_
    refine zt [1,3] h an fun a w h => ?_
    exact ⟨(w64 (v70 + (1:Int))),hF,ar h [1,3]⟩
  ·refine wp_exit ?_
   refine zs [1,5] h an fun a w h => ?_
   refine wp_seq ?_
   refine zs [1,5,6] h an fun a w h => ?_
   refine wp_block ?_
   refine wp_loop_fuel (f86.l118 k x0) (fun v142 => [(1,.val sh11 (some x0)),(5,.val iS (List.length x0.1:Int)),(6,.val iS v142)]) (fun v h => by rw [f86.l118] at h; cases h) ?_ hF (ar h [1,5,6])
   intro m118 v142 a w hF h
   rw [f86.l118] at hF
   refine wp_seq ?_
   refine zs [1,5,6,72] h an fun a w h => ?_
   refine zi h hF (fun hF => ?_) (fun hF => ?_)
   ·refine wp_skip ?_
    refine wp_seq <| wp_block ?_
    obtain ⟨hc152,hF⟩:=of_if hF
    refine zs [1,5,6,7] h (ac hc152 an) fun a w h => ?_
    obtain ⟨r148,hr151,hF⟩:=of_bind hF
    refine zc (orcL [(103,[⟨.bool,r148⟩])]) [1,5,6,125] h (ac (fun (hg:((bif (bif (bif (decide (((gD x0.2.1 (tZ v142) zR).1:Int) < iO)) then true else (decide (((gD x0.2.1 (tZ v142) zR).1:Int) ≥ (List.length x0.1:Int)))) then true else (decide (((gD x0.2.1 (tZ v142) zR).2.1:Int) < iO))) then true else (decide (((gD x0.2.1 (tZ v142) zR).2.1:Int) ≥ (List.length x0.1:Int))))=false)) => c149 k (gD x0.2.1 (tZ v142) zR).2.2.1 r148 (of_g hg hr151)) an) fun a w h => ?_
    obtain ⟨v149,hv150,hF⟩:=of_bind hF
    replace h:=h.cast (S':=[(1,.val sh11 (some x0)),(5,.val iS (List.length x0.1:Int)),(6,.val iS v142),(125,.val .bool v149)]) (by cases hv150; kernel_rfl)
    refine zi h hF (fun hF => ?_) (fun hF => ?_)
    ·refine zs [2] h an fun a w h => ?_
     cases hF
     exact wp_ret (ret_okR tok h rfl (by kernel_rfl)).1
    ·refine wp_skip ?_
     refine zt [1,5,6] h an fun a w h => ?_
     exact ⟨(w64 (v142 + (1:Int))),hF,ar h [1,5,6]⟩
   ·refine wp_exit ?_
    refine zs [1,8] h an fun a w h => ?_
    refine wp_seq ?_
    refine zs [1,8,9] h an fun a w h => ?_
    refine wp_block ?_
    refine wp_loop_fuel (f86.l206 k x0) (fun v242 => [(1,.val sh11 (some x0)),(8,.val iS (List.length x0.2.1:Int)),(9,.val iS v242)]) (fun v h => by rw [f86.l206] at h; cases h) ?_ hF (ar h [1,8,9])
    intro m206 v242 a w hF h
    rw [f86.l206] at hF
    refine wp_seq ?_
    refine zs [1,8,9,133] h an fun a w h => ?_
    refine zi h hF (fun hF => ?_) (fun hF => ?_)
    ·refine wp_skip ?_
     refine wp_seq <| wp_block ?_
     obtain ⟨hc258,hF⟩:=of_if hF
     refine zs [1,8,9,10] h (ac hc258 an) fun a w h => ?_
     obtain ⟨hc254,hF⟩:=of_if hF
     obtain ⟨hc255,hF⟩:=of_if hF
     obtain ⟨hc256,hF⟩:=of_if hF
     obtain ⟨r251,hr257,hF⟩:=of_bind hF
     refine wp_regy_seq tok (orc:=orcL [(189,[⟨.bool,r251⟩])]) (l:=[1,8,9,192]) ([],[],[],[]) 52 nw h (by kernel_rfl) (by kernel_rfl) (ac hc254 (ac hc255 (ac hc256 (ac (fun (hg:(((bif (bif (bif (bif (decide (((gD x0.2.2 (tZ v242) (iO,iO)).1:Int) < iO)) then true else (decide (((gD x0.2.2 (tZ v242) (iO,iO)).1:Int) ≥ (List.length x0.2.1:Int)))) then true else (decide (((gD x0.2.2 (tZ v242) (iO,iO)).2:Int) < iO))) then true else (decide (((gD x0.2.2 (tZ v242) (iO,iO)).2:Int) ≥ (List.length x0.2.1:Int)))) then true else (((gD x0.2.1 (tZ (gD x0.2.2 (tZ v242) (iO,iO)).1) zR).2.1:Int) != (gD x0.2.1 (tZ (gD x0.2.2 (tZ v242) (iO,iO)).2) zR).1))=false) ∧ ((decide (v242 > iO))=true))) => c151 k (gD x0.2.2 (tZ (w64 (v242 - (1:Int)))) (iO,iO)) (gD x0.2.2 (tZ v242) (iO,iO)) r251 (of_g hg hr257)) an)))) fun a w h => ?_
     obtain ⟨v252,hv253,hF⟩:=of_bind hF
     replace h:=h.cast (S':=[(1,.val sh11 (some x0)),(8,.val iS (List.length x0.2.1:Int)),(9,.val iS v242),(192,.val .bool v252)]) (by cases hv253; kernel_rfl)
     refine zi h hF (fun hF => ?_) (fun hF => ?_)
     ·refine zs [2] h an fun a w h => ?_
      cases hF
      exact wp_ret (ret_okR tok h rfl (by kernel_rfl)).1
     ·refine wp_skip ?_
      refine zt [1,8,9] h an fun a w h => ?_
      exact ⟨(w64 (v242 + (1:Int))),hF,ar h [1,8,9]⟩
    ·refine wp_exit ?_
     refine zs [2] h an fun a w h => ?_
     cases hF
     exact wp_ret (ret_okR tok h rfl (by kernel_rfl)).1
def f122 (k:Nat) (x0:((List (Int × (Int × Int))) × ((List (Int × (Int × (Int × (Int × (Int × ByteArray)))))) × (List (Int × Int))))):Option ((List (Int × (Int × Int))) × ((List (Int × (Int × (Int × (Int × (Int × ByteArray)))))) × (List (Int × Int)))):=if ((List.length ([]:List (Int × (Int × Int)))+List.length x0.1)*24≤140737488355328) then (if ((List.length ([]:List (Int × (Int × (Int × (Int × (Int × ByteArray))))))+List.length x0.2.1)*56≤140737488355328) then (if ((List.length ([]:List (Int × Int))+List.length x0.2.2)*16≤140737488355328) then (some ((([]:List (Int × (Int × Int))) ++ x0.1),((([]:List (Int × (Int × (Int × (Int × (Int × ByteArray)))))) ++ x0.2.1),(([]:List (Int × Int)) ++ x0.2.2)))) else none) else none) else none
theorem c122 (k:Nat) (x0:tG) (r:tG) (hF:f122 k x0=some r):PCall Try.prog 122 [⟨sh12,x0⟩] [⟨sh10,r⟩]:=by
 refine pcall_intro Try.func122 rfl rfl (Nat.le_of_ble_eq_true rfl) ?_
 intro w0 Zi a w h
 rw [f122] at hF
 refine zs [1,2] h an fun a w h => ?_
 obtain ⟨hc1,hF⟩:=of_if hF
 obtain ⟨hc2,hF⟩:=of_if hF
 obtain ⟨hc3,hF⟩:=of_if hF
 refine wp_regy_seq tok (orc:=o0) (l:=[2]) ([],[(3,[3]),(7,[7])],[],[(4,[]),(5,[1]),(6,[1,8]),(8,[]),(9,[1]),(10,[1,12])]) 11 nw h (by kernel_rfl) (by kernel_rfl) (ac hc1 (ac hc2 (ac hc3 an))) fun a w h => ?_
 cases hF
 exact wp_ret (ret_okR tok h rfl (by kernel_rfl)).1
def f123.l22 (k:Nat) (x0:(List (Int × Int))) (x1:(Int × Int)):Nat → (Int × Int)→Option (List (Int × Int))
 | 0,_ => none
 | m22+1,(v37,v38) => if (decide (v37 < v38)) then (if (((2:Int):Int)≠0) then (if (0 ≤ (IntKind.i64.wrap (Int.tdiv (IntKind.i64.wrap (v37+v38)) (2:Int))) ∧ (IntKind.i64.wrap (Int.tdiv (IntKind.i64.wrap (v37+v38)) (2:Int))) < (List.length x0:Int)) then ((f151 k (List.getD x0 (Int.toNat (IntKind.i64.wrap (Int.tdiv (IntKind.i64.wrap (v37+v38)) (2:Int)))) ((0:Int),(0:Int))) x1).bind fun r39 => (if r39 then ((f123.l22 k x0 x1) m22 ((IntKind.i64.wrap ((IntKind.i64.wrap (Int.tdiv (IntKind.i64.wrap (v37+v38)) (2:Int))) + (1:Int))),v38)) else ((f123.l22 k x0 x1) m22 (v37,(IntKind.i64.wrap (Int.tdiv (IntKind.i64.wrap (v37+v38)) (2:Int))))))) else none) else none) else (if (((decide (v37 < (List.length x0:Int)))=true) → (0≤v37∧v37 < (List.length x0:Int))) then (if (bif (decide (v37 < (List.length x0:Int))) then (Sh.beq sh5 (List.getD x0 (Int.toNat v37) ((0:Int),(0:Int))) x1) else false) then (some x0) else (if (True ∧ ((0:Int)≤v37)∧0 ≤ (Int.toNat v37) ∧ (Int.toNat v37) ≤ (List.length x0)) then (if ((List.length ([]:List (Int × Int))+List.length (List.drop 0 (List.take (Int.toNat v37) x0)))*16≤140737488355328) then (if ((List.length (([]:List (Int × Int)) ++ (List.drop 0 (List.take (Int.toNat v37) x0)))+List.length [x1])*16≤140737488355328) then (if (((0:Int)≤v37)∧True ∧ (Int.toNat v37) ≤ (List.length x0) ∧ (List.length x0) ≤ (List.length x0)) then (if ((List.length ((([]:List (Int × Int)) ++ (List.drop 0 (List.take (Int.toNat v37) x0))) ++ [x1])+List.length (List.drop (Int.toNat v37) (List.take (List.length x0) x0)))*16≤140737488355328) then (some (((([]:List (Int × Int)) ++ (List.drop 0 (List.take (Int.toNat v37) x0))) ++ [x1]) ++ (List.drop (Int.toNat v37) (List.take (List.length x0) x0)))) else none) else none) else none) else none) else none)) else none)
def f123 (k:Nat) (x0:(List (Int × Int))) (x1:(Int × Int)):Option (List (Int × Int)):=f123.l22 k x0 x1 k ((0:Int),(List.length x0:Int))
theorem c123 (k:Nat) (x0:(List (Int × Int))) (x1:(Int × Int)) (r:(List (Int × Int))) (hF:f123 k x0 x1=some r):PAns Try.prog 123 [⟨sh9,x0⟩,⟨sh5,x1⟩] ⟨sh9,r⟩ 0:=by
 refine pans_intro (j:=0) (ins':=[⟨sh15,x0⟩,⟨sh5,x1⟩]) Try.func123 rfl rfl (Nat.le_of_ble_eq_true rfl) rfl (by kernel_rfl) (by kernel_rfl) (by kernel_rfl) ?_
 intro w0 Zi v0 a w h
 rw [f123] at hF
 refine zs [0,3] h an fun a w h => ?_
 refine zs [0,3,5] h an fun a w h => ?_
 refine zs [0,3,5,6] h an fun a w h => ?_
 refine wp_seq <| wp_block ?_
 refine wp_loop_fuel (f123.l22 k x0 x1) (fun ((v37,v38):(Int × Int)) => [(0,.val sh15 x0),(3,.val sh16 (some x1)),(5,.val iS v37),(6,.val iS v38)]) (fun v h => by obtain ⟨v37,v38⟩:=v; rw [f123.l22] at h; cases h) ?_ hF (ar h [0,3,5,6])
 intro m22 v a w hF h
 obtain ⟨v37,v38⟩:=v
 rw [f123.l22] at hF
 refine wp_seq ?_
 refine zs [0,3,5,6,12] h an fun a w h => ?_
 refine zi h hF (fun hF => ?_) (fun hF => ?_)
 ·refine wp_skip ?_
  refine wp_block ?_
  obtain ⟨hc42,hF⟩:=of_if hF
  refine zs [0,3,5,6,7] h (ac hc42 an) fun a w h => ?_
  obtain ⟨hc40,hF⟩:=of_if hF
  obtain ⟨r39,hr41,hF⟩:=of_bind hF
  refine wp_regy_seq tok (orc:=orcL [(22,[⟨.bool,r39⟩])]) (l:=[0,3,5,6,7,22]) ([],[],[],[]) 6 nw h (by kernel_rfl) (by kernel_rfl) (ac hc40 (ac (c151 k (gD x0 (tZ (w64 (Int.tdiv (w64 (v37+v38)) (2:Int)))) (iO,iO)) x1 r39 hr41) an)) fun a w h => ?_
  refine zi h hF (fun hF => ?_) (fun hF => ?_)
  ·refine zt [0,3,5,6] h an fun a w h => ?_
   exact ⟨((w64 ((w64 (Int.tdiv (w64 (v37+v38)) (2:Int))) + (1:Int))),v38),hF,ar h [0,3,5,6]⟩
  ·refine zt [0,3,5,6] h an fun a w h => ?_
   exact ⟨(v37,(w64 (Int.tdiv (w64 (v37+v38)) (2:Int)))),hF,ar h [0,3,5,6]⟩
 ·refine wp_exit ?_
  refine wp_seq ?_
  obtain ⟨hc48,hF⟩:=of_if hF
  refine wp_regy_seq tok (orc:=o0) (l:=[0,3,5,37]) ([],[],[],[]) 12 nw h (by kernel_rfl) (by kernel_rfl) (ac hc48 (ac (fun (_:((decide (v37 < (List.length x0:Int)))=true)) => (And.intro (show eqTy Try.prog 9 174 (.st (.pair iS iS))=true from by kernel_rfl) (show Try.prog.eqGuardType Try.prog.depth 174=false from by kernel_rfl))) an)) fun a w h => ?_
  refine zi h hF (fun hF => ?_) (fun hF => ?_)
  ·cases hF
   exact wp_retarg (fn:=Try.f123) (d:=4) (tv:=⟨sh9,x0⟩) (out:=⟨sh9,x0⟩) h (by kernel_rfl) (Nat.le_of_ble_eq_true rfl) (by intro x hx; exact (Option.some.inj hx).symm) rfl rfl rfl rfl (fun _ _ h => h)
  ·refine wp_skip ?_
   obtain ⟨hc43,hF⟩:=of_if hF
   obtain ⟨hc44,hF⟩:=of_if hF
   obtain ⟨hc45,hF⟩:=of_if hF
   obtain ⟨hc46,hF⟩:=of_if hF
   obtain ⟨hc47,hF⟩:=of_if hF
   refine wp_regy_seq tok (orc:=o0) (l:=[4]) ([],[(4,[39]),(7,[43])],[],[(5,[3]),(6,[44]),(8,[0]),(9,[5]),(10,[47,48])]) 11 nw h (by kernel_rfl) (by kernel_rfl) (ac hc43 (ac hc44 (ac hc45 (ac hc46 (ac hc47 an))))) fun a w h => ?_
   cases hF
   exact wp_ret (retA_ok tok h rfl (by kernel_rfl)).1
def f62.j1428 (k:Nat) (v1421:Int) (q1387:((List Int) × Bool × Int)→Option ((List (Int × (Int × Int))) × ((List (Int × (Int × (Int × (Int × (Int × ByteArray)))))) × (List (Int × Int))))):((List Int) × Bool)→Option ((List (Int × (Int × Int))) × ((List (Int × (Int × (Int × (Int × (Int × ByteArray)))))) × (List (Int × Int))))
 | (v1426,v1427) => q1387 (v1426,v1427,(IntKind.i64.wrap (v1421 + (1:Int))))
def f62.l1433 (k:Nat) (v1419:(List Int)) (v1420:Bool) (v1220:Int) (q732:(((List (Int × (Int × Int))) × ((List (Int × (Int × (Int × (Int × (Int × ByteArray)))))) × (List (Int × Int)))) × Int)→Option ((List (Int × (Int × Int))) × ((List (Int × (Int × (Int × (Int × (Int × ByteArray)))))) × (List (Int × Int))))):Nat → (((List (Int × (Int × Int))) × ((List (Int × (Int × (Int × (Int × (Int × ByteArray)))))) × (List (Int × Int)))) × Int)→Option ((List (Int × (Int × Int))) × ((List (Int × (Int × (Int × (Int × (Int × ByteArray)))))) × (List (Int × Int))))
 | 0,_ => none
 | m1433+1,(v1452,v1453) => if (bif (decide (v1453 < (List.length v1419:Int))) then v1420 else false) then (if (0≤v1453∧v1453 < (List.length v1419:Int)) then ((f123 k v1452.2.2 (v1220,(List.getD v1419 (Int.toNat v1453) (0:Int)))).bind fun r1457 => (if (decide (((List.length r1457:Int):Int) > (2000:Int))) then (some (([]:(List (Int × (Int × Int)))),(([]:(List (Int × (Int × (Int × (Int × (Int × ByteArray))))))),([]:(List (Int × Int)))))) else ((f62.l1433 k v1419 v1420 v1220 q732) m1433 ((v1452.1,(v1452.2.1,r1457)),(IntKind.i64.wrap (v1453 + (1:Int))))))) else none) else (q732 (v1452,(IntKind.i64.wrap (v1220 + (1:Int)))))
def f62.l1387 (k:Nat) (x0:((List (Int × (Int × Int))) × ((List (Int × (Int × (Int × (Int × (Int × ByteArray)))))) × (List (Int × Int))))) (v1220:Int) (v1219:((List (Int × (Int × Int))) × ((List (Int × (Int × (Int × (Int × (Int × ByteArray)))))) × (List (Int × Int))))) (q732:(((List (Int × (Int × Int))) × ((List (Int × (Int × (Int × (Int × (Int × ByteArray)))))) × (List (Int × Int)))) × Int)→Option ((List (Int × (Int × Int))) × ((List (Int × (Int × (Int × (Int × (Int × ByteArray)))))) × (List (Int × Int))))):Nat → ((List Int) × Bool × Int)→Option ((List (Int × (Int × Int))) × ((List (Int × (Int × (Int × (Int × (Int × ByteArray)))))) × (List (Int × Int))))
 | 0,_ => none
 | m1387+1,(v1419,v1420,v1421) => if (decide (v1421 < (List.length x0.2.1:Int))) then (if (0≤v1421∧v1421 < (List.length x0.2.1:Int)) then (if (((List.getD x0.2.1 (Int.toNat v1421) ((0:Int),((0:Int),((0:Int),((0:Int),((0:Int),(⟨#[]⟩:ByteArray))))))).1:Int) != (List.getD x0.2.1 (Int.toNat v1220) ((0:Int),((0:Int),((0:Int),((0:Int),((0:Int),(⟨#[]⟩:ByteArray))))))).2.1) then (f62.j1428 k v1421 ((f62.l1387 k x0 v1220 v1219 q732) m1387) (v1419,v1420)) else ((some ((bif (((List.getD x0.2.1 (Int.toNat v1421) ((0:Int),((0:Int),((0:Int),((0:Int),((0:Int),(⟨#[]⟩:ByteArray))))))).2.1:Int) == (List.getD x0.2.1 (Int.toNat v1220) ((0:Int),((0:Int),((0:Int),((0:Int),((0:Int),(⟨#[]⟩:ByteArray))))))).1) then (((List.getD x0.2.1 (Int.toNat v1421) ((0:Int),((0:Int),((0:Int),((0:Int),((0:Int),(⟨#[]⟩:ByteArray))))))).2.2.1:Int) == (List.getD x0.2.1 (Int.toNat v1220) ((0:Int),((0:Int),((0:Int),((0:Int),((0:Int),(⟨#[]⟩:ByteArray))))))).2.2.1) else false):Bool)).bind fun v1429 => (if v1429 then (if ((List.length v1419+List.length [v1421])*8≤140737488355328) then (f62.j1428 k v1421 ((f62.l1387 k x0 v1220 v1219 q732) m1387) ((v1419 ++ [v1421]),v1420)) else none) else (f62.j1428 k v1421 ((f62.l1387 k x0 v1220 v1219 q732) m1387) (v1419,true))))) else none) else (f62.l1433 k v1419 v1420 v1220 (q732) k (v1219,(0:Int)))
def f62.l732 (k:Nat) (x0:((List (Int × (Int × Int))) × ((List (Int × (Int × (Int × (Int × (Int × ByteArray)))))) × (List (Int × Int))))):Nat → (((List (Int × (Int × Int))) × ((List (Int × (Int × (Int × (Int × (Int × ByteArray)))))) × (List (Int × Int)))) × Int)→Option ((List (Int × (Int × Int))) × ((List (Int × (Int × (Int × (Int × (Int × ByteArray)))))) × (List (Int × Int))))
 | 0,_ => none
 | m732+1,(v1219,v1220) => if (decide (v1220 < (List.length x0.2.1:Int))) then (if (0≤v1220∧v1220 < (List.length x0.2.1:Int)) then (f62.l1387 k x0 v1220 v1219 ((f62.l732 k x0) m732) k (([]:List Int),false,(0:Int))) else none) else (some v1219)
def f62 (k:Nat) (x0:((List (Int × (Int × Int))) × ((List (Int × (Int × (Int × (Int × (Int × ByteArray)))))) × (List (Int × Int))))):Option ((List (Int × (Int × Int))) × ((List (Int × (Int × (Int × (Int × (Int × ByteArray)))))) × (List (Int × Int)))):=(f86 k x0).bind fun r1 => (if (!r1) then (some (([]:(List (Int × (Int × Int)))),(([]:(List (Int × (Int × (Int × (Int × (Int × ByteArray))))))),([]:(List (Int × Int)))))) else ((f122 k x0).bind fun r2 => (f62.l732 k x0 k (r2,(0:Int)))))
theorem c62 (k:Nat) (x0:tG) (r:tG) (hF:f62 k x0=some r):PCall Try.prog 62 [⟨sh12,x0⟩] [⟨sh10,r⟩]:=by
 refine pcall_intro Try.func62 rfl rfl (Nat.le_of_ble_eq_true rfl) ?_
 intro w0 Zi a w h
 rw [f62] at hF
 refine zs [1,2] h an fun a w h => ?_
 refine wp_seq ?_
 obtain ⟨r1,hr1462,hF⟩:=of_bind hF
 refine zc (orcL [(12,[⟨.bool,r1⟩])]) [1,2,13] h (ac (c86 k x0 r1 hr1462) an) fun a w h => ?_
 refine zi h hF (fun hF => ?_) (fun hF => ?_)
 ·refine zs [2] h an fun a w h => ?_
  cases hF
  exact wp_ret (ret_okR tok h rfl (by kernel_rfl)).1
 ·refine wp_skip ?_
  obtain ⟨r2,hr1461,hF⟩:=of_bind hF
  refine zc (orcL [(16,[⟨sh10,r2⟩])]) [1,2,3] h (ac (c122 k x0 r2 hr1461) an) fun a w h => ?_
  refine wp_seq ?_
  refine zs [1,2,3,4] h an fun a w h => ?_
  refine wp_block ?_
  refine wp_loop_fuel (f62.l732 k x0) (fun ((v1219,v1220):(tG × Int)) => [(1,.val sh11 (some x0)),(2,.val sh13 (some (([]:(List (Int × (Int × Int)))),(([]:(List (Int × (Int × (Int × (Int × (Int × ByteArray))))))),([]:(List (Int × Int))))))),(3,.val sh13 (some v1219)),(4,.val iS v1220)]) (fun v h => by obtain ⟨v1219,v1220⟩:=v; rw [f62.l732] at h; cases h) ?_ hF (ar h [1,2,3,4])
  intro m732 v a w hF h
  obtain ⟨v1219,v1220⟩:=v
  rw [f62.l732] at hF
  refine wp_seq ?_
  refine zs [1,2,3,4,21] h an fun a w h => ?_
  refine zi h hF (fun hF => ?_) (fun hF => ?_)
  ·refine wp_skip ?_
   refine wp_seq <| wp_block ?_
   obtain ⟨hc1460,hF⟩:=of_if hF
   refine zs [1,2,3,4,5] h (ac hc1460 an) fun a w h => ?_
   refine zs [1,2,3,4,5,6] h an fun a w h => ?_
   refine zs [1,2,3,4,5,6,7] h an fun a w h => ?_
   refine wp_seq ?_
   refine zs [1,2,3,4,5,6,7,8] h an fun a w h => ?_
   refine wp_block ?_
   refine wp_loop_fuel (f62.l1387 k x0 v1220 v1219 ((f62.l732 k x0) m732)) (fun ((v1419,v1420,v1421):((List Int) × Bool × Int)) => [(1,.val sh11 (some x0)),(2,.val sh13 (some (([]:(List (Int × (Int × Int)))),(([]:(List (Int × (Int × (Int × (Int × (Int × ByteArray))))))),([]:(List (Int × Int))))))),(3,.val sh13 (some v1219)),(4,.val iS v1220),(5,.val sh14 (some (gD x0.2.1 (tZ v1220) zR))),(6,.val (.sl true 2 iS) v1419),(7,.val .bool v1420),(8,.val iS v1421)]) (fun v h => by obtain ⟨v1419,v1420,v1421⟩:=v; rw [f62.l1387] at h; cases h) ?_ hF (ar h [1,2,3,4,5,6,7,8])
   intro m1387 v a w hF h
   obtain ⟨v1419,v1420,v1421⟩:=v
   rw [f62.l1387] at hF
   refine wp_seq ?_
   refine zs [1,2,3,4,5,6,7,8,34] h an fun a w h => ?_
   refine zi h hF (fun hF => ?_) (fun hF => ?_)
   ·refine wp_skip ?_
    refine wp_mid (fun a w => ∃ v:((List Int) × Bool),f62.j1428 k v1421 ((f62.l1387 k x0 v1220 v1219 ((f62.l732 k x0) m732)) m1387) v=some r∧Rel w0 (fun _ => False) Zi Try.f62.ntmps ((fun ((v1426,v1427):((List Int) × Bool)) => ([(1,.val sh11 (some x0)),(2,.val sh13 (some (([]:(List (Int × (Int × Int)))),(([]:(List (Int × (Int × (Int × (Int × (Int × ByteArray))))))),([]:(List (Int × Int))))))),(3,.val sh13 (some v1219)),(4,.val iS v1220),(5,.val sh14 (some (gD x0.2.1 (tZ v1220) zR))),(6,.val (.sl true 2 iS) v1426),(7,.val .bool v1427),(8,.val iS v1421)]:SS)) v) a w) ?_ ?_
    ·
     refine wp_block ?_
     obtain ⟨hc1432,hF⟩:=of_if hF
     refine zs [1,2,3,4,5,6,7,8,9] h (ac hc1432 an) fun a w h => ?_
     refine wp_seq ?_
     refine zs [1,2,3,4,5,6,7,8,9,46] h an fun a w h => ?_
     refine zi h hF (fun hF => ?_) (fun hF => ?_)
     ·refine wp_exit ?_
      exact ⟨(v1419,v1420),hF,ar h [1,2,3,4,5,6,7,8]⟩
     ·refine wp_skip ?_
      refine zs [1,2,3,4,5,6,7,8,58] h an fun a w h => ?_
      obtain ⟨v1429,hv1431,hF⟩:=of_bind hF
      replace h:=h.cast (S':=[(1,.val sh11 (some x0)),(2,.val sh13 (some (([]:(List (Int × (Int × Int)))),(([]:(List (Int × (Int × (Int × (Int × (Int × ByteArray))))))),([]:(List (Int × Int))))))),(3,.val sh13 (some v1219)),(4,.val iS v1220),(5,.val sh14 (some (gD x0.2.1 (tZ v1220) zR))),(6,.val (.sl true 2 iS) v1419),(7,.val .bool v1420),(8,.val iS v1421),(58,.val .bool v1429)]) (by cases hv1431; kernel_rfl)
      refine zi h hF (fun hF => ?_) (fun hF => ?_)
      ·obtain ⟨hc1430,hF⟩:=of_if hF
       refine zt [1,2,3,4,5,6,7,8] h (ac hc1430 an) fun a w h => ?_
       exact ⟨((v1419 ++ [v1421]),v1420),hF,ar h [1,2,3,4,5,6,7,8]⟩
      ·refine zt [1,2,3,4,5,6,7,8] h an fun a w h => ?_
       exact ⟨(v1419,true),hF,ar h [1,2,3,4,5,6,7,8]⟩
    ·rintro a w ⟨v,hF,h⟩
     obtain ⟨v1426,v1427⟩:=v
     rw [f62.j1428] at hF
     refine zt [1,2,3,4,5,6,7,8] h an fun a w h => ?_
     exact ⟨(v1426,v1427,(w64 (v1421 + (1:Int)))),hF,ar h [1,2,3,4,5,6,7,8]⟩
   ·refine wp_exit ?_
    refine zs [1,2,3,4,6,7,10] h an fun a w h => ?_
    refine wp_block ?_
    refine wp_loop_fuel (f62.l1433 k v1419 v1420 v1220 ((f62.l732 k x0) m732)) (fun ((v1452,v1453):(tG × Int)) => [(1,.val sh11 (some x0)),(2,.val sh13 (some (([]:(List (Int × (Int × Int)))),(([]:(List (Int × (Int × (Int × (Int × (Int × ByteArray))))))),([]:(List (Int × Int))))))),(3,.val sh13 (some v1452)),(4,.val iS v1220),(6,.val (.sl true 2 iS) v1419),(7,.val .bool v1420),(10,.val iS v1453)]) (fun v h => by obtain ⟨v1452,v1453⟩:=v; rw [f62.l1433] at h; cases h) ?_ hF (ar h [1,2,3,4,6,7,10])
    intro m1433 v a w hF h
    obtain ⟨v1452,v1453⟩:=v
    rw [f62.l1433] at hF
    refine wp_seq ?_
    refine zs [1,2,3,4,6,7,10,69] h an fun a w h => ?_
    refine zi h hF (fun hF => ?_) (fun hF => ?_)
    ·refine wp_skip ?_
     refine wp_seq <| wp_block ?_
     obtain ⟨hc1458,hF⟩:=of_if hF
     obtain ⟨r1457,hr1459,hF⟩:=of_bind hF
     refine wp_regX_seq (sxA_ok tok (orc:=o0) (spA:=[(8,⟨sh9,r1457⟩)]) (sp:=[])) [((1,.val sh11 (some x0)),none,none),((2,.val sh13 (some (([]:(List (Int × (Int × Int)))),(([]:(List (Int × (Int × (Int × (Int × (Int × ByteArray))))))),([]:(List (Int × Int))))))),none,none),((3,.val sh13 (some v1452)),none,some 10),((3,.val sh13 (some (v1452.1,(v1452.2.1,r1457)))),some 10,none),((4,.val iS v1220),none,none),((6,.val (.sl true 2 iS) v1419),none,none),((7,.val .bool v1420),none,none),((10,.val iS v1453),none,none),((69,.val .bool (bif (decide (v1453 < (List.length v1419:Int))) then v1420 else false)),none,some 10),((72,.addr 3 [.der,.snd,.snd]),some 0,some 10),((73,.copy 3 [.der,.snd,.snd]),some 1,some 10),((74,.val iS v1220),some 2,some 10),((75,.copy 6 []),some 3,some 10),((76,.val iS v1453),some 4,some 10),((77,.addr 6 [.idx (tZ v1453)]),some 5,some 10),((78,.val iS (gD v1419 (tZ v1453) iO)),some 6,some 10),((79,.val sh5 (v1220,(gD v1419 (tZ v1453) iO))),some 7,some 10),((80,.grown 3 [.der,.snd,.snd] ⟨sh9,r1457⟩),some 8,some 10),((81,.addr 3 [.der,.snd,.snd]),some 9,some 10)] [] [0,1,5,13,29,31,61,63,125,127,253,255,511,1023,2047] 2047 [(5,0,1),(8,1,1),(10,2,1)] h (by kernel_rfl) (by kernel_rfl) (by kernel_rfl) (ac hc1458 (ac (c123 k v1452.2.2 (v1220,(gD v1419 (tZ v1453) iO)) r1457 hr1459) (ac (show ([.der,.snd,.snd]:Path)=[.der,.snd,.snd] from rfl) an))) (fun _ _ _ _ _ h => h) fun a w h => ?_
     refine zs [1,2,3,4,6,7,10,85] h an fun a w h => ?_
     refine zi h hF (fun hF => ?_) (fun hF => ?_)
     ·refine zs [2] h an fun a w h => ?_
      cases hF
      exact wp_ret (ret_okR tok h rfl (by kernel_rfl)).1
     ·refine wp_skip ?_
      refine zt [1,2,3,4,6,7,10] h an fun a w h => ?_
      exact ⟨((v1452.1,(v1452.2.1,r1457)),(w64 (v1453 + (1:Int)))),hF,ar h [1,2,3,4,6,7,10]⟩
    ·refine wp_exit ?_
     refine zt [1,2,3,4] h an fun a w h => ?_
     exact ⟨(v1452,(w64 (v1220 + (1:Int)))),hF,ar h [1,2,3,4]⟩
  ·refine wp_exit ?_
   refine zs [2] h an fun a w h => ?_
   cases hF
   exact wp_ret (ret_okR tok h rfl (by kernel_rfl)).1
def f146 (k:Nat) (x0:Int):Option Bool:=some (bif (decide (x0 ≥ (1:Int))) then (decide (x0 ≤ (1000000000:Int))) else false)
theorem c146 (k:Nat) (x0:Int) (r:Bool) (hF:f146 k x0=some r):PCall Try.prog 146 [⟨iS,x0⟩] [⟨.bool,r⟩]:=by
 refine pcall_intro Try.func146 rfl rfl (Nat.le_of_ble_eq_true rfl) ?_
 intro w0 Zi a w h
 rw [f146] at hF
 refine zs [0] h an fun a w h => ?_
 refine zs [2] h an fun a w h => ?_
 cases hF
 exact wp_ret (ret_okR tok h rfl (by kernel_rfl)).1
def f147 (k:Nat) (x0:(Int × Int)):Option Bool:=some (bif (bif (bif (decide (x0.1 ≥ (-10000000:Int))) then (decide (x0.1 ≤ (10000000:Int))) else false) then (decide (x0.2 ≥ (-10000000:Int))) else false) then (decide (x0.2 ≤ (10000000:Int))) else false)
theorem c147 (k:Nat) (x0:(Int × Int)) (r:Bool) (hF:f147 k x0=some r):PCall Try.prog 147 [⟨sh5,x0⟩] [⟨.bool,r⟩]:=by
 refine pcall_intro Try.func147 rfl rfl (Nat.le_of_ble_eq_true rfl) ?_
 intro w0 Zi a w h
 rw [f147] at hF
 refine zs [1] h an fun a w h => ?_
 refine zs [2] h an fun a w h => ?_
 cases hF
 exact wp_ret (ret_okR tok h rfl (by kernel_rfl)).1
def f92.j256 (k:Nat) (v247:Int) (q209:Int→Option Bool):Unit→Option Bool
 | _ => q209 (IntKind.i64.wrap (v247 + (1:Int)))
def f92.l209 (k:Nat) (x0:((List (Int × (Int × Int))) × ((List (Int × (Int × (Int × (Int × (Int × ByteArray)))))) × (List (Int × Int))))):Nat→Int→Option Bool
 | 0,_ => none
 | m209+1,v247 => if (decide (v247 < (List.length x0.2.2:Int))) then (if (0≤v247∧v247 < (List.length x0.2.2:Int)) then (if (((bif (bif (bif (decide (((List.getD x0.2.2 (Int.toNat v247) ((0:Int),(0:Int))).1:Int) < (0:Int))) then true else (decide (((List.getD x0.2.2 (Int.toNat v247) ((0:Int),(0:Int))).1:Int) ≥ (List.length x0.2.1:Int)))) then true else (decide (((List.getD x0.2.2 (Int.toNat v247) ((0:Int),(0:Int))).2:Int) < (0:Int)))) then true else (decide (((List.getD x0.2.2 (Int.toNat v247) ((0:Int),(0:Int))).2:Int) ≥ (List.length x0.2.1:Int))))=false) → (0 ≤ (List.getD x0.2.2 (Int.toNat v247) ((0:Int),(0:Int))).1 ∧ (List.getD x0.2.2 (Int.toNat v247) ((0:Int),(0:Int))).1 < (List.length x0.2.1:Int))) then (if (((bif (bif (bif (decide (((List.getD x0.2.2 (Int.toNat v247) ((0:Int),(0:Int))).1:Int) < (0:Int))) then true else (decide (((List.getD x0.2.2 (Int.toNat v247) ((0:Int),(0:Int))).1:Int) ≥ (List.length x0.2.1:Int)))) then true else (decide (((List.getD x0.2.2 (Int.toNat v247) ((0:Int),(0:Int))).2:Int) < (0:Int)))) then true else (decide (((List.getD x0.2.2 (Int.toNat v247) ((0:Int),(0:Int))).2:Int) ≥ (List.length x0.2.1:Int))))=false) → (0 ≤ (List.getD x0.2.2 (Int.toNat v247) ((0:Int),(0:Int))).2 ∧ (List.getD x0.2.2 (Int.toNat v247) ((0:Int),(0:Int))).2 < (List.length x0.2.1:Int))) then ((some ((bif (bif (bif (bif (decide (((List.getD x0.2.2 (Int.toNat v247) ((0:Int),(0:Int))).1:Int) < (0:Int))) then true else (decide (((List.getD x0.2.2 (Int.toNat v247) ((0:Int),(0:Int))).1:Int) ≥ (List.length x0.2.1:Int)))) then true else (decide (((List.getD x0.2.2 (Int.toNat v247) ((0:Int),(0:Int))).2:Int) < (0:Int)))) then true else (decide (((List.getD x0.2.2 (Int.toNat v247) ((0:Int),(0:Int))).2:Int) ≥ (List.length x0.2.1:Int)))) then true else (((List.getD x0.2.1 (Int.toNat (List.getD x0.2.2 (Int.toNat v247) ((0:Int),(0:Int))).1) ((0:Int),((0:Int),((0:Int),((0:Int),((0:Int),(⟨#[]⟩:ByteArray))))))).2.1:Int) != (List.getD x0.2.1 (Int.toNat (List.getD x0.2.2 (Int.toNat v247) ((0:Int),(0:Int))).2) ((0:Int),((0:Int),((0:Int),((0:Int),((0:Int),(⟨#[]⟩:ByteArray))))))).1)):Bool)).bind fun v257 => (if v257 then (some false) else (if (decide (v247 > (0:Int))) then (if (0 ≤ (IntKind.i64.wrap (v247 - (1:Int))) ∧ (IntKind.i64.wrap (v247 - (1:Int))) < (List.length x0.2.2:Int)) then ((some ((bif (decide (((List.getD x0.2.2 (Int.toNat (IntKind.i64.wrap (v247 - (1:Int)))) ((0:Int),(0:Int))).1:Int) > (List.getD x0.2.2 (Int.toNat v247) ((0:Int),(0:Int))).1)) then true else (bif (((List.getD x0.2.2 (Int.toNat (IntKind.i64.wrap (v247 - (1:Int)))) ((0:Int),(0:Int))).1:Int) == (List.getD x0.2.2 (Int.toNat v247) ((0:Int),(0:Int))).1) then (decide (((List.getD x0.2.2 (Int.toNat (IntKind.i64.wrap (v247 - (1:Int)))) ((0:Int),(0:Int))).2:Int) ≥ (List.getD x0.2.2 (Int.toNat v247) ((0:Int),(0:Int))).2)) else false)):Bool)).bind fun v258 => (if v258 then (some false) else (f92.j256 k v247 ((f92.l209 k x0) m209) ()))) else none) else (f92.j256 k v247 ((f92.l209 k x0) m209) ())))) else none) else none) else none) else (some true)
def f92.l118 (k:Nat) (x0:((List (Int × (Int × Int))) × ((List (Int × (Int × (Int × (Int × (Int × ByteArray)))))) × (List (Int × Int))))):Nat→Int→Option Bool
 | 0,_ => none
 | m118+1,v142 => if (decide (v142 < (List.length x0.2.1:Int))) then (if (0≤v142∧v142 < (List.length x0.2.1:Int)) then ((if ((bif (bif (bif (decide (((List.getD x0.2.1 (Int.toNat v142) ((0:Int),((0:Int),((0:Int),((0:Int),((0:Int),(⟨#[]⟩:ByteArray))))))).1:Int) < (0:Int))) then true else (decide (((List.getD x0.2.1 (Int.toNat v142) ((0:Int),((0:Int),((0:Int),((0:Int),((0:Int),(⟨#[]⟩:ByteArray))))))).1:Int) ≥ (List.length x0.1:Int)))) then true else (decide (((List.getD x0.2.1 (Int.toNat v142) ((0:Int),((0:Int),((0:Int),((0:Int),((0:Int),(⟨#[]⟩:ByteArray))))))).2.1:Int) < (0:Int)))) then true else (decide (((List.getD x0.2.1 (Int.toNat v142) ((0:Int),((0:Int),((0:Int),((0:Int),((0:Int),(⟨#[]⟩:ByteArray))))))).2.1:Int) ≥ (List.length x0.1:Int))))=false) then f146 k (List.getD x0.2.1 (Int.toNat v142) ((0:Int),((0:Int),((0:Int),((0:Int),((0:Int),(⟨#[]⟩:ByteArray))))))).2.2.1 else some default).bind fun r148 => ((some ((bif (bif (bif (bif (bif (bif (bif (bif (decide (((List.getD x0.2.1 (Int.toNat v142) ((0:Int),((0:Int),((0:Int),((0:Int),((0:Int),(⟨#[]⟩:ByteArray))))))).1:Int) < (0:Int))) then true else (decide (((List.getD x0.2.1 (Int.toNat v142) ((0:Int),((0:Int),((0:Int),((0:Int),((0:Int),(⟨#[]⟩:ByteArray))))))).1:Int) ≥ (List.length x0.1:Int)))) then true else (decide (((List.getD x0.2.1 (Int.toNat v142) ((0:Int),((0:Int),((0:Int),((0:Int),((0:Int),(⟨#[]⟩:ByteArray))))))).2.1:Int) < (0:Int)))) then true else (decide (((List.getD x0.2.1 (Int.toNat v142) ((0:Int),((0:Int),((0:Int),((0:Int),((0:Int),(⟨#[]⟩:ByteArray))))))).2.1:Int) ≥ (List.length x0.1:Int)))) then true else (!r148)) then true else (decide (((List.getD x0.2.1 (Int.toNat v142) ((0:Int),((0:Int),((0:Int),((0:Int),((0:Int),(⟨#[]⟩:ByteArray))))))).2.2.2.1:Int) < (1:Int)))) then true else (decide (((List.getD x0.2.1 (Int.toNat v142) ((0:Int),((0:Int),((0:Int),((0:Int),((0:Int),(⟨#[]⟩:ByteArray))))))).2.2.2.1:Int) > (1000000:Int)))) then true else (decide (((List.getD x0.2.1 (Int.toNat v142) ((0:Int),((0:Int),((0:Int),((0:Int),((0:Int),(⟨#[]⟩:ByteArray))))))).2.2.2.2.1:Int) < (0:Int)))) then true else (decide (((List.getD x0.2.1 (Int.toNat v142) ((0:Int),((0:Int),((0:Int),((0:Int),((0:Int),(⟨#[]⟩:ByteArray))))))).2.2.2.2.1:Int) > (1000000000:Int)))):Bool)).bind fun v149 => (if v149 then (some false) else ((f92.l118 k x0) m118 (IntKind.i64.wrap (v142 + (1:Int))))))) else none) else (f92.l209 k x0 k (0:Int))
def f92.l42 (k:Nat) (x0:((List (Int × (Int × Int))) × ((List (Int × (Int × (Int × (Int × (Int × ByteArray)))))) × (List (Int × Int))))):Nat→Int→Option Bool
 | 0,_ => none
 | m42+1,v70 => if (decide (v70 < (List.length x0.1:Int))) then (if (0≤v70∧v70 < (List.length x0.1:Int)) then ((f146 k (List.getD x0.1 (Int.toNat v70) ((0:Int),((0:Int),(0:Int)))).1).bind fun r77 => ((if ((!r77)=false) then f147 k (List.getD x0.1 (Int.toNat v70) ((0:Int),((0:Int),(0:Int)))).2 else some default).bind fun r78 => (if ((((bif (!r77) then true else (!r78))=false) ∧ ((decide (v70 > (0:Int)))=true)) → (0 ≤ (IntKind.i64.wrap (v70 - (1:Int))) ∧ (IntKind.i64.wrap (v70 - (1:Int))) < (List.length x0.1:Int))) then (if (bif (bif (!r77) then true else (!r78)) then true else (bif (decide (v70 > (0:Int))) then (decide (((List.getD x0.1 (Int.toNat (IntKind.i64.wrap (v70 - (1:Int)))) ((0:Int),((0:Int),(0:Int)))).1:Int) ≥ (List.getD x0.1 (Int.toNat v70) ((0:Int),((0:Int),(0:Int)))).1)) else false)) then (some false) else ((f92.l42 k x0) m42 (IntKind.i64.wrap (v70 + (1:Int))))) else none))) else none) else (f92.l118 k x0 k (0:Int))
def f92 (k:Nat) (x0:((List (Int × (Int × Int))) × ((List (Int × (Int × (Int × (Int × (Int × ByteArray)))))) × (List (Int × Int))))):Option Bool:=if (bif (bif (decide (((List.length x0.1:Int):Int) > (5000:Int))) then true else (decide (((List.length x0.2.1:Int):Int) > (8000:Int)))) then true else (decide (((List.length x0.2.2:Int):Int) > (2000:Int)))) then (some false) else (f92.l42 k x0 k (0:Int))
theorem c92 (k:Nat) (x0:tG) (r:Bool) (hF:f92 k x0=some r):PCall Try.prog 92 [⟨sh12,x0⟩] [⟨.bool,r⟩]:=by
 refine pcall_intro Try.func92 rfl rfl (Nat.le_of_ble_eq_true rfl) ?_
 intro w0 Zi a w h
 rw [f92] at hF
 refine zs [1] h an fun a w h => ?_
 refine wp_seq ?_
 refine zs [1,27] h an fun a w h => ?_
 refine zi h hF (fun hF => ?_) (fun hF => ?_)
 ·refine zs [2] h an fun a w h => ?_
  cases hF
  exact wp_ret (ret_okR tok h rfl (by kernel_rfl)).1
 ·refine wp_skip ?_
  refine wp_seq ?_
  refine zs [1,29,30,31] h an fun a w h => ?_
  refine wp_block ?_
  refine wp_loop_fuel (f92.l42 k x0) (fun v70 => [(1,.val sh11 (some x0)),(29,.val sh17 x0.1),(30,.val iS (List.length x0.1:Int)),(31,.val iS v70)]) (fun v h => by rw [f92.l42] at h; cases h) ?_ hF (ar h [1,29,30,31])
  intro m42 v70 a w hF h
  rw [f92.l42] at hF
  refine zs [1,29,30,31,32] h an fun a w h => ?_
  refine wp_seq <| zi h hF (fun hF => ?_) (fun hF => ?_)
  ·refine wp_skip ?_
   refine wp_seq <| wp_block ?_
   obtain ⟨hc82,hF⟩:=of_if hF
   refine zs [1,3,4,29,30,31] h (ac hc82 an) fun a w h => ?_
   obtain ⟨r77,hr79,hF⟩:=of_bind hF
   obtain ⟨r78,hr80,hF⟩:=of_bind hF
   obtain ⟨hc81,hF⟩:=of_if hF
   refine wp_regy_seq tok (orc:=orcL [(38,[⟨.bool,r77⟩]),(43,[⟨.bool,r78⟩])]) (l:=[1,29,30,31,61]) ([],[],[],[]) 26 nw h (by kernel_rfl) (by kernel_rfl) (ac (c146 k (gD x0.1 (tZ v70) (iO,(iO,iO))).1 r77 hr79) (ac (fun (hg:((!r77)=false)) => c147 k (gD x0.1 (tZ v70) (iO,(iO,iO))).2 r78 (of_g hg hr80)) (ac hc81 an))) fun a w h => ?_
   refine zi h hF (fun hF => ?_) (fun hF => ?_)
   ·refine zs [2] h an fun a w h => ?_
    cases hF
    exact wp_ret (ret_okR tok h rfl (by kernel_rfl)).1
   ·refine wp_skip ?_
    refine zt [1,29,30,31] h an fun a w h => ?_
    exact ⟨(w64 (v70 + (1:Int))),hF,ar h [1,29,30,31]⟩
  ·refine wp_exit ?_
   refine zs [1,5] h an fun a w h => ?_
   refine wp_seq ?_
   refine zs [1,5,67,68,69] h an fun a w h => ?_
   refine wp_block ?_
   refine wp_loop_fuel (f92.l118 k x0) (fun v142 => [(1,.val sh11 (some x0)),(5,.val iS (List.length x0.1:Int)),(67,.val sh18 x0.2.1),(68,.val iS (List.length x0.2.1:Int)),(69,.val iS v142)]) (fun v h => by rw [f92.l118] at h; cases h) ?_ hF (ar h [1,5,67,68,69])
   intro m118 v142 a w hF h
   rw [f92.l118] at hF
   refine zs [1,5,67,68,69,70] h an fun a w h => ?_
   refine wp_seq <| zi h hF (fun hF => ?_) (fun hF => ?_)
   ·refine wp_skip ?_
    refine wp_seq <| wp_block ?_
    obtain ⟨hc152,hF⟩:=of_if hF
    refine zs [1,5,7,67,68,69] h (ac hc152 an) fun a w h => ?_
    obtain ⟨r148,hr151,hF⟩:=of_bind hF
    refine zc (orcL [(96,[⟨.bool,r148⟩])]) [1,5,67,68,69,118] h (ac (fun (hg:((bif (bif (bif (decide (((gD x0.2.1 (tZ v142) zR).1:Int) < iO)) then true else (decide (((gD x0.2.1 (tZ v142) zR).1:Int) ≥ (List.length x0.1:Int)))) then true else (decide (((gD x0.2.1 (tZ v142) zR).2.1:Int) < iO))) then true else (decide (((gD x0.2.1 (tZ v142) zR).2.1:Int) ≥ (List.length x0.1:Int))))=false)) => c146 k (gD x0.2.1 (tZ v142) zR).2.2.1 r148 (of_g hg hr151)) an) fun a w h => ?_
    obtain ⟨v149,hv150,hF⟩:=of_bind hF
    replace h:=h.cast (S':=[(1,.val sh11 (some x0)),(5,.val iS (List.length x0.1:Int)),(67,.val sh18 x0.2.1),(68,.val iS (List.length x0.2.1:Int)),(69,.val iS v142),(118,.val .bool v149)]) (by cases hv150; kernel_rfl)
    refine zi h hF (fun hF => ?_) (fun hF => ?_)
    ·refine zs [2] h an fun a w h => ?_
     cases hF
     exact wp_ret (ret_okR tok h rfl (by kernel_rfl)).1
    ·refine wp_skip ?_
     refine zt [1,5,67,68,69] h an fun a w h => ?_
     exact ⟨(w64 (v142 + (1:Int))),hF,ar h [1,5,67,68,69]⟩
   ·refine wp_exit ?_
    refine zs [1,8] h an fun a w h => ?_
    refine wp_seq ?_
    refine zs [1,8,124,125,126] h an fun a w h => ?_
    refine wp_block ?_
    refine wp_loop_fuel (f92.l209 k x0) (fun v247 => [(1,.val sh11 (some x0)),(8,.val iS (List.length x0.2.1:Int)),(124,.val sh15 x0.2.2),(125,.val iS (List.length x0.2.2:Int)),(126,.val iS v247)]) (fun v h => by rw [f92.l209] at h; cases h) ?_ hF (ar h [1,8,124,125,126])
    intro m209 v247 a w hF h
    rw [f92.l209] at hF
    refine zs [1,8,124,125,126,127] h an fun a w h => ?_
    refine wp_seq <| zi h hF (fun hF => ?_) (fun hF => ?_)
    ·refine wp_skip ?_
     refine wp_mid (fun a w => ∃ v:Unit,f92.j256 k v247 ((f92.l209 k x0) m209) v=some r∧Rel w0 (fun _ => False) Zi Try.f92.ntmps ((fun (_:Unit) => ([(1,.val sh11 (some x0)),(8,.val iS (List.length x0.2.1:Int)),(124,.val sh15 x0.2.2),(125,.val iS (List.length x0.2.2:Int)),(126,.val iS v247)]:SS)) v) a w) ?_ ?_
     ·
      refine wp_block ?_
      obtain ⟨hc264,hF⟩:=of_if hF
      refine zs [1,8,9,10,124,125,126] h (ac hc264 an) fun a w h => ?_
      refine wp_seq ?_
      obtain ⟨hc262,hF⟩:=of_if hF
      obtain ⟨hc263,hF⟩:=of_if hF
      refine wp_regy_seq tok (orc:=o0) (l:=[1,8,9,10,124,125,126,167]) ([],[],[],[]) 37 nw h (by kernel_rfl) (by kernel_rfl) (ac hc262 (ac hc263 an)) fun a w h => ?_
      obtain ⟨v257,hv261,hF⟩:=of_bind hF
      replace h:=h.cast (S':=[(1,.val sh11 (some x0)),(8,.val iS (List.length x0.2.1:Int)),(9,.val iS v247),(10,.val sh16 (some (gD x0.2.2 (tZ v247) (iO,iO)))),(124,.val sh15 x0.2.2),(125,.val iS (List.length x0.2.2:Int)),(126,.val iS v247),(167,.val .bool v257)]) (by cases hv261; kernel_rfl)
      refine zi h hF (fun hF => ?_) (fun hF => ?_)
      ·refine zs [2] h an fun a w h => ?_
       cases hF
       exact wp_ret (ret_okR tok h rfl (by kernel_rfl)).1
      ·refine wp_skip ?_
       refine zs [1,8,9,10,124,125,126,169] h an fun a w h => ?_
       refine zi h hF (fun hF => ?_) (fun hF => ?_)
       ·obtain ⟨hc260,hF⟩:=of_if hF
        refine zs [1,8,10,11,124,125,126] h (ac hc260 an) fun a w h => ?_
        refine zs [1,8,124,125,126,194] h an fun a w h => ?_
        obtain ⟨v258,hv259,hF⟩:=of_bind hF
        replace h:=h.cast (S':=[(1,.val sh11 (some x0)),(8,.val iS (List.length x0.2.1:Int)),(124,.val sh15 x0.2.2),(125,.val iS (List.length x0.2.2:Int)),(126,.val iS v247),(194,.val .bool v258)]) (by cases hv259; kernel_rfl)
        refine zi h hF (fun hF => ?_) (fun hF => ?_)
        ·refine zs [2] h an fun a w h => ?_
         cases hF
         exact wp_ret (ret_okR tok h rfl (by kernel_rfl)).1
        ·refine wp_skip ?_
         exact ⟨(),hF,ar h [1,8,124,125,126]⟩
       ·refine wp_skip ?_
        exact ⟨(),hF,ar h [1,8,124,125,126]⟩
     ·rintro a w ⟨v,hF,h⟩
      obtain ⟨⟩:=v
      rw [f92.j256] at hF
      refine zt [1,8,124,125,126] h an fun a w h => ?_
      exact ⟨(w64 (v247 + (1:Int))),hF,ar h [1,8,124,125,126]⟩
    ·refine wp_exit ?_
     refine zs [2] h an fun a w h => ?_
     cases hF
     exact wp_ret (ret_okR tok h rfl (by kernel_rfl)).1
def f124.l34 (k:Nat) (x0:((List (Int × (Int × Int))) × ((List (Int × (Int × (Int × (Int × (Int × ByteArray)))))) × (List (Int × Int))))):Nat → ((List (List Int)) × Int)→Option (List (List Int))
 | 0,_ => none
 | m34+1,(v57,v58) => if (decide (v58 < (List.length x0.2.1:Int))) then (if (0≤v58∧v58 < (List.length x0.2.1:Int)) then (if (0 ≤ (List.getD x0.2.1 (Int.toNat v58) ((0:Int),((0:Int),((0:Int),((0:Int),((0:Int),(⟨#[]⟩:ByteArray))))))).1 ∧ (List.getD x0.2.1 (Int.toNat v58) ((0:Int),((0:Int),((0:Int),((0:Int),((0:Int),(⟨#[]⟩:ByteArray))))))).1 < (List.length v57:Int)) then (if ((List.length (List.getD v57 (Int.toNat (List.getD x0.2.1 (Int.toNat v58) ((0:Int),((0:Int),((0:Int),((0:Int),((0:Int),(⟨#[]⟩:ByteArray))))))).1) ([]:(List Int)))+List.length [v58])*8≤140737488355328) then (if (0 ≤ (List.getD x0.2.1 (Int.toNat v58) ((0:Int),((0:Int),((0:Int),((0:Int),((0:Int),(⟨#[]⟩:ByteArray))))))).1 ∧ (List.getD x0.2.1 (Int.toNat v58) ((0:Int),((0:Int),((0:Int),((0:Int),((0:Int),(⟨#[]⟩:ByteArray))))))).1 < (List.length v57:Int)) then ((f124.l34 k x0) m34 ((List.set v57 (Int.toNat (List.getD x0.2.1 (Int.toNat v58) ((0:Int),((0:Int),((0:Int),((0:Int),((0:Int),(⟨#[]⟩:ByteArray))))))).1) (List.append (List.getD v57 (Int.toNat (List.getD x0.2.1 (Int.toNat v58) ((0:Int),((0:Int),((0:Int),((0:Int),((0:Int),(⟨#[]⟩:ByteArray))))))).1) ([]:(List Int))) [v58])),(IntKind.i64.wrap (v58 + (1:Int))))) else none) else none) else none) else none) else (some v57)
def f124 (k:Nat) (x0:((List (Int × (Int × Int))) × ((List (Int × (Int × (Int × (Int × (Int × ByteArray)))))) × (List (Int × Int))))):Option (List (List Int)):=if (0 ≤ (List.length x0.1:Int)∧Int.toNat (List.length x0.1:Int)*24≤140737488355328) then (f124.l34 k x0 k ((List.replicate (Int.toNat (List.length x0.1:Int)) ([]:(List Int))),(0:Int))) else none
theorem c124 (k:Nat) (x0:tG) (r:(List (List Int))) (hF:f124 k x0=some r):PCall Try.prog 124 [⟨sh12,x0⟩] [⟨sh19,r⟩]:=by
 refine pcall_intro Try.func124 rfl rfl (Nat.le_of_ble_eq_true rfl) ?_
 intro w0 Zi a w h
 rw [f124] at hF
 refine zs [1] h an fun a w h => ?_
 obtain ⟨hc67,hF⟩:=of_if hF
 refine zs [1,3] h (ac hc67 an) fun a w h => ?_
 refine wp_seq ?_
 refine zs [3,11,12,13] h an fun a w h => ?_
 refine wp_block ?_
 refine wp_loop_fuel (f124.l34 k x0) (fun ((v57,v58):((List (List Int)) × Int)) => [(3,.val sh19 v57),(11,.val sh18 x0.2.1),(12,.val iS (List.length x0.2.1:Int)),(13,.val iS v58)]) (fun v h => by obtain ⟨v57,v58⟩:=v; rw [f124.l34] at h; cases h) ?_ hF (ar h [3,11,12,13])
 intro m34 v a w hF h
 obtain ⟨v57,v58⟩:=v
 rw [f124.l34] at hF
 refine zs [3,11,12,13,14] h an fun a w h => ?_
 refine wp_seq <| zi h hF (fun hF => ?_) (fun hF => ?_)
 ·refine wp_skip ?_
  refine wp_seq <| wp_block ?_
  obtain ⟨hc66,hF⟩:=of_if hF
  refine zs [3,4,5,11,12,13] h (ac hc66 an) fun a w h => ?_
  obtain ⟨hc63,hF⟩:=of_if hF
  obtain ⟨hc64,hF⟩:=of_if hF
  obtain ⟨hc65,hF⟩:=of_if hF
  refine wp_regy tok (orc:=orcL [(28,[⟨.pt false 4294967293 .unit,some ()⟩])]) (l:=[3,11,12,13]) ([],[],[],[]) 12 nw h (by kernel_rfl) (by kernel_rfl) (ac hc63 (ac (PrefL.mk (l:=[[],[],[.idx (tZ (gD x0.2.1 (tZ v58) zR).1)],[.idx (tZ (gD x0.2.1 (tZ v58) zR).1)]]) (p:=[.idx (tZ (gD x0.2.1 (tZ v58) zR).1)]) rfl) (ac hc64 (ac hc65 (ac (show ([.idx (tZ (gD x0.2.1 (tZ v58) zR).1)]:Path)=[.idx (tZ (gD x0.2.1 (tZ v58) zR).1)] from rfl) an))))) fun a w h => ?_
  refine zt [3,11,12,13] h an fun a w h => ?_
  exact ⟨((List.set v57 (tZ (gD x0.2.1 (tZ v58) zR).1) (List.append (gD v57 (tZ (gD x0.2.1 (tZ v58) zR).1) lO) [v58])),(w64 (v58 + (1:Int)))),hF,ar h [3,11,12,13]⟩
 ·refine wp_exit ?_
  refine zs [2,3] h an fun a w h => ?_
  cases hF
  exact wp_ret (ret_okR tok h rfl (by kernel_rfl)).1
def f173 (k:Nat) (x0:Int) (x1:Int) (x2_0:(List (Int × (Int × Int)))) (x2_1:(List (Int × (Int × (Int × (Int × (Int × ByteArray))))))) (x2_2:(List (Int × Int))):Option Bool:=if (0≤x0∧x0 < (List.length x2_2:Int)) then (if (0≤x1∧x1 < (List.length x2_2:Int)) then (some (bif (decide (((List.getD x2_2 (Int.toNat x0) ((0:Int),(0:Int))).1:Int) < (List.getD x2_2 (Int.toNat x1) ((0:Int),(0:Int))).1)) then true else (bif (((List.getD x2_2 (Int.toNat x0) ((0:Int),(0:Int))).1:Int) == (List.getD x2_2 (Int.toNat x1) ((0:Int),(0:Int))).1) then (decide (((List.getD x2_2 (Int.toNat x0) ((0:Int),(0:Int))).2:Int) < (List.getD x2_2 (Int.toNat x1) ((0:Int),(0:Int))).2)) else false))) else none) else none
theorem c173 (k:Nat) (x0:Int) (x1:Int) (x2_0:(List (Int × (Int × Int)))) (x2_1:(List (Int × (Int × (Int × (Int × (Int × ByteArray))))))) (x2_2:(List (Int × Int))) (r:Bool) (hF:f173 k x0 x1 x2_0 x2_1 x2_2=some r):PCall Try.prog 173 [⟨iS,x0⟩,⟨iS,x1⟩,⟨sh21,(some (x2_0,(x2_1,x2_2)))⟩] [⟨.bool,r⟩]:=by
 refine pcall_intro Try.func173 rfl rfl (Nat.le_of_ble_eq_true rfl) ?_
 intro w0 Zi a w h
 rw [f173] at hF
 refine zs [0,1,2] h an fun a w h => ?_
 obtain ⟨hc1,hF⟩:=of_if hF
 obtain ⟨hc2,hF⟩:=of_if hF
 refine wp_regy_seq tok (orc:=o0) (l:=[6,7]) ([(12,6)],[],[],[(5,[2]),(6,[13]),(7,[1]),(8,[14,15]),(9,[16])]) 13 nw h (by kernel_rfl) (by kernel_rfl) (ac hc1 (ac hc2 an)) fun a w h => ?_
 refine zs [5] h an fun a w h => ?_
 cases hF
 exact wp_ret (ret_okR tok h rfl (by kernel_rfl)).1
def H173:Prop:=∀ (k:Nat) (c0:(List (Int × (Int × Int)))) (c1:(List (Int × (Int × (Int × (Int × (Int × ByteArray))))))),LinOk (α:=(Int × Int)) (Sh.dflt sh5) (fun (zs:List (Int × Int)) (i j:Int) => f173 k i j c0 c1 zs)
def f125.l16 (k:Nat) (x0:((List (Int × (Int × Int))) × ((List (Int × (Int × (Int × (Int × (Int × ByteArray)))))) × (List (Int × Int))))):Nat → ((List ((Int × Int) × Bool)) × Int)→Option ((List (Int × (Int × Int))) × ((List (Int × (Int × (Int × (Int × (Int × ByteArray)))))) × (List (Int × Int))))
 | 0,_ => none
 | m16+1,(v27,v28) => if (decide (v28 < (List.length x0.2.2:Int))) then (if (0≤v28∧v28 < (List.length x0.2.2:Int)) then ((f125.l16 k x0) m16 ((mput (Sh.beq sh5) (List.getD x0.2.2 (Int.toNat v28) ((0:Int),(0:Int))) true v27),(IntKind.i64.wrap (v28 + (1:Int))))) else none) else (if (decide (((List.length v27:Int):Int) > (2000:Int))) then (some (([]:(List (Int × (Int × Int)))),(([]:(List (Int × (Int × (Int × (Int × (Int × ByteArray))))))),([]:(List (Int × Int)))))) else (if ((List.length ([]:(List (Int × (Int × Int))))+List.length x0.1)*24≤140737488355328) then (if ((List.length ([]:(List (Int × (Int × (Int × (Int × (Int × ByteArray)))))))+List.length x0.2.1)*56≤140737488355328) then (if (List.length v27*16≤140737488355328) then (some ((([]:(List (Int × (Int × Int)))) ++ x0.1),((([]:(List (Int × (Int × (Int × (Int × (Int × ByteArray))))))) ++ x0.2.1),(sortR (α:=(Int × Int)) pdqR (Sh.dflt sh5) (ofLess (fun (zs:List (Int × Int)) (i j:Int) => f173 k i j (([]:(List (Int × (Int × Int)))) ++ x0.1) (([]:(List (Int × (Int × (Int × (Int × (Int × ByteArray))))))) ++ x0.2.1) zs)) (List.map (fun e => e.1) v27))))) else none) else none) else none))
def f125 (k:Nat) (x0:((List (Int × (Int × Int))) × ((List (Int × (Int × (Int × (Int × (Int × ByteArray)))))) × (List (Int × Int))))) (x1:(List ((Int × Int) × Bool))):Option ((List (Int × (Int × Int))) × ((List (Int × (Int × (Int × (Int × (Int × ByteArray)))))) × (List (Int × Int)))):=f125.l16 k x0 k (x1,(0:Int))
theorem c125 (k:Nat) (x0:tG) (x1:(List ((Int × Int) × Bool))) (h173:H173) (r:tG) (hF:f125 k x0 x1=some r):PCons Try.prog 125 [⟨sh12,x0⟩,⟨sh20,(some x1)⟩] [⟨sh10,r⟩]:=by
 refine pcons_intro (j:=1) Try.func125 rfl rfl (Nat.le_of_ble_eq_true rfl) (Nat.le_of_ble_eq_true rfl) (by kernel_rfl) ?_
 intro w0 Zi f0 a w h
 rw [f125] at hF
 refine wp_reg_seq tok (orc:=o0) (fz:=[]) (l:=[1,2,4]) (.inl rfl) h (by kernel_rfl) an fun a w h => ?_
 refine wp_seq ?_
 refine wp_reg_seq tok (orc:=o0) (fz:=[]) (l:=[1,2,4,10,11,12]) (.inl rfl) h (by kernel_rfl) an fun a w h => ?_
 refine wp_block ?_
 refine wp_loop_fuel (f125.l16 k x0) (fun ((v27,v28):((List ((Int × Int) × Bool)) × Int)) => [(1,.val sh20 (some v27)),(2,.val sh11 (some x0)),(4,.val sh13 (some (([]:(List (Int × (Int × Int)))),(([]:(List (Int × (Int × (Int × (Int × (Int × ByteArray))))))),([]:(List (Int × Int))))))),(10,.val sh15 x0.2.2),(11,.val iS (List.length x0.2.2:Int)),(12,.val iS v28)]) (fun v h => by obtain ⟨v27,v28⟩:=v; rw [f125.l16] at h; cases h) ?_ hF (h.arrive (fz:=[]) (l:=[1,2,4,10,11,12]) (.inl rfl) (by kernel_rfl))
 intro m16 v a w hF h
 obtain ⟨v27,v28⟩:=v
 rw [f125.l16] at hF
 refine wp_reg_seq tok (orc:=o0) (fz:=[]) (l:=[1,2,4,10,11,12,13]) (.inl rfl) h (by kernel_rfl) an fun a w h => ?_
 refine wp_seq <| zi h hF (fun hF => ?_) (fun hF => ?_)
 ·refine wp_skip ?_
  refine wp_seq <| wp_block ?_
  obtain ⟨hc30,hF⟩:=of_if hF
  refine wp_reg_seq tok (orc:=o0) (fz:=[]) (l:=[1,2,4,6,10,11,12]) (.inl rfl) h (by kernel_rfl) (ac hc30 an) fun a w h => ?_
  refine wp_reg tok (orc:=o0) (fz:=[]) (l:=[1,2,4,10,11,12]) (.inl rfl) h (by kernel_rfl) (ac (show eqTy Try.prog 9 174 (.st (.pair iS iS))=true from by kernel_rfl) an) fun a w h => ?_
  refine wp_reg tok (orc:=o0) (fz:=[]) (l:=[1,2,4,10,11,12]) (.inl rfl) h (by kernel_rfl) an fun a w h => ?_
  exact ⟨((mput (Sh.beq sh5) (gD x0.2.2 (tZ v28) (iO,iO)) true v27),(w64 (v28 + (1:Int)))),hF,h.arrive (fz:=[]) (l:=[1,2,4,10,11,12]) (.inl rfl) (by kernel_rfl)⟩
 ·refine wp_exit ?_
  refine wp_seq ?_
  refine wp_reg_seq tok (orc:=o0) (fz:=[]) (l:=[1,2,4,21]) (.inl rfl) h (by kernel_rfl) an fun a w h => ?_
  refine zi h hF (fun hF => ?_) (fun hF => ?_)
  ·refine wp_reg_seq tok (orc:=o0) (fz:=[]) (l:=[4]) (.inl rfl) h (by kernel_rfl) an fun a w h => ?_
   cases hF
   exact wp_ret (retC_ok tok h rfl (by kernel_rfl)).1
  ·refine wp_skip ?_
   obtain ⟨hc32,hF⟩:=of_if hF
   obtain ⟨hc33,hF⟩:=of_if hF
   refine wp_regy_seq tok (orc:=o0) (fz:=[]) (l:=[1,4,7]) ([],[(2,[]),(5,[]),(6,[25,28])],[],[(3,[2]),(4,[2,26]),(7,[])]) 8 (.inl rfl) h (by kernel_rfl) (by kernel_rfl) (ac hc32 (ac hc33 an)) fun a w h => ?_
   refine wp_seq ?_
   refine wp_range tok (t:=175) (m:=1) (d:=30) (it:=31) (kt:=174) (et:=4) (ks:=sh5) (vs:=.bool) (l:=v27) h rfl rfl rfl rfl rfl rfl rfl (by kernel_rfl) (by kernel_rfl) (by kernel_rfl) (by kernel_rfl) (by kernel_rfl) ?_
   intro g a w hit h
   replace h:=h.only [4,7,31] (by kernel_rfl)
   obtain ⟨hc31,hF⟩:=of_if hF
   replace h:=h.cast (S':=[(4,.val sh13 (some (([]:(List (Int × (Int × Int)))),(([]:(List (Int × (Int × (Int × (Int × (Int × ByteArray))))))),([]:(List (Int × Int))))))),(7,.val sh13 (some ((([]:(List (Int × (Int × Int)))) ++ x0.1),((([]:(List (Int × (Int × (Int × (Int × (Int × ByteArray))))))) ++ x0.2.1),([]:(List (Int × Int))))))),(31,.val (.gh true) g)]) (by kernel_rfl)
   refine wp_keys_loop tok (it:=31) (d0:=32) (d1:=33) (c0:=34) (c1:=35) (ks:=sh5) (xs:=(List.map (fun e => e.1) v27)) (orc:=o0) (fun ys g => [(4,.val sh13 (some (([]:(List (Int × (Int × Int)))),(([]:(List (Int × (Int × (Int × (Int × (Int × ByteArray))))))),([]:(List (Int × Int))))))),(7,.val sh13 (some ((([]:(List (Int × (Int × Int)))) ++ x0.1),((([]:(List (Int × (Int × (Int × (Int × (Int × ByteArray))))))) ++ x0.2.1),ys)))),(31,.val (.gh true) g)]) (fun ys x g => [(4,.val sh13 (some (([]:(List (Int × (Int × Int)))),(([]:(List (Int × (Int × (Int × (Int × (Int × ByteArray))))))),([]:(List (Int × Int))))))),(7,.val sh13 (some ((([]:(List (Int × (Int × Int)))) ++ x0.1),((([]:(List (Int × (Int × (Int × (Int × (Int × ByteArray))))))) ++ x0.2.1),ys)))),(8,.val sh16 (some x)),(31,.val (.gh true) g),(32,.val .any ()),(33,.val .bool true),(34,.val .any ()),(35,.val sh5 x)]) h hit rfl rfl rfl rfl rfl rfl rfl rfl rfl rfl rfl rfl rfl rfl (by kernel_rfl) (fun ys g => by kernel_rfl) (fun ys g g' => by kernel_rfl) (fun ys g b => by kernel_rfl) (fun ys g => by kernel_rfl) (fun ys x g => by kernel_rfl) ?_ ?_
   ·
    intro Q' ys x g a w hlt hQ h
    refine wp_reg tok (orc:=orcL [(40,[⟨.pt false 4294967293 .unit,some ()⟩])]) (fz:=[]) (l:=[4,7,31]) (.inl rfl) h (by kernel_rfl) (ac ((PrefL.mk (l:=[[.der,.snd,.snd],[.der,.snd,.snd]]) (p:=[.der,.snd,.snd]) rfl)) (ac (show ((List.length ys+List.length [x])*16≤140737488355328) from by have hlt2:=hlt; have hone:List.length [x]=1:=rfl; simp only [List.length_map] at hlt2; omega) (ac ((show ([.der,.snd,.snd]:Path)=[.der,.snd,.snd] from rfl)) an))) fun a w h => ?_
    exact hQ a w (h.arrive (fz:=[]) (l:=[4,7,31]) (.inl rfl) (by kernel_rfl))
   ·
    intro ys g a w hperm h
    replace h:=h.only [4,7] (by kernel_rfl)
    refine wp_sort3_seq tok (fs:=73) (te:=174) (g:=173) (e:=sh5) (k:=7) (b1:=43) (p:=[.der,.snd,.snd]) (tb:=71) (sb:=sh10) (x0:=(some ((([]:(List (Int × (Int × Int)))) ++ x0.1),((([]:(List (Int × (Int × (Int × (Int × (Int × ByteArray))))))) ++ x0.2.1),ys)))) (S1:=[(4,.val sh13 (some (([]:(List (Int × (Int × Int)))),(([]:(List (Int × (Int × (Int × (Int × (Int × ByteArray))))))),([]:(List (Int × Int))))))),(7,.val sh13 (some ((([]:(List (Int × (Int × Int)))) ++ x0.1),((([]:(List (Int × (Int × (Int × (Int × (Int × ByteArray))))))) ++ x0.2.1),ys)))),(42,.addr 7 [.der,.snd,.snd]),(43,.copy 7 [.der,.snd,.snd])]) (orc:=o0) (cap:=#[.tmp 7]) (cl:=[7]) (xs:=(List.map (fun e => e.1) v27)) (ys:=ys) (f:=(fun (zs:List (Int × Int)) (i j:Int) => f173 k i j (([]:(List (Int × (Int × Int)))) ++ x0.1) (([]:(List (Int × (Int × (Int × (Int × (Int × ByteArray))))))) ++ x0.2.1) zs)) Go.Proofs.Ytnpaokckkbhdjaa.S.sc73_69 (fun zs => (some ((([]:(List (Int × (Int × Int)))) ++ x0.1),((([]:(List (Int × (Int × (Int × (Int × (Int × ByteArray))))))) ++ x0.2.1),zs)))) h rfl (by kernel_rfl) an rfl rfl rfl rfl rfl rfl rfl rfl rfl rfl (by kernel_rfl) (by kernel_rfl) (by kernel_rfl) (by kernel_rfl) (by simp) (by kernel_rfl) (fun zs => by kernel_rfl) (by kernel_rfl) (by have hpl:=hperm.length_eq; simp only [List.length_map] at hpl; omega) ⟨_,Try.func73,rfl,rfl⟩ ⟨_,Try.func173,rfl,rfl⟩ (h173 k (([]:(List (Int × (Int × Int)))) ++ x0.1) (([]:(List (Int × (Int × (Int × (Int × (Int × ByteArray))))))) ++ x0.2.1)) hperm (fun zs => ⟨[(7,[])],[⟨sh21,(some ((([]:(List (Int × (Int × Int)))) ++ x0.1),((([]:(List (Int × (Int × (Int × (Int × (Int × ByteArray))))))) ++ x0.2.1),zs)))⟩],by kernel_rfl,by kernel_rfl,fun i j r hr => c173 k i j (([]:(List (Int × (Int × Int)))) ++ x0.1) (([]:(List (Int × (Int × (Int × (Int × (Int × ByteArray))))))) ++ x0.2.1) zs r hr⟩) fun a w h => ?_
    replace h:=h.only [4,7] (by kernel_rfl)
    refine wp_reg_seq tok (orc:=o0) (fz:=[]) (l:=[4]) (.inl rfl) h (by kernel_rfl) an fun a w h => ?_
    cases hF
    exact wp_ret (retC_ok tok h rfl (by kernel_rfl)).1
def f63.j1921 (k:Nat) (v1915:Int) (q1887:((List ((Int × Int) × Bool)) × Int)→Option ((List (Int × (Int × Int))) × ((List (Int × (Int × (Int × (Int × (Int × ByteArray)))))) × (List (Int × Int))))):(List ((Int × Int) × Bool))→Option ((List (Int × (Int × Int))) × ((List (Int × (Int × (Int × (Int × (Int × ByteArray)))))) × (List (Int × Int))))
 | v1920 => q1887 (v1920,(IntKind.i64.wrap (v1915 + (1:Int))))
def f63.l1887 (k:Nat) (r2:(List (List Int))) (x0:((List (Int × (Int × Int))) × ((List (Int × (Int × (Int × (Int × (Int × ByteArray)))))) × (List (Int × Int))))) (v1610:Int) (v1836:Bool) (q966:((List ((Int × Int) × Bool)) × Int)→Option ((List (Int × (Int × Int))) × ((List (Int × (Int × (Int × (Int × (Int × ByteArray)))))) × (List (Int × Int))))):Nat → ((List ((Int × Int) × Bool)) × Int)→Option ((List (Int × (Int × Int))) × ((List (Int × (Int × (Int × (Int × (Int × ByteArray)))))) × (List (Int × Int))))
 | 0,_ => none
 | m1887+1,(v1914,v1915) => if (decide (v1915 < (List.length (List.getD r2 (Int.toNat (List.getD x0.2.1 (Int.toNat v1610) ((0:Int),((0:Int),((0:Int),((0:Int),((0:Int),(⟨#[]⟩:ByteArray))))))).2.1) ([]:(List Int))):Int))) then (if (0≤v1915∧v1915 < (List.length (List.getD r2 (Int.toNat (List.getD x0.2.1 (Int.toNat v1610) ((0:Int),((0:Int),((0:Int),((0:Int),((0:Int),(⟨#[]⟩:ByteArray))))))).2.1) ([]:(List Int))):Int)) then (if (0 ≤ (List.getD (List.getD r2 (Int.toNat (List.getD x0.2.1 (Int.toNat v1610) ((0:Int),((0:Int),((0:Int),((0:Int),((0:Int),(⟨#[]⟩:ByteArray))))))).2.1) ([]:(List Int))) (Int.toNat v1915) (0:Int)) ∧ (List.getD (List.getD r2 (Int.toNat (List.getD x0.2.1 (Int.toNat v1610) ((0:Int),((0:Int),((0:Int),((0:Int),((0:Int),(⟨#[]⟩:ByteArray))))))).2.1) ([]:(List Int))) (Int.toNat v1915) (0:Int)) < (List.length x0.2.1:Int)) then ((some ((bif (bif (((List.getD x0.2.1 (Int.toNat (List.getD (List.getD r2 (Int.toNat (List.getD x0.2.1 (Int.toNat v1610) ((0:Int),((0:Int),((0:Int),((0:Int),((0:Int),(⟨#[]⟩:ByteArray))))))).2.1) ([]:(List Int))) (Int.toNat v1915) (0:Int))) ((0:Int),((0:Int),((0:Int),((0:Int),((0:Int),(⟨#[]⟩:ByteArray))))))).2.1:Int) == (List.getD x0.2.1 (Int.toNat v1610) ((0:Int),((0:Int),((0:Int),((0:Int),((0:Int),(⟨#[]⟩:ByteArray))))))).1) then (((List.getD x0.2.1 (Int.toNat (List.getD (List.getD r2 (Int.toNat (List.getD x0.2.1 (Int.toNat v1610) ((0:Int),((0:Int),((0:Int),((0:Int),((0:Int),(⟨#[]⟩:ByteArray))))))).2.1) ([]:(List Int))) (Int.toNat v1915) (0:Int))) ((0:Int),((0:Int),((0:Int),((0:Int),((0:Int),(⟨#[]⟩:ByteArray))))))).2.2.1:Int) == (List.getD x0.2.1 (Int.toNat v1610) ((0:Int),((0:Int),((0:Int),((0:Int),((0:Int),(⟨#[]⟩:ByteArray))))))).2.2.1) else false) then v1836 else false):Bool)).bind fun v1922 => (if v1922 then (f63.j1921 k v1915 ((f63.l1887 k r2 x0 v1610 v1836 q966) m1887) (mput (Sh.beq sh5) (v1610,(List.getD (List.getD r2 (Int.toNat (List.getD x0.2.1 (Int.toNat v1610) ((0:Int),((0:Int),((0:Int),((0:Int),((0:Int),(⟨#[]⟩:ByteArray))))))).2.1) ([]:(List Int))) (Int.toNat v1915) (0:Int))) true v1914)) else (f63.j1921 k v1915 ((f63.l1887 k r2 x0 v1610 v1836 q966) m1887) v1914))) else none) else none) else (if (decide (((List.length v1914:Int):Int) > (2000:Int))) then (some (([]:(List (Int × (Int × Int)))),(([]:(List (Int × (Int × (Int × (Int × (Int × ByteArray))))))),([]:(List (Int × Int)))))) else (q966 (v1914,(IntKind.i64.wrap (v1610 + (1:Int))))))
def f63.l1809 (k:Nat) (r2:(List (List Int))) (x0:((List (Int × (Int × Int))) × ((List (Int × (Int × (Int × (Int × (Int × ByteArray)))))) × (List (Int × Int))))) (v1610:Int) (v1609:(List ((Int × Int) × Bool))) (q966:((List ((Int × Int) × Bool)) × Int)→Option ((List (Int × (Int × Int))) × ((List (Int × (Int × (Int × (Int × (Int × ByteArray)))))) × (List (Int × Int))))):Nat → (Bool × Int)→Option ((List (Int × (Int × Int))) × ((List (Int × (Int × (Int × (Int × (Int × ByteArray)))))) × (List (Int × Int))))
 | 0,_ => none
 | m1809+1,(v1836,v1837) => if (decide (v1837 < (List.length (List.getD r2 (Int.toNat (List.getD x0.2.1 (Int.toNat v1610) ((0:Int),((0:Int),((0:Int),((0:Int),((0:Int),(⟨#[]⟩:ByteArray))))))).2.1) ([]:(List Int))):Int))) then (if (0≤v1837∧v1837 < (List.length (List.getD r2 (Int.toNat (List.getD x0.2.1 (Int.toNat v1610) ((0:Int),((0:Int),((0:Int),((0:Int),((0:Int),(⟨#[]⟩:ByteArray))))))).2.1) ([]:(List Int))):Int)) then (if ((v1836=false) → (0 ≤ (List.getD (List.getD r2 (Int.toNat (List.getD x0.2.1 (Int.toNat v1610) ((0:Int),((0:Int),((0:Int),((0:Int),((0:Int),(⟨#[]⟩:ByteArray))))))).2.1) ([]:(List Int))) (Int.toNat v1837) (0:Int)) ∧ (List.getD (List.getD r2 (Int.toNat (List.getD x0.2.1 (Int.toNat v1610) ((0:Int),((0:Int),((0:Int),((0:Int),((0:Int),(⟨#[]⟩:ByteArray))))))).2.1) ([]:(List Int))) (Int.toNat v1837) (0:Int)) < (List.length x0.2.1:Int))) then (if (((bif v1836 then true else (((List.getD x0.2.1 (Int.toNat (List.getD (List.getD r2 (Int.toNat (List.getD x0.2.1 (Int.toNat v1610) ((0:Int),((0:Int),((0:Int),((0:Int),((0:Int),(⟨#[]⟩:ByteArray))))))).2.1) ([]:(List Int))) (Int.toNat v1837) (0:Int))) ((0:Int),((0:Int),((0:Int),((0:Int),((0:Int),(⟨#[]⟩:ByteArray))))))).2.1:Int) != (List.getD x0.2.1 (Int.toNat v1610) ((0:Int),((0:Int),((0:Int),((0:Int),((0:Int),(⟨#[]⟩:ByteArray))))))).1))=false) → (0 ≤ (List.getD (List.getD r2 (Int.toNat (List.getD x0.2.1 (Int.toNat v1610) ((0:Int),((0:Int),((0:Int),((0:Int),((0:Int),(⟨#[]⟩:ByteArray))))))).2.1) ([]:(List Int))) (Int.toNat v1837) (0:Int)) ∧ (List.getD (List.getD r2 (Int.toNat (List.getD x0.2.1 (Int.toNat v1610) ((0:Int),((0:Int),((0:Int),((0:Int),((0:Int),(⟨#[]⟩:ByteArray))))))).2.1) ([]:(List Int))) (Int.toNat v1837) (0:Int)) < (List.length x0.2.1:Int))) then ((some ((bif (bif v1836 then true else (((List.getD x0.2.1 (Int.toNat (List.getD (List.getD r2 (Int.toNat (List.getD x0.2.1 (Int.toNat v1610) ((0:Int),((0:Int),((0:Int),((0:Int),((0:Int),(⟨#[]⟩:ByteArray))))))).2.1) ([]:(List Int))) (Int.toNat v1837) (0:Int))) ((0:Int),((0:Int),((0:Int),((0:Int),((0:Int),(⟨#[]⟩:ByteArray))))))).2.1:Int) != (List.getD x0.2.1 (Int.toNat v1610) ((0:Int),((0:Int),((0:Int),((0:Int),((0:Int),(⟨#[]⟩:ByteArray))))))).1)) then true else (((List.getD x0.2.1 (Int.toNat (List.getD (List.getD r2 (Int.toNat (List.getD x0.2.1 (Int.toNat v1610) ((0:Int),((0:Int),((0:Int),((0:Int),((0:Int),(⟨#[]⟩:ByteArray))))))).2.1) ([]:(List Int))) (Int.toNat v1837) (0:Int))) ((0:Int),((0:Int),((0:Int),((0:Int),((0:Int),(⟨#[]⟩:ByteArray))))))).2.2.1:Int) != (List.getD x0.2.1 (Int.toNat v1610) ((0:Int),((0:Int),((0:Int),((0:Int),((0:Int),(⟨#[]⟩:ByteArray))))))).2.2.1)):Bool)).bind fun v1843 => ((f63.l1809 k r2 x0 v1610 v1609 q966) m1809 (v1843,(IntKind.i64.wrap (v1837 + (1:Int)))))) else none) else none) else none) else (if (0 ≤ (List.getD x0.2.1 (Int.toNat v1610) ((0:Int),((0:Int),((0:Int),((0:Int),((0:Int),(⟨#[]⟩:ByteArray))))))).2.1 ∧ (List.getD x0.2.1 (Int.toNat v1610) ((0:Int),((0:Int),((0:Int),((0:Int),((0:Int),(⟨#[]⟩:ByteArray))))))).2.1 < (List.length r2:Int)) then (f63.l1887 k r2 x0 v1610 v1836 (q966) k (v1609,(0:Int))) else none)
def f63.l966 (k:Nat) (x0:((List (Int × (Int × Int))) × ((List (Int × (Int × (Int × (Int × (Int × ByteArray)))))) × (List (Int × Int))))) (r2:(List (List Int))):Nat → ((List ((Int × Int) × Bool)) × Int)→Option ((List (Int × (Int × Int))) × ((List (Int × (Int × (Int × (Int × (Int × ByteArray)))))) × (List (Int × Int))))
 | 0,_ => none
 | m966+1,(v1609,v1610) => if (decide (v1610 < (List.length x0.2.1:Int))) then (if (0≤v1610∧v1610 < (List.length x0.2.1:Int)) then (if (0 ≤ (List.getD x0.2.1 (Int.toNat v1610) ((0:Int),((0:Int),((0:Int),((0:Int),((0:Int),(⟨#[]⟩:ByteArray))))))).2.1 ∧ (List.getD x0.2.1 (Int.toNat v1610) ((0:Int),((0:Int),((0:Int),((0:Int),((0:Int),(⟨#[]⟩:ByteArray))))))).2.1 < (List.length r2:Int)) then (f63.l1809 k r2 x0 v1610 v1609 ((f63.l966 k x0 r2) m966) k (false,(0:Int))) else none) else none) else ((f125 k x0 v1609).bind fun r1929 => (some r1929))
def f63 (k:Nat) (x0:((List (Int × (Int × Int))) × ((List (Int × (Int × (Int × (Int × (Int × ByteArray)))))) × (List (Int × Int))))):Option ((List (Int × (Int × Int))) × ((List (Int × (Int × (Int × (Int × (Int × ByteArray)))))) × (List (Int × Int)))):=(f92 k x0).bind fun r1 => (if (!r1) then (some (([]:(List (Int × (Int × Int)))),(([]:(List (Int × (Int × (Int × (Int × (Int × ByteArray))))))),([]:(List (Int × Int)))))) else ((f124 k x0).bind fun r2 => (f63.l966 k x0 r2 k (([]:(List ((Int × Int) × Bool))),(0:Int)))))
theorem c63 (k:Nat) (x0:tG) (h173:H173) (r:tG) (hF:f63 k x0=some r):PCall Try.prog 63 [⟨sh12,x0⟩] [⟨sh10,r⟩]:=by
 refine pcall_intro Try.func63 rfl rfl (Nat.le_of_ble_eq_true rfl) ?_
 intro w0 Zi a w h
 rw [f63] at hF
 refine zs [1,2] h an fun a w h => ?_
 refine wp_seq ?_
 obtain ⟨r1,hr1932,hF⟩:=of_bind hF
 refine zc (orcL [(14,[⟨.bool,r1⟩])]) [1,2,15] h (ac (c92 k x0 r1 hr1932) an) fun a w h => ?_
 refine zi h hF (fun hF => ?_) (fun hF => ?_)
 ·refine zs [2] h an fun a w h => ?_
  cases hF
  exact wp_ret (ret_okR tok h rfl (by kernel_rfl)).1
 ·refine wp_skip ?_
  refine zs [1,2,3] h an fun a w h => ?_
  obtain ⟨r2,hr1931,hF⟩:=of_bind hF
  refine zc (orcL [(19,[⟨sh19,r2⟩])]) [1,2,3,4] h (ac (c124 k x0 r2 hr1931) an) fun a w h => ?_
  refine wp_seq ?_
  refine zs [1,2,3,4,21,22,23] h an fun a w h => ?_
  refine wp_block ?_
  refine wp_loop_fuel (f63.l966 k x0 r2) (fun ((v1609,v1610):((List ((Int × Int) × Bool)) × Int)) => [(1,.val sh11 (some x0)),(2,.val sh13 (some (([]:(List (Int × (Int × Int)))),(([]:(List (Int × (Int × (Int × (Int × (Int × ByteArray))))))),([]:(List (Int × Int))))))),(3,.val sh20 (some v1609)),(4,.val sh19 r2),(21,.val sh18 x0.2.1),(22,.val iS (List.length x0.2.1:Int)),(23,.val iS v1610)]) (fun v h => by obtain ⟨v1609,v1610⟩:=v; rw [f63.l966] at h; cases h) ?_ hF (ar h [1,2,3,4,21,22,23])
  intro m966 v a w hF h
  obtain ⟨v1609,v1610⟩:=v
  rw [f63.l966] at hF
  refine zs [1,2,3,4,21,22,23,24] h an fun a w h => ?_
  refine wp_seq <| zi h hF (fun hF => ?_) (fun hF => ?_)
  ·refine wp_skip ?_
   refine wp_seq <| wp_block ?_
   obtain ⟨hc1928,hF⟩:=of_if hF
   refine zs [1,2,3,4,5,6,21,22,23] h (ac hc1928 an) fun a w h => ?_
   refine zs [1,2,3,4,5,6,7,21,22,23] h an fun a w h => ?_
   refine wp_seq ?_
   obtain ⟨hc1927,hF⟩:=of_if hF
   refine zs [1,2,3,4,5,6,7,21,22,23,32,33,34] h (ac hc1927 an) fun a w h => ?_
   refine wp_block ?_
   refine wp_loop_fuel (f63.l1809 k r2 x0 v1610 v1609 ((f63.l966 k x0 r2) m966)) (fun ((v1836,v1837):(Bool × Int)) => [(1,.val sh11 (some x0)),(2,.val sh13 (some (([]:(List (Int × (Int × Int)))),(([]:(List (Int × (Int × (Int × (Int × (Int × ByteArray))))))),([]:(List (Int × Int))))))),(3,.val sh20 (some v1609)),(4,.val sh19 r2),(5,.val iS v1610),(6,.val sh14 (some (gD x0.2.1 (tZ v1610) zR))),(7,.val .bool v1836),(21,.val sh18 x0.2.1),(22,.val iS (List.length x0.2.1:Int)),(23,.val iS v1610),(32,.copy 4 [.idx (tZ (gD x0.2.1 (tZ v1610) zR).2.1)]),(33,.val iS (List.length (gD r2 (tZ (gD x0.2.1 (tZ v1610) zR).2.1) lO):Int)),(34,.val iS v1837)]) (fun v h => by obtain ⟨v1836,v1837⟩:=v; rw [f63.l1809] at h; cases h) ?_ hF (ar h [1,2,3,4,5,6,7,21,22,23,32,33,34])
   intro m1809 v a w hF h
   obtain ⟨v1836,v1837⟩:=v
   rw [f63.l1809] at hF
   refine zs [1,2,3,4,5,6,7,21,22,23,32,33,34,35] h an fun a w h => ?_
   refine wp_seq <| zi h hF (fun hF => ?_) (fun hF => ?_)
   ·refine wp_skip ?_
    refine wp_seq <| wp_block ?_
    obtain ⟨hc1847,hF⟩:=of_if hF
    refine zs [1,2,3,4,5,6,7,9,21,22,23,32,33,34] h (ac hc1847 an) fun a w h => ?_
    obtain ⟨hc1845,hF⟩:=of_if hF
    obtain ⟨hc1846,hF⟩:=of_if hF
    refine wp_regy tok (orc:=o0) (l:=[1,2,3,4,5,6,7,21,22,23,32,33,34]) ([],[],[],[]) 24 nw h (by kernel_rfl) (by kernel_rfl) (ac hc1845 (ac hc1846 an)) fun a w h => ?_
    obtain ⟨v1843,hv1844,hF⟩:=of_bind hF
    replace h:=h.cast (S':=[(1,.val sh11 (some x0)),(2,.val sh13 (some (([]:(List (Int × (Int × Int)))),(([]:(List (Int × (Int × (Int × (Int × (Int × ByteArray))))))),([]:(List (Int × Int))))))),(3,.val sh20 (some v1609)),(4,.val sh19 r2),(5,.val iS v1610),(6,.val sh14 (some (gD x0.2.1 (tZ v1610) zR))),(7,.val .bool v1843),(21,.val sh18 x0.2.1),(22,.val iS (List.length x0.2.1:Int)),(23,.val iS v1610),(32,.copy 4 [.idx (tZ (gD x0.2.1 (tZ v1610) zR).2.1)]),(33,.val iS (List.length (gD r2 (tZ (gD x0.2.1 (tZ v1610) zR).2.1) lO):Int)),(34,.val iS v1837)]) (by cases hv1844; kernel_rfl)
    refine zt [1,2,3,4,5,6,7,21,22,23,32,33,34] h an fun a w h => ?_
    exact ⟨(v1843,(w64 (v1837 + (1:Int)))),hF,ar h [1,2,3,4,5,6,7,21,22,23,32,33,34]⟩
   ·refine wp_exit ?_
    refine wp_seq ?_
    obtain ⟨hc1926,hF⟩:=of_if hF
    refine zs [1,2,3,4,5,6,7,21,22,23,66,67,68] h (ac hc1926 an) fun a w h => ?_
    refine wp_block ?_
    refine wp_loop_fuel (f63.l1887 k r2 x0 v1610 v1836 ((f63.l966 k x0 r2) m966)) (fun ((v1914,v1915):((List ((Int × Int) × Bool)) × Int)) => [(1,.val sh11 (some x0)),(2,.val sh13 (some (([]:(List (Int × (Int × Int)))),(([]:(List (Int × (Int × (Int × (Int × (Int × ByteArray))))))),([]:(List (Int × Int))))))),(3,.val sh20 (some v1914)),(4,.val sh19 r2),(5,.val iS v1610),(6,.val sh14 (some (gD x0.2.1 (tZ v1610) zR))),(7,.val .bool v1836),(21,.val sh18 x0.2.1),(22,.val iS (List.length x0.2.1:Int)),(23,.val iS v1610),(66,.copy 4 [.idx (tZ (gD x0.2.1 (tZ v1610) zR).2.1)]),(67,.val iS (List.length (gD r2 (tZ (gD x0.2.1 (tZ v1610) zR).2.1) lO):Int)),(68,.val iS v1915)]) (fun v h => by obtain ⟨v1914,v1915⟩:=v; rw [f63.l1887] at h; cases h) ?_ hF (ar h [1,2,3,4,5,6,7,21,22,23,66,67,68])
    intro m1887 v a w hF h
    obtain ⟨v1914,v1915⟩:=v
    rw [f63.l1887] at hF
    refine zs [1,2,3,4,5,6,7,21,22,23,66,67,68,69] h an fun a w h => ?_
    refine wp_seq <| zi h hF (fun hF => ?_) (fun hF => ?_)
    ·refine wp_skip ?_
     refine wp_mid (fun a w => ∃ v:(List ((Int × Int) × Bool)),f63.j1921 k v1915 ((f63.l1887 k r2 x0 v1610 v1836 ((f63.l966 k x0 r2) m966)) m1887) v=some r∧Rel w0 (fun _ => False) Zi Try.f63.ntmps ((fun (v1920:(List ((Int × Int) × Bool))) => ([(1,.val sh11 (some x0)),(2,.val sh13 (some (([]:(List (Int × (Int × Int)))),(([]:(List (Int × (Int × (Int × (Int × (Int × ByteArray))))))),([]:(List (Int × Int))))))),(3,.val sh20 (some v1920)),(4,.val sh19 r2),(5,.val iS v1610),(6,.val sh14 (some (gD x0.2.1 (tZ v1610) zR))),(7,.val .bool v1836),(21,.val sh18 x0.2.1),(22,.val iS (List.length x0.2.1:Int)),(23,.val iS v1610),(66,.copy 4 [.idx (tZ (gD x0.2.1 (tZ v1610) zR).2.1)]),(67,.val iS (List.length (gD r2 (tZ (gD x0.2.1 (tZ v1610) zR).2.1) lO):Int)),(68,.val iS v1915)]:SS)) v) a w) ?_ ?_
     ·
      refine wp_block ?_
      obtain ⟨hc1925,hF⟩:=of_if hF
      refine zs [1,2,3,4,5,6,7,11,21,22,23,66,67,68] h (ac hc1925 an) fun a w h => ?_
      obtain ⟨hc1924,hF⟩:=of_if hF
      refine zs [1,2,3,4,5,6,7,11,12,21,22,23,66,67,68] h (ac hc1924 an) fun a w h => ?_
      refine zs [1,2,3,4,5,6,7,11,21,22,23,66,67,68,91] h an fun a w h => ?_
      obtain ⟨v1922,hv1923,hF⟩:=of_bind hF
      replace h:=h.cast (S':=[(1,.val sh11 (some x0)),(2,.val sh13 (some (([]:(List (Int × (Int × Int)))),(([]:(List (Int × (Int × (Int × (Int × (Int × ByteArray))))))),([]:(List (Int × Int))))))),(3,.val sh20 (some v1914)),(4,.val sh19 r2),(5,.val iS v1610),(6,.val sh14 (some (gD x0.2.1 (tZ v1610) zR))),(7,.val .bool v1836),(11,.val iS (gD (gD r2 (tZ (gD x0.2.1 (tZ v1610) zR).2.1) lO) (tZ v1915) iO)),(21,.val sh18 x0.2.1),(22,.val iS (List.length x0.2.1:Int)),(23,.val iS v1610),(66,.copy 4 [.idx (tZ (gD x0.2.1 (tZ v1610) zR).2.1)]),(67,.val iS (List.length (gD r2 (tZ (gD x0.2.1 (tZ v1610) zR).2.1) lO):Int)),(68,.val iS v1915),(91,.val .bool v1922)]) (by cases hv1923; kernel_rfl)
      refine zi h hF (fun hF => ?_) (fun hF => ?_)
      ·refine zt [1,2,3,4,5,6,7,21,22,23,66,67,68] h (ac (show eqTy Try.prog 9 174 (.st (.pair iS iS))=true from by kernel_rfl) an) fun a w h => ?_
       exact ⟨(mput (Sh.beq sh5) (v1610,(gD (gD r2 (tZ (gD x0.2.1 (tZ v1610) zR).2.1) lO) (tZ v1915) iO)) true v1914),hF,ar h [1,2,3,4,5,6,7,21,22,23,66,67,68]⟩
      ·refine wp_skip ?_
       exact ⟨v1914,hF,ar h [1,2,3,4,5,6,7,21,22,23,66,67,68]⟩
     ·rintro a w ⟨v1920,hF,h⟩
      rw [f63.j1921] at hF
      refine zt [1,2,3,4,5,6,7,21,22,23,66,67,68] h an fun a w h => ?_
      exact ⟨(v1920,(w64 (v1915 + (1:Int)))),hF,ar h [1,2,3,4,5,6,7,21,22,23,66,67,68]⟩
    ·refine wp_exit ?_
     refine zs [1,2,3,4,21,22,23,99] h an fun a w h => ?_
     refine zi h hF (fun hF => ?_) (fun hF => ?_)
     ·refine zs [2] h an fun a w h => ?_
      cases hF
      exact wp_ret (ret_okR tok h rfl (by kernel_rfl)).1
     ·refine wp_skip ?_
      refine zt [1,2,3,4,21,22,23] h an fun a w h => ?_
      exact ⟨(v1914,(w64 (v1610 + (1:Int)))),hF,ar h [1,2,3,4,21,22,23]⟩
  ·refine wp_exit ?_
   obtain ⟨r1929,hr1930,hF⟩:=of_bind hF
   refine zc (orcL [(104,[⟨.pt false 4294967294 .unit,some ()⟩,⟨sh10,r1929⟩])]) [2] h (ac (c125 k x0 v1609 h173 r1929 hr1930) an) fun a w h => ?_
   cases hF
   exact wp_ret (ret_okR tok h rfl (by kernel_rfl)).1
def f143 (k:Nat) (x0:(Int × Int)) (x1:(Int × Int)):Option Bool:=if (x0.1 != x1.1) then (some false) else (if (x0.2 != x1.2) then (some false) else (some true))
theorem c143 (k:Nat) (x0:(Int × Int)) (x1:(Int × Int)) (r:Bool) (hF:f143 k x0 x1=some r):PCall Try.prog 143 [⟨sh5,x0⟩,⟨sh5,x1⟩] [⟨.bool,r⟩]:=by
 refine pcall_intro Try.func143 rfl rfl (Nat.le_of_ble_eq_true rfl) ?_
 intro w0 Zi a w h
 rw [f143] at hF
 refine zs [2,3] h an fun a w h => ?_
 refine wp_seq ?_
 refine zs [2,3,9] h an fun a w h => ?_
 refine zi h hF (fun hF => ?_) (fun hF => ?_)
 ·refine zs [4] h an fun a w h => ?_
  cases hF
  exact wp_ret (ret_okR tok h rfl (by kernel_rfl)).1
 ·refine wp_skip ?_
  refine wp_seq ?_
  refine zs [14] h an fun a w h => ?_
  refine zi h hF (fun hF => ?_) (fun hF => ?_)
  ·refine zs [4] h an fun a w h => ?_
   cases hF
   exact wp_ret (ret_okR tok h rfl (by kernel_rfl)).1
  ·refine wp_skip ?_
   refine zs [4] h an fun a w h => ?_
   cases hF
   exact wp_ret (ret_okR tok h rfl (by kernel_rfl)).1
def f159 (k:Nat) (x0:(Int × (Int × Int))) (x1:(Int × (Int × Int))):Option Bool:=if (x0.1 != x1.1) then (some false) else ((f143 k x0.2 x1.2).bind fun r1 => (if (!r1) then (some false) else (some true)))
theorem c159 (k:Nat) (x0:(Int × (Int × Int))) (x1:(Int × (Int × Int))) (r:Bool) (hF:f159 k x0 x1=some r):PCall Try.prog 159 [⟨sh6,x0⟩,⟨sh6,x1⟩] [⟨.bool,r⟩]:=by
 refine pcall_intro Try.func159 rfl rfl (Nat.le_of_ble_eq_true rfl) ?_
 intro w0 Zi a w h
 rw [f159] at hF
 refine zs [2,3] h an fun a w h => ?_
 refine wp_seq ?_
 refine zs [2,3,9] h an fun a w h => ?_
 refine zi h hF (fun hF => ?_) (fun hF => ?_)
 ·refine zs [4] h an fun a w h => ?_
  cases hF
  exact wp_ret (ret_okR tok h rfl (by kernel_rfl)).1
 ·refine wp_skip ?_
  refine wp_seq ?_
  obtain ⟨r1,hr2,hF⟩:=of_bind hF
  refine zc (orcL [(14,[⟨.bool,r1⟩])]) [15] h (ac (c143 k x0.2 x1.2 r1 hr2) an) fun a w h => ?_
  refine zi h hF (fun hF => ?_) (fun hF => ?_)
  ·refine zs [4] h an fun a w h => ?_
   cases hF
   exact wp_ret (ret_okR tok h rfl (by kernel_rfl)).1
  ·refine wp_skip ?_
   refine zs [4] h an fun a w h => ?_
   cases hF
   exact wp_ret (ret_okR tok h rfl (by kernel_rfl)).1
def f99.l30 (k:Nat) (x0:(List (Int × (Int × Int)))) (x1:(List (Int × (Int × Int)))):Nat→Int→Option Bool
 | 0,_ => none
 | m30+1,v50 => if (decide (v50 < (List.length x0:Int))) then (if (0≤v50∧v50 < (List.length x0:Int)) then (if (0≤v50∧v50 < (List.length x1:Int)) then ((f159 k (List.getD x0 (Int.toNat v50) ((0:Int),((0:Int),(0:Int)))) (List.getD x1 (Int.toNat v50) ((0:Int),((0:Int),(0:Int))))).bind fun r55 => (if (!r55) then (some false) else ((f99.l30 k x0 x1) m30 (IntKind.i64.wrap (v50 + (1:Int)))))) else none) else none) else (some true)
def f99 (k:Nat) (x0:(List (Int × (Int × Int)))) (x1:(List (Int × (Int × Int)))):Option Bool:=if (((List.length x0:Int):Int) != (List.length x1:Int)) then (some false) else (f99.l30 k x0 x1 k (0:Int))
theorem c99 (k:Nat) (x0:(List (Int × (Int × Int)))) (x1:(List (Int × (Int × Int)))) (r:Bool) (hF:f99 k x0 x1=some r):PCall Try.prog 99 [⟨sh17,x0⟩,⟨sh17,x1⟩] [⟨.bool,r⟩]:=by
 refine pcall_intro Try.func99 rfl rfl (Nat.le_of_ble_eq_true rfl) ?_
 intro w0 Zi a w h
 rw [f99] at hF
 refine zs [0,1] h an fun a w h => ?_
 refine wp_seq ?_
 refine zs [0,1,10] h an fun a w h => ?_
 refine zi h hF (fun hF => ?_) (fun hF => ?_)
 ·refine zs [4] h an fun a w h => ?_
  cases hF
  exact wp_ret (ret_okR tok h rfl (by kernel_rfl)).1
 ·refine wp_skip ?_
  refine wp_seq ?_
  refine zs [0,1,5] h an fun a w h => ?_
  refine wp_block ?_
  refine wp_loop_fuel (f99.l30 k x0 x1) (fun v50 => [(0,.val sh17 x0),(1,.val sh17 x1),(5,.val iS v50)]) (fun v h => by rw [f99.l30] at h; cases h) ?_ hF (ar h [0,1,5])
  intro m30 v50 a w hF h
  rw [f99.l30] at hF
  refine wp_seq ?_
  refine zs [0,1,5,14] h an fun a w h => ?_
  refine zi h hF (fun hF => ?_) (fun hF => ?_)
  ·refine wp_skip ?_
   refine wp_seq <| wp_block ?_
   obtain ⟨hc56,hF⟩:=of_if hF
   obtain ⟨hc57,hF⟩:=of_if hF
   obtain ⟨r55,hr58,hF⟩:=of_bind hF
   refine wp_regy_seq tok (orc:=orcL [(25,[⟨.bool,r55⟩])]) (l:=[0,1,5,26]) ([],[],[],[]) 10 nw h (by kernel_rfl) (by kernel_rfl) (ac hc56 (ac hc57 (ac (c159 k (gD x0 (tZ v50) (iO,(iO,iO))) (gD x1 (tZ v50) (iO,(iO,iO))) r55 hr58) an))) fun a w h => ?_
   refine zi h hF (fun hF => ?_) (fun hF => ?_)
   ·refine zs [4] h an fun a w h => ?_
    cases hF
    exact wp_ret (ret_okR tok h rfl (by kernel_rfl)).1
   ·refine wp_skip ?_
    refine zt [0,1,5] h an fun a w h => ?_
    exact ⟨(w64 (v50 + (1:Int))),hF,ar h [0,1,5]⟩
  ·refine wp_exit ?_
   refine zs [4] h an fun a w h => ?_
   cases hF
   exact wp_ret (ret_okR tok h rfl (by kernel_rfl)).1
def f160 (k:Nat) (x0:(Int × (Int × (Int × (Int × (Int × ByteArray)))))) (x1:(Int × (Int × (Int × (Int × (Int × ByteArray)))))):Option Bool:=if (x0.1 != x1.1) then (some false) else (if (x0.2.1 != x1.2.1) then (some false) else (if (x0.2.2.1 != x1.2.2.1) then (some false) else (if (x0.2.2.2.1 != x1.2.2.2.1) then (some false) else (if (x0.2.2.2.2.1 != x1.2.2.2.2.1) then (some false) else (if (!(ByteArray.toList x0.2.2.2.2.2 == ByteArray.toList x1.2.2.2.2.2)) then (some false) else (some true))))))
theorem c160 (k:Nat) (x0:(Int × (Int × (Int × (Int × (Int × ByteArray)))))) (x1:(Int × (Int × (Int × (Int × (Int × ByteArray)))))) (r:Bool) (hF:f160 k x0 x1=some r):PCall Try.prog 160 [⟨sh1,x0⟩,⟨sh1,x1⟩] [⟨.bool,r⟩]:=by
 refine pcall_intro Try.func160 rfl rfl (Nat.le_of_ble_eq_true rfl) ?_
 intro w0 Zi a w h
 rw [f160] at hF
 refine zs [2,3] h an fun a w h => ?_
 refine wp_seq ?_
 refine zs [2,3,9] h an fun a w h => ?_
 refine zi h hF (fun hF => ?_) (fun hF => ?_)
 ·refine zs [4] h an fun a w h => ?_
  cases hF
  exact wp_ret (ret_okR tok h rfl (by kernel_rfl)).1
 ·refine wp_skip ?_
  refine wp_seq ?_
  refine zs [2,3,14] h an fun a w h => ?_
  refine zi h hF (fun hF => ?_) (fun hF => ?_)
  ·refine zs [4] h an fun a w h => ?_
   cases hF
   exact wp_ret (ret_okR tok h rfl (by kernel_rfl)).1
  ·refine wp_skip ?_
   refine wp_seq ?_
   refine zs [2,3,19] h an fun a w h => ?_
   refine zi h hF (fun hF => ?_) (fun hF => ?_)
   ·refine zs [4] h an fun a w h => ?_
    cases hF
    exact wp_ret (ret_okR tok h rfl (by kernel_rfl)).1
   ·refine wp_skip ?_
    refine wp_seq ?_
    refine zs [2,3,24] h an fun a w h => ?_
    refine zi h hF (fun hF => ?_) (fun hF => ?_)
    ·refine zs [4] h an fun a w h => ?_
     cases hF
     exact wp_ret (ret_okR tok h rfl (by kernel_rfl)).1
    ·refine wp_skip ?_
     refine wp_seq ?_
     refine zs [2,3,29] h an fun a w h => ?_
     refine zi h hF (fun hF => ?_) (fun hF => ?_)
     ·refine zs [4] h an fun a w h => ?_
      cases hF
      exact wp_ret (ret_okR tok h rfl (by kernel_rfl)).1
     ·refine wp_skip ?_
      refine wp_seq ?_
      refine zs [34] h an fun a w h => ?_
      refine zi h hF (fun hF => ?_) (fun hF => ?_)
      ·refine zs [4] h an fun a w h => ?_
       cases hF
       exact wp_ret (ret_okR tok h rfl (by kernel_rfl)).1
      ·refine wp_skip ?_
       refine zs [4] h an fun a w h => ?_
       cases hF
       exact wp_ret (ret_okR tok h rfl (by kernel_rfl)).1
def f100.l30 (k:Nat) (x0:(List (Int × (Int × (Int × (Int × (Int × ByteArray))))))) (x1:(List (Int × (Int × (Int × (Int × (Int × ByteArray))))))):Nat→Int→Option Bool
 | 0,_ => none
 | m30+1,v50 => if (decide (v50 < (List.length x0:Int))) then (if (0≤v50∧v50 < (List.length x0:Int)) then (if (0≤v50∧v50 < (List.length x1:Int)) then ((f160 k (List.getD x0 (Int.toNat v50) ((0:Int),((0:Int),((0:Int),((0:Int),((0:Int),(⟨#[]⟩:ByteArray))))))) (List.getD x1 (Int.toNat v50) ((0:Int),((0:Int),((0:Int),((0:Int),((0:Int),(⟨#[]⟩:ByteArray)))))))).bind fun r55 => (if (!r55) then (some false) else ((f100.l30 k x0 x1) m30 (IntKind.i64.wrap (v50 + (1:Int)))))) else none) else none) else (some true)
def f100 (k:Nat) (x0:(List (Int × (Int × (Int × (Int × (Int × ByteArray))))))) (x1:(List (Int × (Int × (Int × (Int × (Int × ByteArray))))))):Option Bool:=if (((List.length x0:Int):Int) != (List.length x1:Int)) then (some false) else (f100.l30 k x0 x1 k (0:Int))
theorem c100 (k:Nat) (x0:(List (Int × (Int × (Int × (Int × (Int × ByteArray))))))) (x1:(List (Int × (Int × (Int × (Int × (Int × ByteArray))))))) (r:Bool) (hF:f100 k x0 x1=some r):PCall Try.prog 100 [⟨sh18,x0⟩,⟨sh18,x1⟩] [⟨.bool,r⟩]:=by
 refine pcall_intro Try.func100 rfl rfl (Nat.le_of_ble_eq_true rfl) ?_
 intro w0 Zi a w h
 rw [f100] at hF
 refine zs [0,1] h an fun a w h => ?_
 refine wp_seq ?_
 refine zs [0,1,10] h an fun a w h => ?_
 refine zi h hF (fun hF => ?_) (fun hF => ?_)
 ·refine zs [4] h an fun a w h => ?_
  cases hF
  exact wp_ret (ret_okR tok h rfl (by kernel_rfl)).1
 ·refine wp_skip ?_
  refine wp_seq ?_
  refine zs [0,1,5] h an fun a w h => ?_
  refine wp_block ?_
  refine wp_loop_fuel (f100.l30 k x0 x1) (fun v50 => [(0,.val sh18 x0),(1,.val sh18 x1),(5,.val iS v50)]) (fun v h => by rw [f100.l30] at h; cases h) ?_ hF (ar h [0,1,5])
  intro m30 v50 a w hF h
  rw [f100.l30] at hF
  refine wp_seq ?_
  refine zs [0,1,5,14] h an fun a w h => ?_
  refine zi h hF (fun hF => ?_) (fun hF => ?_)
  ·refine wp_skip ?_
   refine wp_seq <| wp_block ?_
   obtain ⟨hc56,hF⟩:=of_if hF
   obtain ⟨hc57,hF⟩:=of_if hF
   obtain ⟨r55,hr58,hF⟩:=of_bind hF
   refine wp_regy_seq tok (orc:=orcL [(25,[⟨.bool,r55⟩])]) (l:=[0,1,5,26]) ([],[],[],[]) 10 nw h (by kernel_rfl) (by kernel_rfl) (ac hc56 (ac hc57 (ac (c160 k (gD x0 (tZ v50) zR) (gD x1 (tZ v50) zR) r55 hr58) an))) fun a w h => ?_
   refine zi h hF (fun hF => ?_) (fun hF => ?_)
   ·refine zs [4] h an fun a w h => ?_
    cases hF
    exact wp_ret (ret_okR tok h rfl (by kernel_rfl)).1
   ·refine wp_skip ?_
    refine zt [0,1,5] h an fun a w h => ?_
    exact ⟨(w64 (v50 + (1:Int))),hF,ar h [0,1,5]⟩
  ·refine wp_exit ?_
   refine zs [4] h an fun a w h => ?_
   cases hF
   exact wp_ret (ret_okR tok h rfl (by kernel_rfl)).1
def f161 (k:Nat) (x0:(Int × Int)) (x1:(Int × Int)):Option Bool:=if (x0.1 != x1.1) then (some false) else (if (x0.2 != x1.2) then (some false) else (some true))
theorem c161 (k:Nat) (x0:(Int × Int)) (x1:(Int × Int)) (r:Bool) (hF:f161 k x0 x1=some r):PCall Try.prog 161 [⟨sh5,x0⟩,⟨sh5,x1⟩] [⟨.bool,r⟩]:=by
 refine pcall_intro Try.func161 rfl rfl (Nat.le_of_ble_eq_true rfl) ?_
 intro w0 Zi a w h
 rw [f161] at hF
 refine zs [2,3] h an fun a w h => ?_
 refine wp_seq ?_
 refine zs [2,3,9] h an fun a w h => ?_
 refine zi h hF (fun hF => ?_) (fun hF => ?_)
 ·refine zs [4] h an fun a w h => ?_
  cases hF
  exact wp_ret (ret_okR tok h rfl (by kernel_rfl)).1
 ·refine wp_skip ?_
  refine wp_seq ?_
  refine zs [14] h an fun a w h => ?_
  refine zi h hF (fun hF => ?_) (fun hF => ?_)
  ·refine zs [4] h an fun a w h => ?_
   cases hF
   exact wp_ret (ret_okR tok h rfl (by kernel_rfl)).1
  ·refine wp_skip ?_
   refine zs [4] h an fun a w h => ?_
   cases hF
   exact wp_ret (ret_okR tok h rfl (by kernel_rfl)).1
def f101.l30 (k:Nat) (x0:(List (Int × Int))) (x1:(List (Int × Int))):Nat→Int→Option Bool
 | 0,_ => none
 | m30+1,v50 => if (decide (v50 < (List.length x0:Int))) then (if (0≤v50∧v50 < (List.length x0:Int)) then (if (0≤v50∧v50 < (List.length x1:Int)) then ((f161 k (List.getD x0 (Int.toNat v50) ((0:Int),(0:Int))) (List.getD x1 (Int.toNat v50) ((0:Int),(0:Int)))).bind fun r55 => (if (!r55) then (some false) else ((f101.l30 k x0 x1) m30 (IntKind.i64.wrap (v50 + (1:Int)))))) else none) else none) else (some true)
def f101 (k:Nat) (x0:(List (Int × Int))) (x1:(List (Int × Int))):Option Bool:=if (((List.length x0:Int):Int) != (List.length x1:Int)) then (some false) else (f101.l30 k x0 x1 k (0:Int))
theorem c101 (k:Nat) (x0:(List (Int × Int))) (x1:(List (Int × Int))) (r:Bool) (hF:f101 k x0 x1=some r):PCall Try.prog 101 [⟨sh15,x0⟩,⟨sh15,x1⟩] [⟨.bool,r⟩]:=by
 refine pcall_intro Try.func101 rfl rfl (Nat.le_of_ble_eq_true rfl) ?_
 intro w0 Zi a w h
 rw [f101] at hF
 refine zs [0,1] h an fun a w h => ?_
 refine wp_seq ?_
 refine zs [0,1,10] h an fun a w h => ?_
 refine zi h hF (fun hF => ?_) (fun hF => ?_)
 ·refine zs [4] h an fun a w h => ?_
  cases hF
  exact wp_ret (ret_okR tok h rfl (by kernel_rfl)).1
 ·refine wp_skip ?_
  refine wp_seq ?_
  refine zs [0,1,5] h an fun a w h => ?_
  refine wp_block ?_
  refine wp_loop_fuel (f101.l30 k x0 x1) (fun v50 => [(0,.val sh15 x0),(1,.val sh15 x1),(5,.val iS v50)]) (fun v h => by rw [f101.l30] at h; cases h) ?_ hF (ar h [0,1,5])
  intro m30 v50 a w hF h
  rw [f101.l30] at hF
  refine wp_seq ?_
  refine zs [0,1,5,14] h an fun a w h => ?_
  refine zi h hF (fun hF => ?_) (fun hF => ?_)
  ·refine wp_skip ?_
   refine wp_seq <| wp_block ?_
   obtain ⟨hc56,hF⟩:=of_if hF
   obtain ⟨hc57,hF⟩:=of_if hF
   obtain ⟨r55,hr58,hF⟩:=of_bind hF
   refine wp_regy_seq tok (orc:=orcL [(25,[⟨.bool,r55⟩])]) (l:=[0,1,5,26]) ([],[],[],[]) 10 nw h (by kernel_rfl) (by kernel_rfl) (ac hc56 (ac hc57 (ac (c161 k (gD x0 (tZ v50) (iO,iO)) (gD x1 (tZ v50) (iO,iO)) r55 hr58) an))) fun a w h => ?_
   refine zi h hF (fun hF => ?_) (fun hF => ?_)
   ·refine zs [4] h an fun a w h => ?_
    cases hF
    exact wp_ret (ret_okR tok h rfl (by kernel_rfl)).1
   ·refine wp_skip ?_
    refine zt [0,1,5] h an fun a w h => ?_
    exact ⟨(w64 (v50 + (1:Int))),hF,ar h [0,1,5]⟩
  ·refine wp_exit ?_
   refine zs [4] h an fun a w h => ?_
   cases hF
   exact wp_ret (ret_okR tok h rfl (by kernel_rfl)).1
def f45 (k:Nat) (x0:((List (Int × (Int × Int))) × ((List (Int × (Int × (Int × (Int × (Int × ByteArray)))))) × (List (Int × Int))))) (x1:((List (Int × (Int × Int))) × ((List (Int × (Int × (Int × (Int × (Int × ByteArray)))))) × (List (Int × Int))))):Option Bool:=(f99 k x0.1 x1.1).bind fun r1 => (if (!r1) then (some false) else ((f100 k x0.2.1 x1.2.1).bind fun r2 => (if (!r2) then (some false) else ((f101 k x0.2.2 x1.2.2).bind fun r3 => (if (!r3) then (some false) else (some true))))))
theorem c45 (k:Nat) (x0:tG) (x1:tG) (r:Bool) (hF:f45 k x0 x1=some r):PCall Try.prog 45 [⟨sh12,x0⟩,⟨sh12,x1⟩] [⟨.bool,r⟩]:=by
 refine pcall_intro Try.func45 rfl rfl (Nat.le_of_ble_eq_true rfl) ?_
 intro w0 Zi a w h
 rw [f45] at hF
 refine zs [2,3] h an fun a w h => ?_
 refine wp_seq ?_
 obtain ⟨r1,hr6,hF⟩:=of_bind hF
 refine zc (orcL [(9,[⟨.bool,r1⟩])]) [2,3,10] h (ac (c99 k x0.1 x1.1 r1 hr6) an) fun a w h => ?_
 refine zi h hF (fun hF => ?_) (fun hF => ?_)
 ·refine zs [4] h an fun a w h => ?_
  cases hF
  exact wp_ret (ret_okR tok h rfl (by kernel_rfl)).1
 ·refine wp_skip ?_
  refine wp_seq ?_
  obtain ⟨r2,hr5,hF⟩:=of_bind hF
  refine zc (orcL [(15,[⟨.bool,r2⟩])]) [2,3,16] h (ac (c100 k x0.2.1 x1.2.1 r2 hr5) an) fun a w h => ?_
  refine zi h hF (fun hF => ?_) (fun hF => ?_)
  ·refine zs [4] h an fun a w h => ?_
   cases hF
   exact wp_ret (ret_okR tok h rfl (by kernel_rfl)).1
  ·refine wp_skip ?_
   refine wp_seq ?_
   obtain ⟨r3,hr4,hF⟩:=of_bind hF
   refine zc (orcL [(21,[⟨.bool,r3⟩])]) [22] h (ac (c101 k x0.2.2 x1.2.2 r3 hr4) an) fun a w h => ?_
   refine zi h hF (fun hF => ?_) (fun hF => ?_)
   ·refine zs [4] h an fun a w h => ?_
    cases hF
    exact wp_ret (ret_okR tok h rfl (by kernel_rfl)).1
   ·refine wp_skip ?_
    refine zs [4] h an fun a w h => ?_
    cases hF
    exact wp_ret (ret_okR tok h rfl (by kernel_rfl)).1
def f102.l44 (k:Nat):Nat → ((List (Int × (Int × Int))) × Int × Int)→Option (Int × (List (Int × (Int × Int))))
 | 0,_ => none
 | m44+1,(v74,v75,v76) => if (decide (v76 < (List.length v74:Int))) then (if (0≤v76∧v76 < (List.length v74:Int)) then (if (0≤v76∧v76 < (List.length (List.set v74 (Int.toNat v76) (v75,(List.getD v74 (Int.toNat v76) ((0:Int),((0:Int),(0:Int)))).2)):Int)) then ((some ((List.set (List.set v74 (Int.toNat v76) (v75,(List.getD v74 (Int.toNat v76) ((0:Int),((0:Int),(0:Int)))).2)) (Int.toNat v76) ((List.getD (List.set v74 (Int.toNat v76) (v75,(List.getD v74 (Int.toNat v76) ((0:Int),((0:Int),(0:Int)))).2)) (Int.toNat v76) ((0:Int),((0:Int),(0:Int)))).1,((IntKind.i64.wrap (v75 + (1:Int))),(List.getD (List.set v74 (Int.toNat v76) (v75,(List.getD v74 (Int.toNat v76) ((0:Int),((0:Int),(0:Int)))).2)) (Int.toNat v76) ((0:Int),((0:Int),(0:Int)))).2.2))):(List (Int × (Int × Int))))).bind fun v82 => (if (0≤v76∧v76 < (List.length v82:Int)) then ((f102.l44 k) m44 ((List.set v82 (Int.toNat v76) ((List.getD v82 (Int.toNat v76) ((0:Int),((0:Int),(0:Int)))).1,((List.getD v82 (Int.toNat v76) ((0:Int),((0:Int),(0:Int)))).2.1,(IntKind.i64.wrap ((IntKind.i64.wrap (v75 + (1:Int))) + (1:Int)))))),(IntKind.i64.wrap ((IntKind.i64.wrap ((IntKind.i64.wrap (v75 + (1:Int))) + (1:Int))) + (1:Int))),(IntKind.i64.wrap (v76 + (1:Int))))) else none)) else none) else none) else (some (v75,v74))
def f102 (k:Nat) (x0:(List (Int × (Int × Int)))) (x1:Int):Option (Int × (List (Int × (Int × Int)))):=f102.l44 k k (x0,x1,(0:Int))
theorem c102 (k:Nat) (x0:(List (Int × (Int × Int)))) (x1:Int) (r:(Int × (List (Int × (Int × Int))))) (hF:f102 k x0 x1=some r):PMut Try.prog 102 [⟨sh7,x0⟩,⟨iS,x1⟩] [⟨iS,r.1⟩] (List.set [⟨sh7,x0⟩,⟨iS,x1⟩] 0 ⟨sh7,r.2⟩):=by
 refine pmut_intro (j:=0) (fin:=⟨sh7,r.2⟩) Try.func102 rfl rfl (Nat.le_of_ble_eq_true rfl) (Nat.le_of_ble_eq_true rfl) (by kernel_rfl) ?_
 intro w0 Zi f0 v0 a w h
 rw [f102] at hF
 refine wp_reg_seq tok (orc:=o0) (fz:=[]) (l:=[0,1]) (.inl rfl) h (by kernel_rfl) an fun a w h => ?_
 refine wp_seq ?_
 refine wp_reg_seq tok (orc:=o0) (fz:=[]) (l:=[0,1,5]) (.inl rfl) h (by kernel_rfl) an fun a w h => ?_
 refine wp_block ?_
 refine wp_loop_fuel (f102.l44 k) (fun ((v74,v75,v76):((List (Int × (Int × Int))) × Int × Int)) => [(0,.val sh7 v74),(1,.val iS v75),(5,.val iS v76)]) (fun v h => by obtain ⟨v74,v75,v76⟩:=v; rw [f102.l44] at h; cases h) ?_ hF (h.arrive (fz:=[]) (l:=[0,1,5]) (.inl rfl) (by kernel_rfl))
 intro m44 v a w hF h
 obtain ⟨v74,v75,v76⟩:=v
 rw [f102.l44] at hF
 refine wp_seq ?_
 refine wp_reg_seq tok (orc:=o0) (fz:=[]) (l:=[0,1,5,9]) (.inl rfl) h (by kernel_rfl) an fun a w h => ?_
 refine zi h hF (fun hF => ?_) (fun hF => ?_)
 ·refine wp_skip ?_
  refine wp_seq <| wp_block ?_
  obtain ⟨hc86,hF⟩:=of_if hF
  refine wp_reg_seq tok (orc:=o0) (fz:=[]) (l:=[0,1,5]) (.inl rfl) h (by kernel_rfl) (ac hc86 an) fun a w h => ?_
  refine wp_reg_seq tok (orc:=o0) (fz:=[]) (l:=[0,1,5]) (.inl rfl) h (by kernel_rfl) an fun a w h => ?_
  obtain ⟨hc85,hF⟩:=of_if hF
  refine wp_reg_seq tok (orc:=o0) (fz:=[]) (l:=[0,1,5]) (.inl rfl) h (by kernel_rfl) (ac hc85 an) fun a w h => ?_
  obtain ⟨v82,hv84,hF⟩:=of_bind hF
  replace h:=h.cast (S':=[(0,.val sh7 v82),(1,.val iS (w64 (v75 + (1:Int)))),(5,.val iS v76)]) (by cases hv84; kernel_rfl)
  refine wp_reg_seq tok (orc:=o0) (fz:=[]) (l:=[0,1,5]) (.inl rfl) h (by kernel_rfl) an fun a w h => ?_
  obtain ⟨hc83,hF⟩:=of_if hF
  refine wp_reg_seq tok (orc:=o0) (fz:=[]) (l:=[0,1,5]) (.inl rfl) h (by kernel_rfl) (ac hc83 an) fun a w h => ?_
  refine wp_reg tok (orc:=o0) (fz:=[]) (l:=[0,1,5]) (.inl rfl) h (by kernel_rfl) an fun a w h => ?_
  refine wp_reg tok (orc:=o0) (fz:=[]) (l:=[0,1,5]) (.inl rfl) h (by kernel_rfl) an fun a w h => ?_
  exact ⟨((List.set v82 (tZ v76) ((gD v82 (tZ v76) (iO,(iO,iO))).1,((gD v82 (tZ v76) (iO,(iO,iO))).2.1,(w64 ((w64 (v75 + (1:Int))) + (1:Int)))))),(w64 ((w64 ((w64 (v75 + (1:Int))) + (1:Int))) + (1:Int))),(w64 (v76 + (1:Int)))),hF,h.arrive (fz:=[]) (l:=[0,1,5]) (.inl rfl) (by kernel_rfl)⟩
 ·refine wp_exit ?_
  refine wp_reg_seq tok (orc:=o0) (fz:=[]) (l:=[0,4]) (.inl rfl) h (by kernel_rfl) an fun a w h => ?_
  cases hF
  exact wp_ret (retM_ok tok h rfl (by kernel_rfl) (by kernel_rfl)).1
def f119.l19 (k:Nat):Nat → (Int × ByteArray)→Option ByteArray
 | 0,_ => none
 | m19+1,(v32,v33) => if (decide (v32 > (0:Int))) then (if (((10:Int):Int)≠0) then (if (ByteArray.size (strOfNums [(IntKind.u8.wrap (IntKind.i64.wrap ((48:Int) + (Int.tmod v32 (10:Int)))))])+ByteArray.size v33≤9223372036854775807) then (if (((10:Int):Int)≠0) then ((f119.l19 k) m19 ((IntKind.i64.wrap (Int.tdiv v32 (10:Int))),((strOfNums [(IntKind.u8.wrap (IntKind.i64.wrap ((48:Int) + (Int.tmod v32 (10:Int)))))]) ++ v33))) else none) else none) else none) else (if (ByteArray.size (⟨#[109]⟩:ByteArray)+ByteArray.size v33≤9223372036854775807) then (some ((⟨#[109]⟩:ByteArray) ++ v33)) else none)
def f119 (k:Nat) (x0:Int):Option ByteArray:=if (decide (x0 ≤ (0:Int))) then (some (⟨#[109,48]⟩:ByteArray)) else (f119.l19 k k (x0,(⟨#[]⟩:ByteArray)))
theorem c119 (k:Nat) (x0:Int) (r:ByteArray) (hF:f119 k x0=some r):PCall Try.prog 119 [⟨iS,x0⟩] [⟨.str,r⟩]:=by
 refine pcall_intro Try.func119 rfl rfl (Nat.le_of_ble_eq_true rfl) ?_
 intro w0 Zi a w h
 rw [f119] at hF
 refine zs [0] h an fun a w h => ?_
 refine wp_seq ?_
 refine zs [0,5] h an fun a w h => ?_
 refine zi h hF (fun hF => ?_) (fun hF => ?_)
 ·refine zs [2] h an fun a w h => ?_
  cases hF
  exact wp_ret (ret_okR tok h rfl (by kernel_rfl)).1
 ·refine wp_skip ?_
  refine zs [0,3] h an fun a w h => ?_
  refine wp_seq <| wp_block ?_
  refine wp_loop_fuel (f119.l19 k) (fun ((v32,v33):(Int × ByteArray)) => [(0,.val iS v32),(3,.val .str v33)]) (fun v h => by obtain ⟨v32,v33⟩:=v; rw [f119.l19] at h; cases h) ?_ hF (ar h [0,3])
  intro m19 v a w hF h
  obtain ⟨v32,v33⟩:=v
  rw [f119.l19] at hF
  refine wp_seq ?_
  refine zs [0,3,7] h an fun a w h => ?_
  refine zi h hF (fun hF => ?_) (fun hF => ?_)
  ·refine wp_skip ?_
   refine wp_block ?_
   obtain ⟨hc35,hF⟩:=of_if hF
   obtain ⟨hc36,hF⟩:=of_if hF
   refine zs [0,3] h (ac hc35 (ac hc36 an)) fun a w h => ?_
   obtain ⟨hc34,hF⟩:=of_if hF
   refine zt [0,3] h (ac hc34 an) fun a w h => ?_
   exact ⟨((w64 (Int.tdiv v32 (10:Int))),((strOfNums [(IntKind.u8.wrap (w64 ((48:Int) + (Int.tmod v32 (10:Int)))))]) ++ v33)),hF,ar h [0,3]⟩
  ·refine wp_exit ?_
   obtain ⟨hc37,hF⟩:=of_if hF
   refine zs [2] h (ac hc37 an) fun a w h => ?_
   cases hF
   exact wp_ret (ret_okR tok h rfl (by kernel_rfl)).1
def f103.l110 (k:Nat):Nat → ((List (Int × (Int × (Int × (Int × (Int × ByteArray)))))) × Int × Int)→Option (Int × (List (Int × (Int × (Int × (Int × (Int × ByteArray)))))))
 | 0,_ => none
 | m110+1,(v184,v185,v186) => if (decide (v186 < (List.length v184:Int))) then (if (0≤v186∧v186 < (List.length v184:Int)) then (if (0≤v186∧v186 < (List.length (List.set v184 (Int.toNat v186) (v185,(List.getD v184 (Int.toNat v186) ((0:Int),((0:Int),((0:Int),((0:Int),((0:Int),(⟨#[]⟩:ByteArray))))))).2)):Int)) then ((some ((List.set (List.set v184 (Int.toNat v186) (v185,(List.getD v184 (Int.toNat v186) ((0:Int),((0:Int),((0:Int),((0:Int),((0:Int),(⟨#[]⟩:ByteArray))))))).2)) (Int.toNat v186) ((List.getD (List.set v184 (Int.toNat v186) (v185,(List.getD v184 (Int.toNat v186) ((0:Int),((0:Int),((0:Int),((0:Int),((0:Int),(⟨#[]⟩:ByteArray))))))).2)) (Int.toNat v186) ((0:Int),((0:Int),((0:Int),((0:Int),((0:Int),(⟨#[]⟩:ByteArray))))))).1,((IntKind.i64.wrap (v185 + (1:Int))),(List.getD (List.set v184 (Int.toNat v186) (v185,(List.getD v184 (Int.toNat v186) ((0:Int),((0:Int),((0:Int),((0:Int),((0:Int),(⟨#[]⟩:ByteArray))))))).2)) (Int.toNat v186) ((0:Int),((0:Int),((0:Int),((0:Int),((0:Int),(⟨#[]⟩:ByteArray))))))).2.2))):(List (Int × (Int × (Int × (Int × (Int × ByteArray)))))))).bind fun v203 => (if (0≤v186∧v186 < (List.length v203:Int)) then (if (0≤v186∧v186 < (List.length (List.set v203 (Int.toNat v186) ((List.getD v203 (Int.toNat v186) ((0:Int),((0:Int),((0:Int),((0:Int),((0:Int),(⟨#[]⟩:ByteArray))))))).1,((List.getD v203 (Int.toNat v186) ((0:Int),((0:Int),((0:Int),((0:Int),((0:Int),(⟨#[]⟩:ByteArray))))))).2.1,((IntKind.i64.wrap ((IntKind.i64.wrap (v185 + (1:Int))) + (1:Int))),(List.getD v203 (Int.toNat v186) ((0:Int),((0:Int),((0:Int),((0:Int),((0:Int),(⟨#[]⟩:ByteArray))))))).2.2.2)))):Int)) then ((some ((List.set (List.set v203 (Int.toNat v186) ((List.getD v203 (Int.toNat v186) ((0:Int),((0:Int),((0:Int),((0:Int),((0:Int),(⟨#[]⟩:ByteArray))))))).1,((List.getD v203 (Int.toNat v186) ((0:Int),((0:Int),((0:Int),((0:Int),((0:Int),(⟨#[]⟩:ByteArray))))))).2.1,((IntKind.i64.wrap ((IntKind.i64.wrap (v185 + (1:Int))) + (1:Int))),(List.getD v203 (Int.toNat v186) ((0:Int),((0:Int),((0:Int),((0:Int),((0:Int),(⟨#[]⟩:ByteArray))))))).2.2.2)))) (Int.toNat v186) ((List.getD (List.set v203 (Int.toNat v186) ((List.getD v203 (Int.toNat v186) ((0:Int),((0:Int),((0:Int),((0:Int),((0:Int),(⟨#[]⟩:ByteArray))))))).1,((List.getD v203 (Int.toNat v186) ((0:Int),((0:Int),((0:Int),((0:Int),((0:Int),(⟨#[]⟩:ByteArray))))))).2.1,((IntKind.i64.wrap ((IntKind.i64.wrap (v185 + (1:Int))) + (1:Int))),(List.getD v203 (Int.toNat v186) ((0:Int),((0:Int),((0:Int),((0:Int),((0:Int),(⟨#[]⟩:ByteArray))))))).2.2.2)))) (Int.toNat v186) ((0:Int),((0:Int),((0:Int),((0:Int),((0:Int),(⟨#[]⟩:ByteArray))))))).1,((List.getD (List.set v203 (Int.toNat v186) ((List.getD v203 (Int.toNat v186) ((0:Int),((0:Int),((0:Int),((0:Int),((0:Int),(⟨#[]⟩:ByteArray))))))).1,((List.getD v203 (Int.toNat v186) ((0:Int),((0:Int),((0:Int),((0:Int),((0:Int),(⟨#[]⟩:ByteArray))))))).2.1,((IntKind.i64.wrap ((IntKind.i64.wrap (v185 + (1:Int))) + (1:Int))),(List.getD v203 (Int.toNat v186) ((0:Int),((0:Int),((0:Int),((0:Int),((0:Int),(⟨#[]⟩:ByteArray))))))).2.2.2)))) (Int.toNat v186) ((0:Int),((0:Int),((0:Int),((0:Int),((0:Int),(⟨#[]⟩:ByteArray))))))).2.1,((List.getD (List.set v203 (Int.toNat v186) ((List.getD v203 (Int.toNat v186) ((0:Int),((0:Int),((0:Int),((0:Int),((0:Int),(⟨#[]⟩:ByteArray))))))).1,((List.getD v203 (Int.toNat v186) ((0:Int),((0:Int),((0:Int),((0:Int),((0:Int),(⟨#[]⟩:ByteArray))))))).2.1,((IntKind.i64.wrap ((IntKind.i64.wrap (v185 + (1:Int))) + (1:Int))),(List.getD v203 (Int.toNat v186) ((0:Int),((0:Int),((0:Int),((0:Int),((0:Int),(⟨#[]⟩:ByteArray))))))).2.2.2)))) (Int.toNat v186) ((0:Int),((0:Int),((0:Int),((0:Int),((0:Int),(⟨#[]⟩:ByteArray))))))).2.2.1,((IntKind.i64.wrap ((IntKind.i64.wrap ((IntKind.i64.wrap (v185 + (1:Int))) + (1:Int))) + (1:Int))),(List.getD (List.set v203 (Int.toNat v186) ((List.getD v203 (Int.toNat v186) ((0:Int),((0:Int),((0:Int),((0:Int),((0:Int),(⟨#[]⟩:ByteArray))))))).1,((List.getD v203 (Int.toNat v186) ((0:Int),((0:Int),((0:Int),((0:Int),((0:Int),(⟨#[]⟩:ByteArray))))))).2.1,((IntKind.i64.wrap ((IntKind.i64.wrap (v185 + (1:Int))) + (1:Int))),(List.getD v203 (Int.toNat v186) ((0:Int),((0:Int),((0:Int),((0:Int),((0:Int),(⟨#[]⟩:ByteArray))))))).2.2.2)))) (Int.toNat v186) ((0:Int),((0:Int),((0:Int),((0:Int),((0:Int),(⟨#[]⟩:ByteArray))))))).2.2.2.2))))):(List (Int × (Int × (Int × (Int × (Int × ByteArray)))))))).bind fun v204 => (if (0≤v186∧v186 < (List.length v204:Int)) then ((some ((List.set v204 (Int.toNat v186) ((List.getD v204 (Int.toNat v186) ((0:Int),((0:Int),((0:Int),((0:Int),((0:Int),(⟨#[]⟩:ByteArray))))))).1,((List.getD v204 (Int.toNat v186) ((0:Int),((0:Int),((0:Int),((0:Int),((0:Int),(⟨#[]⟩:ByteArray))))))).2.1,((List.getD v204 (Int.toNat v186) ((0:Int),((0:Int),((0:Int),((0:Int),((0:Int),(⟨#[]⟩:ByteArray))))))).2.2.1,((List.getD v204 (Int.toNat v186) ((0:Int),((0:Int),((0:Int),((0:Int),((0:Int),(⟨#[]⟩:ByteArray))))))).2.2.2.1,((IntKind.i64.wrap ((IntKind.i64.wrap ((IntKind.i64.wrap ((IntKind.i64.wrap (v185 + (1:Int))) + (1:Int))) + (1:Int))) + (1:Int))),(List.getD v204 (Int.toNat v186) ((0:Int),((0:Int),((0:Int),((0:Int),((0:Int),(⟨#[]⟩:ByteArray))))))).2.2.2.2.2)))))):(List (Int × (Int × (Int × (Int × (Int × ByteArray)))))))).bind fun v205 => ((f119 k (IntKind.i64.wrap ((IntKind.i64.wrap ((IntKind.i64.wrap ((IntKind.i64.wrap ((IntKind.i64.wrap (v185 + (1:Int))) + (1:Int))) + (1:Int))) + (1:Int))) + (1:Int)))).bind fun r206 => (if (0≤v186∧v186 < (List.length v205:Int)) then ((some ((List.set v205 (Int.toNat v186) ((List.getD v205 (Int.toNat v186) ((0:Int),((0:Int),((0:Int),((0:Int),((0:Int),(⟨#[]⟩:ByteArray))))))).1,((List.getD v205 (Int.toNat v186) ((0:Int),((0:Int),((0:Int),((0:Int),((0:Int),(⟨#[]⟩:ByteArray))))))).2.1,((List.getD v205 (Int.toNat v186) ((0:Int),((0:Int),((0:Int),((0:Int),((0:Int),(⟨#[]⟩:ByteArray))))))).2.2.1,((List.getD v205 (Int.toNat v186) ((0:Int),((0:Int),((0:Int),((0:Int),((0:Int),(⟨#[]⟩:ByteArray))))))).2.2.2.1,((List.getD v205 (Int.toNat v186) ((0:Int),((0:Int),((0:Int),((0:Int),((0:Int),(⟨#[]⟩:ByteArray))))))).2.2.2.2.1,r206)))))):(List (Int × (Int × (Int × (Int × (Int × ByteArray)))))))).bind fun v207 => ((f103.l110 k) m110 (v207,(IntKind.i64.wrap ((IntKind.i64.wrap ((IntKind.i64.wrap ((IntKind.i64.wrap ((IntKind.i64.wrap ((IntKind.i64.wrap (v185 + (1:Int))) + (1:Int))) + (1:Int))) + (1:Int))) + (1:Int))) + (1:Int))),(IntKind.i64.wrap (v186 + (1:Int)))))) else none))) else none)) else none) else none)) else none) else none) else (some (v185,v184))
def f103 (k:Nat) (x0:(List (Int × (Int × (Int × (Int × (Int × ByteArray))))))) (x1:Int):Option (Int × (List (Int × (Int × (Int × (Int × (Int × ByteArray))))))):=f103.l110 k k (x0,x1,(0:Int))
theorem c103 (k:Nat) (x0:(List (Int × (Int × (Int × (Int × (Int × ByteArray))))))) (x1:Int) (r:(Int × (List (Int × (Int × (Int × (Int × (Int × ByteArray)))))))) (hF:f103 k x0 x1=some r):PMut Try.prog 103 [⟨sh8,x0⟩,⟨iS,x1⟩] [⟨iS,r.1⟩] (List.set [⟨sh8,x0⟩,⟨iS,x1⟩] 0 ⟨sh8,r.2⟩):=by
 refine pmut_intro (j:=0) (fin:=⟨sh8,r.2⟩) Try.func103 rfl rfl (Nat.le_of_ble_eq_true rfl) (Nat.le_of_ble_eq_true rfl) (by kernel_rfl) ?_
 intro w0 Zi f0 v0 a w h
 rw [f103] at hF
 refine wp_reg_seq tok (orc:=o0) (fz:=[]) (l:=[0,1]) (.inl rfl) h (by kernel_rfl) an fun a w h => ?_
 refine wp_seq ?_
 refine wp_reg_seq tok (orc:=o0) (fz:=[]) (l:=[0,1,5]) (.inl rfl) h (by kernel_rfl) an fun a w h => ?_
 refine wp_block ?_
 refine wp_loop_fuel (f103.l110 k) (fun ((v184,v185,v186):((List (Int × (Int × (Int × (Int × (Int × ByteArray)))))) × Int × Int)) => [(0,.val sh8 v184),(1,.val iS v185),(5,.val iS v186)]) (fun v h => by obtain ⟨v184,v185,v186⟩:=v; rw [f103.l110] at h; cases h) ?_ hF (h.arrive (fz:=[]) (l:=[0,1,5]) (.inl rfl) (by kernel_rfl))
 intro m110 v a w hF h
 obtain ⟨v184,v185,v186⟩:=v
 rw [f103.l110] at hF
 refine wp_seq ?_
 refine wp_reg_seq tok (orc:=o0) (fz:=[]) (l:=[0,1,5,9]) (.inl rfl) h (by kernel_rfl) an fun a w h => ?_
 refine zi h hF (fun hF => ?_) (fun hF => ?_)
 ·refine wp_skip ?_
  refine wp_seq <| wp_block ?_
  obtain ⟨hc218,hF⟩:=of_if hF
  refine wp_reg_seq tok (orc:=o0) (fz:=[]) (l:=[0,1,5]) (.inl rfl) h (by kernel_rfl) (ac hc218 an) fun a w h => ?_
  refine wp_reg_seq tok (orc:=o0) (fz:=[]) (l:=[0,1,5]) (.inl rfl) h (by kernel_rfl) an fun a w h => ?_
  obtain ⟨hc217,hF⟩:=of_if hF
  refine wp_reg_seq tok (orc:=o0) (fz:=[]) (l:=[0,1,5]) (.inl rfl) h (by kernel_rfl) (ac hc217 an) fun a w h => ?_
  obtain ⟨v203,hv216,hF⟩:=of_bind hF
  replace h:=h.cast (S':=[(0,.val sh8 v203),(1,.val iS (w64 (v185 + (1:Int)))),(5,.val iS v186)]) (by cases hv216; kernel_rfl)
  refine wp_reg_seq tok (orc:=o0) (fz:=[]) (l:=[0,1,5]) (.inl rfl) h (by kernel_rfl) an fun a w h => ?_
  obtain ⟨hc215,hF⟩:=of_if hF
  refine wp_reg_seq tok (orc:=o0) (fz:=[]) (l:=[0,1,5]) (.inl rfl) h (by kernel_rfl) (ac hc215 an) fun a w h => ?_
  refine wp_reg_seq tok (orc:=o0) (fz:=[]) (l:=[0,1,5]) (.inl rfl) h (by kernel_rfl) an fun a w h => ?_
  obtain ⟨hc214,hF⟩:=of_if hF
  refine wp_reg_seq tok (orc:=o0) (fz:=[]) (l:=[0,1,5]) (.inl rfl) h (by kernel_rfl) (ac hc214 an) fun a w h => ?_
  obtain ⟨v204,hv213,hF⟩:=of_bind hF
  replace h:=h.cast (S':=[(0,.val sh8 v204),(1,.val iS (w64 ((w64 ((w64 (v185 + (1:Int))) + (1:Int))) + (1:Int)))),(5,.val iS v186)]) (by cases hv213; kernel_rfl)
  refine wp_reg_seq tok (orc:=o0) (fz:=[]) (l:=[0,1,5]) (.inl rfl) h (by kernel_rfl) an fun a w h => ?_
  obtain ⟨hc212,hF⟩:=of_if hF
  refine wp_reg_seq tok (orc:=o0) (fz:=[]) (l:=[0,1,5]) (.inl rfl) h (by kernel_rfl) (ac hc212 an) fun a w h => ?_
  obtain ⟨v205,hv211,hF⟩:=of_bind hF
  replace h:=h.cast (S':=[(0,.val sh8 v205),(1,.val iS (w64 ((w64 ((w64 ((w64 (v185 + (1:Int))) + (1:Int))) + (1:Int))) + (1:Int)))),(5,.val iS v186)]) (by cases hv211; kernel_rfl)
  refine wp_reg_seq tok (orc:=o0) (fz:=[]) (l:=[0,1,5]) (.inl rfl) h (by kernel_rfl) an fun a w h => ?_
  obtain ⟨r206,hr209,hF⟩:=of_bind hF
  obtain ⟨hc210,hF⟩:=of_if hF
  refine wp_reg_seq tok (orc:=orcL [(50,[⟨.str,r206⟩])]) (fz:=[]) (l:=[0,1,5]) (.inl rfl) h (by kernel_rfl) (ac (c119 k (w64 ((w64 ((w64 ((w64 ((w64 (v185 + (1:Int))) + (1:Int))) + (1:Int))) + (1:Int))) + (1:Int))) r206 hr209) (ac hc210 an)) fun a w h => ?_
  obtain ⟨v207,hv208,hF⟩:=of_bind hF
  replace h:=h.cast (S':=[(0,.val sh8 v207),(1,.val iS (w64 ((w64 ((w64 ((w64 ((w64 (v185 + (1:Int))) + (1:Int))) + (1:Int))) + (1:Int))) + (1:Int)))),(5,.val iS v186)]) (by cases hv208; kernel_rfl)
  refine wp_reg tok (orc:=o0) (fz:=[]) (l:=[0,1,5]) (.inl rfl) h (by kernel_rfl) an fun a w h => ?_
  refine wp_reg tok (orc:=o0) (fz:=[]) (l:=[0,1,5]) (.inl rfl) h (by kernel_rfl) an fun a w h => ?_
  exact ⟨(v207,(w64 ((w64 ((w64 ((w64 ((w64 ((w64 (v185 + (1:Int))) + (1:Int))) + (1:Int))) + (1:Int))) + (1:Int))) + (1:Int))),(w64 (v186 + (1:Int)))),hF,h.arrive (fz:=[]) (l:=[0,1,5]) (.inl rfl) (by kernel_rfl)⟩
 ·refine wp_exit ?_
  refine wp_reg_seq tok (orc:=o0) (fz:=[]) (l:=[0,4]) (.inl rfl) h (by kernel_rfl) an fun a w h => ?_
  cases hF
  exact wp_ret (retM_ok tok h rfl (by kernel_rfl) (by kernel_rfl)).1
def f104.l26 (k:Nat):Nat → ((List (Int × Int)) × Int × Int)→Option (Int × (List (Int × Int)))
 | 0,_ => none
 | m26+1,(v44,v45,v46) => if (decide (v46 < (List.length v44:Int))) then (if (0≤v46∧v46 < (List.length v44:Int)) then (if (0≤v46∧v46 < (List.length (List.set v44 (Int.toNat v46) (v45,(List.getD v44 (Int.toNat v46) ((0:Int),(0:Int))).2)):Int)) then ((f104.l26 k) m26 ((List.set (List.set v44 (Int.toNat v46) (v45,(List.getD v44 (Int.toNat v46) ((0:Int),(0:Int))).2)) (Int.toNat v46) ((List.getD (List.set v44 (Int.toNat v46) (v45,(List.getD v44 (Int.toNat v46) ((0:Int),(0:Int))).2)) (Int.toNat v46) ((0:Int),(0:Int))).1,(IntKind.i64.wrap (v45 + (1:Int))))),(IntKind.i64.wrap ((IntKind.i64.wrap (v45 + (1:Int))) + (1:Int))),(IntKind.i64.wrap (v46 + (1:Int))))) else none) else none) else (some (v45,v44))
def f104 (k:Nat) (x0:(List (Int × Int))) (x1:Int):Option (Int × (List (Int × Int))):=f104.l26 k k (x0,x1,(0:Int))
theorem c104 (k:Nat) (x0:(List (Int × Int))) (x1:Int) (r:(Int × (List (Int × Int)))) (hF:f104 k x0 x1=some r):PMut Try.prog 104 [⟨sh9,x0⟩,⟨iS,x1⟩] [⟨iS,r.1⟩] (List.set [⟨sh9,x0⟩,⟨iS,x1⟩] 0 ⟨sh9,r.2⟩):=by
 refine pmut_intro (j:=0) (fin:=⟨sh9,r.2⟩) Try.func104 rfl rfl (Nat.le_of_ble_eq_true rfl) (Nat.le_of_ble_eq_true rfl) (by kernel_rfl) ?_
 intro w0 Zi f0 v0 a w h
 rw [f104] at hF
 refine wp_reg_seq tok (orc:=o0) (fz:=[]) (l:=[0,1]) (.inl rfl) h (by kernel_rfl) an fun a w h => ?_
 refine wp_seq ?_
 refine wp_reg_seq tok (orc:=o0) (fz:=[]) (l:=[0,1,5]) (.inl rfl) h (by kernel_rfl) an fun a w h => ?_
 refine wp_block ?_
 refine wp_loop_fuel (f104.l26 k) (fun ((v44,v45,v46):((List (Int × Int)) × Int × Int)) => [(0,.val sh9 v44),(1,.val iS v45),(5,.val iS v46)]) (fun v h => by obtain ⟨v44,v45,v46⟩:=v; rw [f104.l26] at h; cases h) ?_ hF (h.arrive (fz:=[]) (l:=[0,1,5]) (.inl rfl) (by kernel_rfl))
 intro m26 v a w hF h
 obtain ⟨v44,v45,v46⟩:=v
 rw [f104.l26] at hF
 refine wp_seq ?_
 refine wp_reg_seq tok (orc:=o0) (fz:=[]) (l:=[0,1,5,9]) (.inl rfl) h (by kernel_rfl) an fun a w h => ?_
 refine zi h hF (fun hF => ?_) (fun hF => ?_)
 ·refine wp_skip ?_
  refine wp_seq <| wp_block ?_
  obtain ⟨hc50,hF⟩:=of_if hF
  refine wp_reg_seq tok (orc:=o0) (fz:=[]) (l:=[0,1,5]) (.inl rfl) h (by kernel_rfl) (ac hc50 an) fun a w h => ?_
  refine wp_reg_seq tok (orc:=o0) (fz:=[]) (l:=[0,1,5]) (.inl rfl) h (by kernel_rfl) an fun a w h => ?_
  obtain ⟨hc49,hF⟩:=of_if hF
  refine wp_reg_seq tok (orc:=o0) (fz:=[]) (l:=[0,1,5]) (.inl rfl) h (by kernel_rfl) (ac hc49 an) fun a w h => ?_
  refine wp_reg tok (orc:=o0) (fz:=[]) (l:=[0,1,5]) (.inl rfl) h (by kernel_rfl) an fun a w h => ?_
  refine wp_reg tok (orc:=o0) (fz:=[]) (l:=[0,1,5]) (.inl rfl) h (by kernel_rfl) an fun a w h => ?_
  exact ⟨((List.set (List.set v44 (tZ v46) (v45,(gD v44 (tZ v46) (iO,iO)).2)) (tZ v46) ((gD (List.set v44 (tZ v46) (v45,(gD v44 (tZ v46) (iO,iO)).2)) (tZ v46) (iO,iO)).1,(w64 (v45 + (1:Int))))),(w64 ((w64 (v45 + (1:Int))) + (1:Int))),(w64 (v46 + (1:Int)))),hF,h.arrive (fz:=[]) (l:=[0,1,5]) (.inl rfl) (by kernel_rfl)⟩
 ·refine wp_exit ?_
  refine wp_reg_seq tok (orc:=o0) (fz:=[]) (l:=[0,4]) (.inl rfl) h (by kernel_rfl) an fun a w h => ?_
  cases hF
  exact wp_ret (retM_ok tok h rfl (by kernel_rfl) (by kernel_rfl)).1
def f46 (k:Nat) (x0:((List (Int × (Int × Int))) × ((List (Int × (Int × (Int × (Int × (Int × ByteArray)))))) × (List (Int × Int))))) (x1:Int):Option (Int × ((List (Int × (Int × Int))) × ((List (Int × (Int × (Int × (Int × (Int × ByteArray)))))) × (List (Int × Int))))):=(f102 k x0.1 x1).bind fun r1 => ((f103 k x0.2.1 r1.1).bind fun r2 => ((f104 k x0.2.2 r2.1).bind fun r3 => (some (r3.1,(r1.2,(r2.2,r3.2))))))
theorem c46 (k:Nat) (x0:tG) (x1:Int) (r:(Int × tG)) (hF:f46 k x0 x1=some r):PMut Try.prog 46 [⟨sh10,x0⟩,⟨iS,x1⟩] [⟨iS,r.1⟩] (List.set [⟨sh10,x0⟩,⟨iS,x1⟩] 0 ⟨sh10,r.2⟩):=by
 refine pmut_intro (j:=0) (fin:=⟨sh10,r.2⟩) Try.func46 rfl rfl (Nat.le_of_ble_eq_true rfl) (Nat.le_of_ble_eq_true rfl) (by kernel_rfl) ?_
 intro w0 Zi f0 v0 a w h
 rw [f46] at hF
 refine wp_reg_seq tok (orc:=o0) (fz:=[]) (l:=[0,1,2]) (.inl rfl) h (by kernel_rfl) an fun a w h => ?_
 obtain ⟨r1,hr6,hF⟩:=of_bind hF
 refine wp_reg_seq tok (orc:=orcL [(8,[⟨.pt false 4294967295 (.sl true 181 (.st (.pair iS (.st (.pair iS iS))))),some r1.2⟩,⟨iS,r1.1⟩])]) (fz:=[]) (l:=[0,1,2]) (.inl rfl) h (by kernel_rfl) (ac (c102 k x0.1 x1 r1 hr6) an) fun a w h => ?_
 obtain ⟨r2,hr5,hF⟩:=of_bind hF
 refine wp_reg_seq tok (orc:=orcL [(12,[⟨.pt false 4294967295 (.sl true 171 (.st (.pair iS (.pair iS (.pair iS (.pair iS (.pair iS .str))))))),some r2.2⟩,⟨iS,r2.1⟩])]) (fz:=[]) (l:=[0,1,2]) (.inl rfl) h (by kernel_rfl) (ac (c103 k x0.2.1 r1.1 r2 hr5) an) fun a w h => ?_
 obtain ⟨r3,hr4,hF⟩:=of_bind hF
 refine wp_reg_seq tok (orc:=orcL [(16,[⟨.pt false 4294967295 (.sl true 174 (.st (.pair iS iS))),some r3.2⟩,⟨iS,r3.1⟩])]) (fz:=[]) (l:=[0,1,2]) (.inl rfl) h (by kernel_rfl) (ac (c104 k x0.2.2 r2.1 r3 hr4) an) fun a w h => ?_
 refine wp_reg_seq tok (orc:=o0) (fz:=[]) (l:=[0,2,4]) (.inl rfl) h (by kernel_rfl) an fun a w h => ?_
 cases hF
 exact wp_ret (retMS_ok (d:=2) (t:=71) tok h rfl (by kernel_rfl) (by kernel_rfl)).1
def f126.l28 (k:Nat) (x0:(List (Int × (Int × Int)))):Nat → (Int × Int)→Option Int
 | 0,_ => none
 | m28+1,(v47,v48) => if (decide (v48 < (List.length x0:Int))) then (if (0≤v48∧v48 < (List.length x0:Int)) then (if (((List.getD x0 (Int.toNat v48) ((0:Int),((0:Int),(0:Int)))).1:Int) != v47) then (some (-1:Int)) else (if (0≤v48∧v48 < (List.length x0:Int)) then (if (((List.getD x0 (Int.toNat v48) ((0:Int),((0:Int),(0:Int)))).2.1:Int) != (IntKind.i64.wrap (v47 + (1:Int)))) then (some (-1:Int)) else (if (0≤v48∧v48 < (List.length x0:Int)) then (if (((List.getD x0 (Int.toNat v48) ((0:Int),((0:Int),(0:Int)))).2.2:Int) != (IntKind.i64.wrap ((IntKind.i64.wrap (v47 + (1:Int))) + (1:Int)))) then (some (-1:Int)) else ((f126.l28 k x0) m28 ((IntKind.i64.wrap ((IntKind.i64.wrap ((IntKind.i64.wrap (v47 + (1:Int))) + (1:Int))) + (1:Int))),(IntKind.i64.wrap (v48 + (1:Int)))))) else none)) else none)) else none) else (some v47)
def f126 (k:Nat) (x0:(List (Int × (Int × Int)))) (x1:Int):Option Int:=f126.l28 k x0 k (x1,(0:Int))
theorem c126 (k:Nat) (x0:(List (Int × (Int × Int)))) (x1:Int) (r:Int) (hF:f126 k x0 x1=some r):PCall Try.prog 126 [⟨sh17,x0⟩,⟨iS,x1⟩] [⟨iS,r⟩]:=by
 refine pcall_intro Try.func126 rfl rfl (Nat.le_of_ble_eq_true rfl) ?_
 intro w0 Zi a w h
 rw [f126] at hF
 refine zs [0,1] h an fun a w h => ?_
 refine wp_seq ?_
 refine zs [0,1,5] h an fun a w h => ?_
 refine wp_block ?_
 refine wp_loop_fuel (f126.l28 k x0) (fun ((v47,v48):(Int × Int)) => [(0,.val sh17 x0),(1,.val iS v47),(5,.val iS v48)]) (fun v h => by obtain ⟨v47,v48⟩:=v; rw [f126.l28] at h; cases h) ?_ hF (ar h [0,1,5])
 intro m28 v a w hF h
 obtain ⟨v47,v48⟩:=v
 rw [f126.l28] at hF
 refine wp_seq ?_
 refine zs [0,1,5,9] h an fun a w h => ?_
 refine zi h hF (fun hF => ?_) (fun hF => ?_)
 ·refine wp_skip ?_
  refine wp_seq <| wp_block ?_
  refine wp_seq ?_
  obtain ⟨hc54,hF⟩:=of_if hF
  refine zs [0,1,5,18] h (ac hc54 an) fun a w h => ?_
  refine zi h hF (fun hF => ?_) (fun hF => ?_)
  ·refine zs [4] h an fun a w h => ?_
   cases hF
   exact wp_ret (ret_okR tok h rfl (by kernel_rfl)).1
  ·refine wp_skip ?_
   refine zs [0,1,5] h an fun a w h => ?_
   refine wp_seq ?_
   obtain ⟨hc53,hF⟩:=of_if hF
   refine zs [0,1,5,28] h (ac hc53 an) fun a w h => ?_
   refine zi h hF (fun hF => ?_) (fun hF => ?_)
   ·refine zs [4] h an fun a w h => ?_
    cases hF
    exact wp_ret (ret_okR tok h rfl (by kernel_rfl)).1
   ·refine wp_skip ?_
    refine zs [0,1,5] h an fun a w h => ?_
    refine wp_seq ?_
    obtain ⟨hc52,hF⟩:=of_if hF
    refine zs [0,1,5,38] h (ac hc52 an) fun a w h => ?_
    refine zi h hF (fun hF => ?_) (fun hF => ?_)
    ·refine zs [4] h an fun a w h => ?_
     cases hF
     exact wp_ret (ret_okR tok h rfl (by kernel_rfl)).1
    ·refine wp_skip ?_
     refine zt [0,1,5] h an fun a w h => ?_
     refine zt [0,1,5] h an fun a w h => ?_
     exact ⟨((w64 ((w64 ((w64 (v47 + (1:Int))) + (1:Int))) + (1:Int))),(w64 (v48 + (1:Int)))),hF,ar h [0,1,5]⟩
 ·refine wp_exit ?_
  refine zs [4] h an fun a w h => ?_
  cases hF
  exact wp_ret (ret_okR tok h rfl (by kernel_rfl)).1
def f127.l58 (k:Nat) (x0:(List (Int × (Int × (Int × (Int × (Int × ByteArray))))))):Nat → (Int × Int)→Option Int
 | 0,_ => none
 | m58+1,(v97,v98) => if (decide (v98 < (List.length x0:Int))) then (if (0≤v98∧v98 < (List.length x0:Int)) then (if (((List.getD x0 (Int.toNat v98) ((0:Int),((0:Int),((0:Int),((0:Int),((0:Int),(⟨#[]⟩:ByteArray))))))).1:Int) != v97) then (some (-1:Int)) else (if (0≤v98∧v98 < (List.length x0:Int)) then (if (((List.getD x0 (Int.toNat v98) ((0:Int),((0:Int),((0:Int),((0:Int),((0:Int),(⟨#[]⟩:ByteArray))))))).2.1:Int) != (IntKind.i64.wrap (v97 + (1:Int)))) then (some (-1:Int)) else (if (0≤v98∧v98 < (List.length x0:Int)) then (if (((List.getD x0 (Int.toNat v98) ((0:Int),((0:Int),((0:Int),((0:Int),((0:Int),(⟨#[]⟩:ByteArray))))))).2.2.1:Int) != (IntKind.i64.wrap ((IntKind.i64.wrap (v97 + (1:Int))) + (1:Int)))) then (some (-1:Int)) else (if (0≤v98∧v98 < (List.length x0:Int)) then (if (((List.getD x0 (Int.toNat v98) ((0:Int),((0:Int),((0:Int),((0:Int),((0:Int),(⟨#[]⟩:ByteArray))))))).2.2.2.1:Int) != (IntKind.i64.wrap ((IntKind.i64.wrap ((IntKind.i64.wrap (v97 + (1:Int))) + (1:Int))) + (1:Int)))) then (some (-1:Int)) else (if (0≤v98∧v98 < (List.length x0:Int)) then (if (((List.getD x0 (Int.toNat v98) ((0:Int),((0:Int),((0:Int),((0:Int),((0:Int),(⟨#[]⟩:ByteArray))))))).2.2.2.2.1:Int) != (IntKind.i64.wrap ((IntKind.i64.wrap ((IntKind.i64.wrap ((IntKind.i64.wrap (v97 + (1:Int))) + (1:Int))) + (1:Int))) + (1:Int)))) then (some (-1:Int)) else (if (0≤v98∧v98 < (List.length x0:Int)) then ((f119 k (IntKind.i64.wrap ((IntKind.i64.wrap ((IntKind.i64.wrap ((IntKind.i64.wrap ((IntKind.i64.wrap (v97 + (1:Int))) + (1:Int))) + (1:Int))) + (1:Int))) + (1:Int)))).bind fun r107 => (if (!(ByteArray.toList (List.getD x0 (Int.toNat v98) ((0:Int),((0:Int),((0:Int),((0:Int),((0:Int),(⟨#[]⟩:ByteArray))))))).2.2.2.2.2 == ByteArray.toList r107)) then (some (-1:Int)) else ((f127.l58 k x0) m58 ((IntKind.i64.wrap ((IntKind.i64.wrap ((IntKind.i64.wrap ((IntKind.i64.wrap ((IntKind.i64.wrap ((IntKind.i64.wrap (v97 + (1:Int))) + (1:Int))) + (1:Int))) + (1:Int))) + (1:Int))) + (1:Int))),(IntKind.i64.wrap (v98 + (1:Int))))))) else none)) else none)) else none)) else none)) else none)) else none) else (some v97)
def f127 (k:Nat) (x0:(List (Int × (Int × (Int × (Int × (Int × ByteArray))))))) (x1:Int):Option Int:=f127.l58 k x0 k (x1,(0:Int))
theorem c127 (k:Nat) (x0:(List (Int × (Int × (Int × (Int × (Int × ByteArray))))))) (x1:Int) (r:Int) (hF:f127 k x0 x1=some r):PCall Try.prog 127 [⟨sh18,x0⟩,⟨iS,x1⟩] [⟨iS,r⟩]:=by
 refine pcall_intro Try.func127 rfl rfl (Nat.le_of_ble_eq_true rfl) ?_
 intro w0 Zi a w h
 rw [f127] at hF
 refine zs [0,1] h an fun a w h => ?_
 refine wp_seq ?_
 refine zs [0,1,5] h an fun a w h => ?_
 refine wp_block ?_
 refine wp_loop_fuel (f127.l58 k x0) (fun ((v97,v98):(Int × Int)) => [(0,.val sh18 x0),(1,.val iS v97),(5,.val iS v98)]) (fun v h => by obtain ⟨v97,v98⟩:=v; rw [f127.l58] at h; cases h) ?_ hF (ar h [0,1,5])
 intro m58 v a w hF h
 obtain ⟨v97,v98⟩:=v
 rw [f127.l58] at hF
 refine wp_seq ?_
 refine zs [0,1,5,9] h an fun a w h => ?_
 refine zi h hF (fun hF => ?_) (fun hF => ?_)
 ·refine wp_skip ?_
  refine wp_seq <| wp_block ?_
  refine wp_seq ?_
  obtain ⟨hc114,hF⟩:=of_if hF
  refine zs [0,1,5,18] h (ac hc114 an) fun a w h => ?_
  refine zi h hF (fun hF => ?_) (fun hF => ?_)
  ·refine zs [4] h an fun a w h => ?_
   cases hF
   exact wp_ret (ret_okR tok h rfl (by kernel_rfl)).1
  ·refine wp_skip ?_
   refine zs [0,1,5] h an fun a w h => ?_
   refine wp_seq ?_
   obtain ⟨hc113,hF⟩:=of_if hF
   refine zs [0,1,5,27] h (ac hc113 an) fun a w h => ?_
   refine zi h hF (fun hF => ?_) (fun hF => ?_)
   ·refine zs [4] h an fun a w h => ?_
    cases hF
    exact wp_ret (ret_okR tok h rfl (by kernel_rfl)).1
   ·refine wp_skip ?_
    refine zs [0,1,5] h an fun a w h => ?_
    refine wp_seq ?_
    obtain ⟨hc112,hF⟩:=of_if hF
    refine zs [0,1,5,36] h (ac hc112 an) fun a w h => ?_
    refine zi h hF (fun hF => ?_) (fun hF => ?_)
    ·refine zs [4] h an fun a w h => ?_
     cases hF
     exact wp_ret (ret_okR tok h rfl (by kernel_rfl)).1
    ·refine wp_skip ?_
     refine zs [0,1,5] h an fun a w h => ?_
     refine wp_seq ?_
     obtain ⟨hc111,hF⟩:=of_if hF
     refine zs [0,1,5,45] h (ac hc111 an) fun a w h => ?_
     refine zi h hF (fun hF => ?_) (fun hF => ?_)
     ·refine zs [4] h an fun a w h => ?_
      cases hF
      exact wp_ret (ret_okR tok h rfl (by kernel_rfl)).1
     ·refine wp_skip ?_
      refine zs [0,1,5] h an fun a w h => ?_
      refine wp_seq ?_
      obtain ⟨hc110,hF⟩:=of_if hF
      refine zs [0,1,5,54] h (ac hc110 an) fun a w h => ?_
      refine zi h hF (fun hF => ?_) (fun hF => ?_)
      ·refine zs [4] h an fun a w h => ?_
       cases hF
       exact wp_ret (ret_okR tok h rfl (by kernel_rfl)).1
      ·refine wp_skip ?_
       refine zs [0,1,5] h an fun a w h => ?_
       refine wp_seq ?_
       obtain ⟨hc108,hF⟩:=of_if hF
       obtain ⟨r107,hr109,hF⟩:=of_bind hF
       refine wp_regy_seq tok (orc:=orcL [(63,[⟨.str,r107⟩])]) (l:=[0,1,5,64]) ([],[],[],[]) 8 nw h (by kernel_rfl) (by kernel_rfl) (ac hc108 (ac (c119 k (w64 ((w64 ((w64 ((w64 ((w64 (v97 + (1:Int))) + (1:Int))) + (1:Int))) + (1:Int))) + (1:Int))) r107 hr109) an)) fun a w h => ?_
       refine zi h hF (fun hF => ?_) (fun hF => ?_)
       ·refine zs [4] h an fun a w h => ?_
        cases hF
        exact wp_ret (ret_okR tok h rfl (by kernel_rfl)).1
       ·refine wp_skip ?_
        refine zt [0,1,5] h an fun a w h => ?_
        refine zt [0,1,5] h an fun a w h => ?_
        exact ⟨((w64 ((w64 ((w64 ((w64 ((w64 ((w64 (v97 + (1:Int))) + (1:Int))) + (1:Int))) + (1:Int))) + (1:Int))) + (1:Int))),(w64 (v98 + (1:Int)))),hF,ar h [0,1,5]⟩
 ·refine wp_exit ?_
  refine zs [4] h an fun a w h => ?_
  cases hF
  exact wp_ret (ret_okR tok h rfl (by kernel_rfl)).1
def f128.l22 (k:Nat) (x0:(List (Int × Int))):Nat → (Int × Int)→Option Int
 | 0,_ => none
 | m22+1,(v37,v38) => if (decide (v38 < (List.length x0:Int))) then (if (0≤v38∧v38 < (List.length x0:Int)) then (if (((List.getD x0 (Int.toNat v38) ((0:Int),(0:Int))).1:Int) != v37) then (some (-1:Int)) else (if (0≤v38∧v38 < (List.length x0:Int)) then (if (((List.getD x0 (Int.toNat v38) ((0:Int),(0:Int))).2:Int) != (IntKind.i64.wrap (v37 + (1:Int)))) then (some (-1:Int)) else ((f128.l22 k x0) m22 ((IntKind.i64.wrap ((IntKind.i64.wrap (v37 + (1:Int))) + (1:Int))),(IntKind.i64.wrap (v38 + (1:Int)))))) else none)) else none) else (some v37)
def f128 (k:Nat) (x0:(List (Int × Int))) (x1:Int):Option Int:=f128.l22 k x0 k (x1,(0:Int))
theorem c128 (k:Nat) (x0:(List (Int × Int))) (x1:Int) (r:Int) (hF:f128 k x0 x1=some r):PCall Try.prog 128 [⟨sh15,x0⟩,⟨iS,x1⟩] [⟨iS,r⟩]:=by
 refine pcall_intro Try.func128 rfl rfl (Nat.le_of_ble_eq_true rfl) ?_
 intro w0 Zi a w h
 rw [f128] at hF
 refine zs [0,1] h an fun a w h => ?_
 refine wp_seq ?_
 refine zs [0,1,5] h an fun a w h => ?_
 refine wp_block ?_
 refine wp_loop_fuel (f128.l22 k x0) (fun ((v37,v38):(Int × Int)) => [(0,.val sh15 x0),(1,.val iS v37),(5,.val iS v38)]) (fun v h => by obtain ⟨v37,v38⟩:=v; rw [f128.l22] at h; cases h) ?_ hF (ar h [0,1,5])
 intro m22 v a w hF h
 obtain ⟨v37,v38⟩:=v
 rw [f128.l22] at hF
 refine wp_seq ?_
 refine zs [0,1,5,9] h an fun a w h => ?_
 refine zi h hF (fun hF => ?_) (fun hF => ?_)
 ·refine wp_skip ?_
  refine wp_seq <| wp_block ?_
  refine wp_seq ?_
  obtain ⟨hc42,hF⟩:=of_if hF
  refine zs [0,1,5,18] h (ac hc42 an) fun a w h => ?_
  refine zi h hF (fun hF => ?_) (fun hF => ?_)
  ·refine zs [4] h an fun a w h => ?_
   cases hF
   exact wp_ret (ret_okR tok h rfl (by kernel_rfl)).1
  ·refine wp_skip ?_
   refine zs [0,1,5] h an fun a w h => ?_
   refine wp_seq ?_
   obtain ⟨hc41,hF⟩:=of_if hF
   refine zs [0,1,5,27] h (ac hc41 an) fun a w h => ?_
   refine zi h hF (fun hF => ?_) (fun hF => ?_)
   ·refine zs [4] h an fun a w h => ?_
    cases hF
    exact wp_ret (ret_okR tok h rfl (by kernel_rfl)).1
   ·refine wp_skip ?_
    refine zt [0,1,5] h an fun a w h => ?_
    refine zt [0,1,5] h an fun a w h => ?_
    exact ⟨((w64 ((w64 (v37 + (1:Int))) + (1:Int))),(w64 (v38 + (1:Int)))),hF,ar h [0,1,5]⟩
 ·refine wp_exit ?_
  refine zs [4] h an fun a w h => ?_
  cases hF
  exact wp_ret (ret_okR tok h rfl (by kernel_rfl)).1
def f64 (k:Nat) (x0:((List (Int × (Int × Int))) × ((List (Int × (Int × (Int × (Int × (Int × ByteArray)))))) × (List (Int × Int))))) (x1:Int):Option Int:=(f126 k x0.1 x1).bind fun r1 => (if (decide (r1 < (0:Int))) then (some (-1:Int)) else ((f127 k x0.2.1 r1).bind fun r2 => (if (decide (r2 < (0:Int))) then (some (-1:Int)) else ((f128 k x0.2.2 r2).bind fun r3 => (if (decide (r3 < (0:Int))) then (some (-1:Int)) else (some r3))))))
theorem c64 (k:Nat) (x0:tG) (x1:Int) (r:Int) (hF:f64 k x0 x1=some r):PCall Try.prog 64 [⟨sh12,x0⟩,⟨iS,x1⟩] [⟨iS,r⟩]:=by
 refine pcall_intro Try.func64 rfl rfl (Nat.le_of_ble_eq_true rfl) ?_
 intro w0 Zi a w h
 rw [f64] at hF
 refine zs [1,2] h an fun a w h => ?_
 obtain ⟨r1,hr6,hF⟩:=of_bind hF
 refine zc (orcL [(8,[⟨iS,r1⟩])]) [1,2] h (ac (c126 k x0.1 x1 r1 hr6) an) fun a w h => ?_
 refine wp_seq ?_
 refine zs [1,2,10] h an fun a w h => ?_
 refine zi h hF (fun hF => ?_) (fun hF => ?_)
 ·refine zs [4] h an fun a w h => ?_
  cases hF
  exact wp_ret (ret_okR tok h rfl (by kernel_rfl)).1
 ·refine wp_skip ?_
  obtain ⟨r2,hr5,hF⟩:=of_bind hF
  refine zc (orcL [(14,[⟨iS,r2⟩])]) [1,2] h (ac (c127 k x0.2.1 r1 r2 hr5) an) fun a w h => ?_
  refine wp_seq ?_
  refine zs [1,2,16] h an fun a w h => ?_
  refine zi h hF (fun hF => ?_) (fun hF => ?_)
  ·refine zs [4] h an fun a w h => ?_
   cases hF
   exact wp_ret (ret_okR tok h rfl (by kernel_rfl)).1
  ·refine wp_skip ?_
   obtain ⟨r3,hr4,hF⟩:=of_bind hF
   refine zc (orcL [(20,[⟨iS,r3⟩])]) [1] h (ac (c128 k x0.2.2 r2 r3 hr4) an) fun a w h => ?_
   refine wp_seq ?_
   refine zs [1,22] h an fun a w h => ?_
   refine zi h hF (fun hF => ?_) (fun hF => ?_)
   ·refine zs [4] h an fun a w h => ?_
    cases hF
    exact wp_ret (ret_okR tok h rfl (by kernel_rfl)).1
   ·refine wp_skip ?_
    refine zs [4] h an fun a w h => ?_
    cases hF
    exact wp_ret (ret_okR tok h rfl (by kernel_rfl)).1
def f9 (k:Nat) (x0:((List (Int × (Int × Int))) × ((List (Int × (Int × (Int × (Int × (Int × ByteArray)))))) × (List (Int × Int))))):Option Bool:=(f40 k x0 (1048576:Int)).bind fun r1 => (if (decide (r1 < (0:Int))) then (some true) else ((f42 k x0).bind fun r2 => ((f62 k r2).bind fun r3 => ((f42 k x0).bind fun r4 => ((f63 k r4).bind fun r5 => ((f45 k r5 r3).bind fun r6 => (if (!r6) then (some false) else ((f42 k x0).bind fun r7 => ((f45 k r4 r7).bind fun r8 => (if (!r8) then (some false) else ((f46 k r4 (1:Int)).bind fun r9 => ((if ((decide (r9.1 < (0:Int)))=false) then f45 k r5 r3 else some default).bind fun r10 => (if (bif (decide (r9.1 < (0:Int))) then true else (!r10)) then (some false) else ((f46 k r5 (1:Int)).bind fun r11 => ((f64 k r11.2 (1:Int)).bind fun r12 => (if (decide (r12 < (0:Int))) then (some false) else (if (r12 != r11.1) then (some false) else ((f42 k x0).bind fun r13 => ((f63 k r13).bind fun r14 => ((f45 k r14 r3).bind fun r15 => (if (!r15) then (some false) else ((f64 k r11.2 (1:Int)).bind fun r16 => (if (decide (r16 < (0:Int))) then (some false) else (if (r16 != r11.1) then (some false) else (some true)))))))))))))))))))))))))
theorem c9 (k:Nat) (x0:tG) (h173:H173) (r:Bool) (hF:f9 k x0=some r):PCall Try.prog 9 [⟨sh4,x0⟩] [⟨.bool,r⟩]:=by
 refine pcall_intro Try.func9 rfl rfl (Nat.le_of_ble_eq_true rfl) ?_
 intro w0 Zi a w h
 rw [f9] at hF
 refine zs [1] h an fun a w h => ?_
 refine zs [1,3] h an fun a w h => ?_
 obtain ⟨r1,hr32,hF⟩:=of_bind hF
 refine zc (orcL [(13,[⟨iS,r1⟩])]) [1,3] h (ac (c40 k x0 (1048576:Int) r1 hr32) an) fun a w h => ?_
 refine wp_seq ?_
 refine zs [1,15] h an fun a w h => ?_
 refine zi h hF (fun hF => ?_) (fun hF => ?_)
 ·refine zs [2] h an fun a w h => ?_
  cases hF
  exact wp_ret (ret_okR tok h rfl (by kernel_rfl)).1
 ·refine wp_skip ?_
  obtain ⟨r2,hr30,hF⟩:=of_bind hF
  obtain ⟨r3,hr31,hF⟩:=of_bind hF
  refine zc (orcL [(17,[⟨sh10,r2⟩]),(18,[⟨sh10,r3⟩])]) [1,4] h (ac (c42 k x0 r2 hr30) (ac (c62 k r2 r3 hr31) an)) fun a w h => ?_
  obtain ⟨r4,hr29,hF⟩:=of_bind hF
  refine zc (orcL [(20,[⟨sh10,r4⟩])]) [1,4,5] h (ac (c42 k x0 r4 hr29) an) fun a w h => ?_
  obtain ⟨r5,hr28,hF⟩:=of_bind hF
  refine zc (orcL [(22,[⟨sh10,r5⟩])]) [1,4,5,6] h (ac (c63 k r4 h173 r5 hr28) an) fun a w h => ?_
  refine wp_seq ?_
  obtain ⟨r6,hr27,hF⟩:=of_bind hF
  refine zc (orcL [(25,[⟨.bool,r6⟩])]) [1,4,5,6,26] h (ac (c45 k r5 r3 r6 hr27) an) fun a w h => ?_
  refine zi h hF (fun hF => ?_) (fun hF => ?_)
  ·refine zs [2] h an fun a w h => ?_
   cases hF
   exact wp_ret (ret_okR tok h rfl (by kernel_rfl)).1
  ·refine wp_skip ?_
   refine wp_seq ?_
   obtain ⟨r7,hr25,hF⟩:=of_bind hF
   obtain ⟨r8,hr26,hF⟩:=of_bind hF
   refine wp_regy_seq tok (orc:=orcL [(29,[⟨sh10,r7⟩]),(30,[⟨.bool,r8⟩])]) (l:=[1,4,5,6,31]) ([],[],[],[]) 5 nw h (by kernel_rfl) (by kernel_rfl) (ac (c42 k x0 r7 hr25) (ac (c45 k r4 r7 r8 hr26) an)) fun a w h => ?_
   refine zi h hF (fun hF => ?_) (fun hF => ?_)
   ·refine zs [2] h an fun a w h => ?_
    cases hF
    exact wp_ret (ret_okR tok h rfl (by kernel_rfl)).1
   ·refine wp_skip ?_
    refine zs [1,4,5,6,7] h an fun a w h => ?_
    obtain ⟨r9,hr24,hF⟩:=of_bind hF
    refine zc (orcL [(34,[⟨.pt false 4294967295 (.st (.pair (.sl true 181 (.st (.pair iS (.st (.pair iS iS))))) (.pair (.sl true 171 (.st (.pair iS (.pair iS (.pair iS (.pair iS (.pair iS .str))))))) (.sl true 174 (.st (.pair iS iS)))))),some r9.2⟩,⟨iS,r9.1⟩])]) [1,4,6,7] h (ac (c46 k r4 (1:Int) r9 hr24) an) fun a w h => ?_
    refine wp_seq ?_
    obtain ⟨r10,hr23,hF⟩:=of_bind hF
    refine zc (orcL [(40,[⟨.bool,r10⟩])]) [1,4,6,42] h (ac (fun (hg:((decide (r9.1 < iO))=false)) => c45 k r5 r3 r10 (of_g hg hr23)) an) fun a w h => ?_
    refine zi h hF (fun hF => ?_) (fun hF => ?_)
    ·refine zs [2] h an fun a w h => ?_
     cases hF
     exact wp_ret (ret_okR tok h rfl (by kernel_rfl)).1
    ·refine wp_skip ?_
     refine zs [1,4,6,8] h an fun a w h => ?_
     obtain ⟨r11,hr22,hF⟩:=of_bind hF
     refine zc (orcL [(45,[⟨.pt false 4294967295 (.st (.pair (.sl true 181 (.st (.pair iS (.st (.pair iS iS))))) (.pair (.sl true 171 (.st (.pair iS (.pair iS (.pair iS (.pair iS (.pair iS .str))))))) (.sl true 174 (.st (.pair iS iS)))))),some r11.2⟩,⟨iS,r11.1⟩])]) [1,4,6,8] h (ac (c46 k r5 (1:Int) r11 hr22) an) fun a w h => ?_
     refine zs [1,4,6,8,9] h an fun a w h => ?_
     obtain ⟨r12,hr21,hF⟩:=of_bind hF
     refine zc (orcL [(48,[⟨iS,r12⟩])]) [1,4,6,8,9] h (ac (c64 k r11.2 (1:Int) r12 hr21) an) fun a w h => ?_
     refine wp_seq ?_
     refine zs [1,4,6,8,9,50] h an fun a w h => ?_
     refine zi h hF (fun hF => ?_) (fun hF => ?_)
     ·refine zs [2] h an fun a w h => ?_
      cases hF
      exact wp_ret (ret_okR tok h rfl (by kernel_rfl)).1
     ·refine wp_skip ?_
      refine wp_seq ?_
      refine zs [1,4,6,8,53] h an fun a w h => ?_
      refine zi h hF (fun hF => ?_) (fun hF => ?_)
      ·refine zs [2] h an fun a w h => ?_
       cases hF
       exact wp_ret (ret_okR tok h rfl (by kernel_rfl)).1
      ·refine wp_skip ?_
       obtain ⟨r13,hr19,hF⟩:=of_bind hF
       obtain ⟨r14,hr20,hF⟩:=of_bind hF
       refine zc (orcL [(55,[⟨sh10,r13⟩]),(56,[⟨sh10,r14⟩])]) [4,6,8,10] h (ac (c42 k x0 r13 hr19) (ac (c63 k r13 h173 r14 hr20) an)) fun a w h => ?_
       refine wp_seq ?_
       obtain ⟨r15,hr18,hF⟩:=of_bind hF
       refine zc (orcL [(59,[⟨.bool,r15⟩])]) [6,8,60] h (ac (c45 k r14 r3 r15 hr18) an) fun a w h => ?_
       refine zi h hF (fun hF => ?_) (fun hF => ?_)
       ·refine zs [2] h an fun a w h => ?_
        cases hF
        exact wp_ret (ret_okR tok h rfl (by kernel_rfl)).1
       ·refine wp_skip ?_
        refine zs [6,8,9] h an fun a w h => ?_
        obtain ⟨r16,hr17,hF⟩:=of_bind hF
        refine zc (orcL [(63,[⟨iS,r16⟩])]) [8,9] h (ac (c64 k r11.2 (1:Int) r16 hr17) an) fun a w h => ?_
        refine wp_seq ?_
        refine zs [8,9,65] h an fun a w h => ?_
        refine zi h hF (fun hF => ?_) (fun hF => ?_)
        ·refine zs [2] h an fun a w h => ?_
         cases hF
         exact wp_ret (ret_okR tok h rfl (by kernel_rfl)).1
        ·refine wp_skip ?_
         refine wp_seq ?_
         refine zs [68] h an fun a w h => ?_
         refine zi h hF (fun hF => ?_) (fun hF => ?_)
         ·refine zs [2] h an fun a w h => ?_
          cases hF
          exact wp_ret (ret_okR tok h rfl (by kernel_rfl)).1
         ·refine wp_skip ?_
          refine zs [2] h an fun a w h => ?_
          cases hF
          exact wp_ret (ret_okR tok h rfl (by kernel_rfl)).1
end Go.Proofs.Ytnpaokckkbhdjaa.V
