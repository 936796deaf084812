/-
  THE CONTRACTS OF SOME FUNCTIONS OF THIS SEAT, PRINTED BY A PROGRAM OF THIS PROJECT (wip/gen/vgen.py).
-/
import Derived.Test.YtnpaokckkbhdjaaProg
import Derived.Test.YtnpaokckkbhdjaaVmW
import Derived.Test.YtnpaokckkbhdjaaVmSr
import Derived.KernelRfl
import Derived.Test.YtnpaokckkbhdjaaVmKe
import Derived.Test.YtnpaokckkbhdjaaSoN
set_option linter.unusedVariables false
open Go Go.Vm Go.Proofs
namespace Go.Proofs.Ytnpaokckkbhdjaa.V
set_option maxRecDepth 100000
abbrev zR:Int × (Int × (Int × (Int × (Int × ByteArray)))):=((0:Int),((0:Int),((0:Int),((0:Int),((0:Int),(⟨#[]⟩:ByteArray))))))
abbrev tG:=((List (Int × (Int × Int))) × ((List (Int × (Int × (Int × (Int × (Int × ByteArray)))))) × (List (Int × Int))))
abbrev tN:=(((List (Int × (Int × Int))) × ((List (Int × (Int × (Int × (Int × (Int × ByteArray)))))) × (List (Int × Int)))) × ((List (List Int)) × ((List (List Int)) × (Option (List ((Int × Int) × Bool))))))
abbrev gD {α:Type} (l:List α) (i:Nat) (d:α):α:=List.getD l i d
abbrev tZ (n:Int):Nat:=Int.toNat n
abbrev iO:Int:=0
abbrev lO:List Int:=[]
theorem nw {p:Prop}:([]:List Nat)=[]∨p:=.inl rfl
abbrev o0:=orcL []
theorem ac {p:Prop} {l:List Prop} (h:p) (t:AllP l):AllP (p :: l):=AllP.cons h t
theorem an:AllP []:=AllP.nil
abbrev sh0:Sh:=(.sl false 214 (.st (.pair (.int .i64) (.st (.pair (.int .i64) (.int .i64))))))
abbrev sh1:Sh:=(.st (.pair (.int .i64) (.pair (.int .i64) (.pair (.int .i64) (.pair (.int .i64) (.pair (.int .i64) .str))))))
abbrev sh2:Sh:=(.sl false 207 (.st (.pair (.int .i64) (.pair (.int .i64) (.pair (.int .i64) (.pair (.int .i64) (.pair (.int .i64) .str)))))))
abbrev sh3:Sh:=(.sl false 217 (.st (.pair (.int .i64) (.int .i64))))
abbrev sh4:Sh:=(.st (.pair (.sl false 214 (.st (.pair (.int .i64) (.st (.pair (.int .i64) (.int .i64)))))) (.pair (.sl false 207 (.st (.pair (.int .i64) (.pair (.int .i64) (.pair (.int .i64) (.pair (.int .i64) (.pair (.int .i64) .str))))))) (.sl false 217 (.st (.pair (.int .i64) (.int .i64)))))))
abbrev sh5:Sh:=(.sl false 23 (.sl false 2 (.int .i64)))
abbrev sh6:Sh:=(.st (.pair (.int .i64) (.int .i64)))
abbrev sh7:Sh:=(.st (.pair (.int .i64) (.st (.pair (.int .i64) (.int .i64)))))
abbrev sh8:Sh:=(.sl true 181 (.st (.pair (.int .i64) (.st (.pair (.int .i64) (.int .i64))))))
abbrev sh9:Sh:=(.sl true 171 (.st (.pair (.int .i64) (.pair (.int .i64) (.pair (.int .i64) (.pair (.int .i64) (.pair (.int .i64) .str)))))))
abbrev sh10:Sh:=(.sl true 174 (.st (.pair (.int .i64) (.int .i64))))
abbrev sh11:Sh:=(.st (.pair (.sl true 181 (.st (.pair (.int .i64) (.st (.pair (.int .i64) (.int .i64)))))) (.pair (.sl true 171 (.st (.pair (.int .i64) (.pair (.int .i64) (.pair (.int .i64) (.pair (.int .i64) (.pair (.int .i64) .str))))))) (.sl true 174 (.st (.pair (.int .i64) (.int .i64)))))))
abbrev sh12:Sh:=(.sl true 23 (.sl true 2 (.int .i64)))
abbrev sh13:Sh:=(.pt true 71 (.st (.pair (.sl false 181 (.st (.pair (.int .i64) (.st (.pair (.int .i64) (.int .i64)))))) (.pair (.sl false 171 (.st (.pair (.int .i64) (.pair (.int .i64) (.pair (.int .i64) (.pair (.int .i64) (.pair (.int .i64) .str))))))) (.sl false 174 (.st (.pair (.int .i64) (.int .i64))))))))
abbrev sh14:Sh:=(.st (.pair (.sl false 181 (.st (.pair (.int .i64) (.st (.pair (.int .i64) (.int .i64)))))) (.pair (.sl false 171 (.st (.pair (.int .i64) (.pair (.int .i64) (.pair (.int .i64) (.pair (.int .i64) (.pair (.int .i64) .str))))))) (.sl false 174 (.st (.pair (.int .i64) (.int .i64)))))))
abbrev sh15:Sh:=(.sl false 174 (.st (.pair (.int .i64) (.int .i64))))
abbrev sh16:Sh:=(.pt true 174 (.st (.pair (.int .i64) (.int .i64))))
abbrev sh17:Sh:=(.pt true 71 (.st (.pair (.sl true 181 (.st (.pair (.int .i64) (.st (.pair (.int .i64) (.int .i64)))))) (.pair (.sl true 171 (.st (.pair (.int .i64) (.pair (.int .i64) (.pair (.int .i64) (.pair (.int .i64) (.pair (.int .i64) .str))))))) (.sl true 174 (.st (.pair (.int .i64) (.int .i64))))))))
abbrev sh18:Sh:=(.pt true 71 (.st (.pair .any (.pair .any .any))))
abbrev sh19:Sh:=(.pt false 0 (.sl false 2 (.int .i64)))
abbrev sh20:Sh:=(.sl false 181 (.st (.pair (.int .i64) (.st (.pair (.int .i64) (.int .i64))))))
abbrev sh21:Sh:=(.sl false 171 (.st (.pair (.int .i64) (.pair (.int .i64) (.pair (.int .i64) (.pair (.int .i64) (.pair (.int .i64) .str)))))))
abbrev sh22:Sh:=(.mp true (.st (.pair (.int .i64) (.int .i64))) .bool)
abbrev sh23:Sh:=(.pt true 171 (.st (.pair (.int .i64) (.pair (.int .i64) (.pair (.int .i64) (.pair (.int .i64) (.pair (.int .i64) .str)))))))
abbrev sh24:Sh:=(.pt false 0 (.st (.pair (.sl false 181 (.st (.pair (.int .i64) (.st (.pair (.int .i64) (.int .i64)))))) (.pair (.sl false 171 (.st (.pair (.int .i64) (.pair (.int .i64) (.pair (.int .i64) (.pair (.int .i64) (.pair (.int .i64) .str))))))) (.sl false 174 (.st (.pair (.int .i64) (.int .i64))))))))
def tbl:Tbl:=[⟨2,.int .i64,1,8,(.int .i64)⟩,
 ⟨3,.int .i64,1,8,(.int .i64)⟩,
 ⟨4,.bool,1,1,.bool⟩,
 ⟨5,.int .u8,1,1,(.int .u8)⟩,
 ⟨9,.string,1,16,.str⟩,
 ⟨23,.slice 2,1,24,(.sl true 2 (.int .i64))⟩,
 ⟨36,.slice 23,1,24,(.sl true 23 (.sl true 2 (.int .i64)))⟩,
 ⟨45,.slice 5,1,24,(.sl true 5 (.int .u8))⟩,
 ⟨52,.struct [(2,0),(2,1)],2,16,(.st (.pair (.int .i64) (.int .i64)))⟩,
 ⟨59,.slice 214,1,24,(.sl true 214 (.st (.pair (.int .i64) (.st (.pair (.int .i64) (.int .i64))))))⟩,
 ⟨60,.slice 207,1,24,(.sl true 207 (.st (.pair (.int .i64) (.pair (.int .i64) (.pair (.int .i64) (.pair (.int .i64) (.pair (.int .i64) .str)))))))⟩,
 ⟨61,.slice 217,1,24,(.sl true 217 (.st (.pair (.int .i64) (.int .i64))))⟩,
 ⟨63,.struct [(59,0),(60,1),(61,2)],3,72,(.st (.pair (.sl true 214 (.st (.pair (.int .i64) (.st (.pair (.int .i64) (.int .i64)))))) (.pair (.sl true 207 (.st (.pair (.int .i64) (.pair (.int .i64) (.pair (.int .i64) (.pair (.int .i64) (.pair (.int .i64) .str))))))) (.sl true 217 (.st (.pair (.int .i64) (.int .i64)))))))⟩,
 ⟨67,.slice 181,1,24,(.sl true 181 (.st (.pair (.int .i64) (.st (.pair (.int .i64) (.int .i64))))))⟩,
 ⟨68,.slice 171,1,24,(.sl true 171 (.st (.pair (.int .i64) (.pair (.int .i64) (.pair (.int .i64) (.pair (.int .i64) (.pair (.int .i64) .str)))))))⟩,
 ⟨69,.slice 174,1,24,(.sl true 174 (.st (.pair (.int .i64) (.int .i64))))⟩,
 ⟨71,.struct [(67,0),(68,1),(69,2)],3,72,(.st (.pair (.sl true 181 (.st (.pair (.int .i64) (.st (.pair (.int .i64) (.int .i64)))))) (.pair (.sl true 171 (.st (.pair (.int .i64) (.pair (.int .i64) (.pair (.int .i64) (.pair (.int .i64) (.pair (.int .i64) .str))))))) (.sl true 174 (.st (.pair (.int .i64) (.int .i64)))))))⟩,
 ⟨108,.struct [(2,0),(2,1)],2,16,(.st (.pair (.int .i64) (.int .i64)))⟩,
 ⟨171,.struct [(2,0),(2,1),(2,2),(2,3),(2,4),(9,5)],6,56,(.st (.pair (.int .i64) (.pair (.int .i64) (.pair (.int .i64) (.pair (.int .i64) (.pair (.int .i64) .str))))))⟩,
 ⟨174,.struct [(2,0),(2,1)],2,16,(.st (.pair (.int .i64) (.int .i64)))⟩,
 ⟨175,.map 174 4,1,8,(.mp true (.st (.pair (.int .i64) (.int .i64))) .bool)⟩,
 ⟨181,.struct [(2,0),(52,1)],3,24,(.st (.pair (.int .i64) (.st (.pair (.int .i64) (.int .i64)))))⟩,
 ⟨207,.struct [(2,0),(2,1),(2,2),(2,3),(2,4),(9,5)],6,56,(.st (.pair (.int .i64) (.pair (.int .i64) (.pair (.int .i64) (.pair (.int .i64) (.pair (.int .i64) .str))))))⟩,
 ⟨214,.struct [(2,0),(108,1)],3,24,(.st (.pair (.int .i64) (.st (.pair (.int .i64) (.int .i64)))))⟩,
 ⟨217,.struct [(2,0),(2,1)],2,16,(.st (.pair (.int .i64) (.int .i64)))⟩]
theorem tok:TOk Try.prog tbl:=by unfold TOk; kernel_rfl
abbrev iS:Sh:=.int .i64
section
variable {w0:World} {Wr Zi:Fp} {N:Fr} {S S':SS} {a:Act} {w:World} {Q:Exit→Act→World→Prop} {id:Nat} {ops:Array Oper} {rest:Code} {c:List Prop}
theorem zc (orc:Nat→List TV) (l:List Nat) (h:Rel w0 Wr Zi N S a w) (hc:AllP c) (hr:∀ a w,Rel w0 Wr Zi N (regS tbl Try.prog N orc [] ops l S) a w→rest.wp Try.prog Q a w) (e:regC tbl Try.prog N orc [] ops l S=c:=by kernel_rfl):((Code.region id ops false).seq rest).wp Try.prog Q a w:=wp_reg_seq tok nw h e hc hr
theorem zd (orc:Nat→List TV) (l:List Nat) (h:Rel w0 Wr Zi N S a w) (hc:AllP c) (hr:∀ a w,Rel w0 Wr Zi N (regS tbl Try.prog N orc [] ops l S) a w→Q .normal a w) (e:regC tbl Try.prog N orc [] ops l S=c:=by kernel_rfl):(Code.region id ops false).wp Try.prog Q a w:=wp_reg tok nw h e hc hr
theorem zs (l:List Nat) (h:Rel w0 Wr Zi N S a w) (hc:AllP c) (hr:∀ a w,Rel w0 Wr Zi N (regS tbl Try.prog N o0 [] ops l S) a w→rest.wp Try.prog Q a w) (e:regC tbl Try.prog N o0 [] ops l S=c:=by kernel_rfl):((Code.region id ops false).seq rest).wp Try.prog Q a w:=wp_reg_seq tok nw h e hc hr
theorem zt (l:List Nat) (h:Rel w0 Wr Zi N S a w) (hc:AllP c) (hr:∀ a w,Rel w0 Wr Zi N (regS tbl Try.prog N o0 [] ops l S) a w→Q .normal a w) (e:regC tbl Try.prog N o0 [] ops l S=c:=by kernel_rfl):(Code.region id ops false).wp Try.prog Q a w:=wp_reg tok nw h e hc hr
theorem ar (h:Rel w0 Wr Zi N S a w) (l:List Nat) (e:arr [] l S=some S':=by kernel_rfl):Rel w0 Wr Zi N S' a w:=h.arrive nw e
theorem zi {α:Type} {t:Nat} {x y:Code} {b:Bool} {X Y:α} {r:α} (h:Rel w0 Wr Zi N S a w) (hF:(if b=true then X else Y)=r) (h1:X=r→x.wp Try.prog Q a w) (h2:Y=r→y.wp Try.prog Q a w) (hb:boolAt S t=some b:=by kernel_rfl):(Code.cond (.tmp t) x y).wp Try.prog Q a w:=wp_if h hb (fun hb => h1 (of_t hb hF)) (fun hb => h2 (of_f hb hF))
end
def f83 (k:Nat) (x0:(List (Int × (Int × Int)))) (x1:Int):Option Int:=if (decide (((IntKind.i64.wrap (x1 - (List.length x0:Int))):Int) < (0:Int))) then (some (-1:Int)) else (some (IntKind.i64.wrap (x1 - (List.length x0:Int))))
theorem c83 (k:Nat) (x0:(List (Int × (Int × Int)))) (x1:Int) (r:Int) (hF:f83 k x0 x1=some r):PCall Try.prog 83 [⟨sh0,x0⟩,⟨iS,x1⟩] [⟨iS,r⟩]:=by
 refine pcall_intro Try.func83 rfl rfl (Nat.le_of_ble_eq_true rfl) ?_
 intro w0 Zi a w h
 rw [f83] at hF
 refine zs [0,1] h an fun a w h => ?_
 refine zs [1] h an fun a w h => ?_
 refine wp_seq ?_
 refine zs [1,10] h an fun a w h => ?_
 refine zi h hF (fun hF => ?_) (fun hF => ?_)
 ·refine zs [4] h an fun a w h => ?_
  cases hF
  exact wp_ret (ret_okR tok h rfl (by kernel_rfl)).1
 ·refine wp_skip ?_
  refine zs [4] h an fun a w h => ?_
  cases hF
  exact wp_ret (ret_okR tok h rfl (by kernel_rfl)).1
def f148 (k:Nat) (x0:(Int × (Int × (Int × (Int × (Int × ByteArray)))))) (x1:Int):Option Int:=if (decide (((IntKind.i64.wrap (x1 - (ByteArray.size x0.2.2.2.2.2:Int))):Int) < (0:Int))) then (some (-1:Int)) else (some (IntKind.i64.wrap (x1 - (ByteArray.size x0.2.2.2.2.2:Int))))
theorem c148 (k:Nat) (x0:(Int × (Int × (Int × (Int × (Int × ByteArray)))))) (x1:Int) (r:Int) (hF:f148 k x0 x1=some r):PCall Try.prog 148 [⟨sh1,x0⟩,⟨iS,x1⟩] [⟨iS,r⟩]:=by
 refine pcall_intro Try.func148 rfl rfl (Nat.le_of_ble_eq_true rfl) ?_
 intro w0 Zi a w h
 rw [f148] at hF
 refine zs [1,2] h an fun a w h => ?_
 refine zs [1] h an fun a w h => ?_
 refine wp_seq ?_
 refine zs [1,11] h an fun a w h => ?_
 refine zi h hF (fun hF => ?_) (fun hF => ?_)
 ·refine zs [4] h an fun a w h => ?_
  cases hF
  exact wp_ret (ret_okR tok h rfl (by kernel_rfl)).1
 ·refine wp_skip ?_
  refine zs [4] h an fun a w h => ?_
  cases hF
  exact wp_ret (ret_okR tok h rfl (by kernel_rfl)).1
def f84.l28 (k:Nat) (x0:(List (Int × (Int × (Int × (Int × (Int × ByteArray))))))):Nat → (Int × Int)→Option Int
 | 0,_ => none
 | m28+1,(v47,v48) => if (decide (v48 < (List.length x0:Int))) then (if (0≤v48∧v48 < (List.length x0:Int)) then ((f148 k (List.getD x0 (Int.toNat v48) ((0:Int),((0:Int),((0:Int),((0:Int),((0:Int),(⟨#[]⟩:ByteArray))))))) v47).bind fun r52 => (if (decide (r52 < (0:Int))) then (some (-1:Int)) else ((f84.l28 k x0) m28 (r52,(IntKind.i64.wrap (v48 + (1:Int))))))) else none) else (some v47)
def f84 (k:Nat) (x0:(List (Int × (Int × (Int × (Int × (Int × ByteArray))))))) (x1:Int):Option Int:=if (decide (((IntKind.i64.wrap (x1 - (List.length x0:Int))):Int) < (0:Int))) then (some (-1:Int)) else (f84.l28 k x0 k ((IntKind.i64.wrap (x1 - (List.length x0:Int))),(0:Int)))
theorem c84 (k:Nat) (x0:(List (Int × (Int × (Int × (Int × (Int × ByteArray))))))) (x1:Int) (r:Int) (hF:f84 k x0 x1=some r):PCall Try.prog 84 [⟨sh2,x0⟩,⟨iS,x1⟩] [⟨iS,r⟩]:=by
 refine pcall_intro Try.func84 rfl rfl (Nat.le_of_ble_eq_true rfl) ?_
 intro w0 Zi a w h
 rw [f84] at hF
 refine zs [0,1] h an fun a w h => ?_
 refine zs [0,1] h an fun a w h => ?_
 refine wp_seq ?_
 refine zs [0,1,11] h an fun a w h => ?_
 refine zi h hF (fun hF => ?_) (fun hF => ?_)
 ·refine zs [4] h an fun a w h => ?_
  cases hF
  exact wp_ret (ret_okR tok h rfl (by kernel_rfl)).1
 ·refine wp_skip ?_
  refine wp_seq ?_
  refine zs [0,1,5] h an fun a w h => ?_
  refine wp_block ?_
  refine wp_loop_fuel (f84.l28 k x0) (fun ((v47,v48):(Int × Int)) => [(0,.val sh2 x0),(1,.val iS v47),(5,.val iS v48)]) (fun v h => by obtain ⟨v47,v48⟩:=v; rw [f84.l28] at h; cases h) ?_ hF (ar h [0,1,5])
  intro m28 v a w hF h
  obtain ⟨v47,v48⟩:=v
  rw [f84.l28] at hF
  refine wp_seq ?_
  refine zs [0,1,5,15] h an fun a w h => ?_
  refine zi h hF (fun hF => ?_) (fun hF => ?_)
  ·refine wp_skip ?_
   refine wp_seq <| wp_block ?_
   obtain ⟨hc53,hF⟩:=of_if hF
   obtain ⟨r52,hr54,hF⟩:=of_bind hF
   refine zc (orcL [(23,[⟨iS,r52⟩])]) [0,1,5] h (ac hc53 (ac (c148 k (gD x0 (tZ v48) zR) v47 r52 hr54) an)) fun a w h => ?_
   refine zs [0,1,5,25] h an fun a w h => ?_
   refine zi h hF (fun hF => ?_) (fun hF => ?_)
   ·refine zs [4] h an fun a w h => ?_
    cases hF
    exact wp_ret (ret_okR tok h rfl (by kernel_rfl)).1
   ·refine wp_skip ?_
    refine zt [0,1,5] h an fun a w h => ?_
    exact ⟨(r52,(w64 (v48 + (1:Int)))),hF,ar h [0,1,5]⟩
  ·refine wp_exit ?_
   refine zs [4] h an fun a w h => ?_
   cases hF
   exact wp_ret (ret_okR tok h rfl (by kernel_rfl)).1
def f85 (k:Nat) (x0:(List (Int × Int))) (x1:Int):Option Int:=if (decide (((IntKind.i64.wrap (x1 - (List.length x0:Int))):Int) < (0:Int))) then (some (-1:Int)) else (some (IntKind.i64.wrap (x1 - (List.length x0:Int))))
theorem c85 (k:Nat) (x0:(List (Int × Int))) (x1:Int) (r:Int) (hF:f85 k x0 x1=some r):PCall Try.prog 85 [⟨sh3,x0⟩,⟨iS,x1⟩] [⟨iS,r⟩]:=by
 refine pcall_intro Try.func85 rfl rfl (Nat.le_of_ble_eq_true rfl) ?_
 intro w0 Zi a w h
 rw [f85] at hF
 refine zs [0,1] h an fun a w h => ?_
 refine zs [1] h an fun a w h => ?_
 refine wp_seq ?_
 refine zs [1,10] h an fun a w h => ?_
 refine zi h hF (fun hF => ?_) (fun hF => ?_)
 ·refine zs [4] h an fun a w h => ?_
  cases hF
  exact wp_ret (ret_okR tok h rfl (by kernel_rfl)).1
 ·refine wp_skip ?_
  refine zs [4] h an fun a w h => ?_
  cases hF
  exact wp_ret (ret_okR tok h rfl (by kernel_rfl)).1
def f40 (k:Nat) (x0:((List (Int × (Int × Int))) × ((List (Int × (Int × (Int × (Int × (Int × ByteArray)))))) × (List (Int × Int))))) (x1:Int):Option Int:=(f83 k x0.1 x1).bind fun r1 => (if (decide (r1 < (0:Int))) then (some (-1:Int)) else ((f84 k x0.2.1 r1).bind fun r2 => (if (decide (r2 < (0:Int))) then (some (-1:Int)) else ((f85 k x0.2.2 r2).bind fun r3 => (if (decide (r3 < (0:Int))) then (some (-1:Int)) else (some r3))))))
theorem c40 (k:Nat) (x0:tG) (x1:Int) (r:Int) (hF:f40 k x0 x1=some r):PCall Try.prog 40 [⟨sh4,x0⟩,⟨iS,x1⟩] [⟨iS,r⟩]:=by
 refine pcall_intro Try.func40 rfl rfl (Nat.le_of_ble_eq_true rfl) ?_
 intro w0 Zi a w h
 rw [f40] at hF
 refine zs [1,2] h an fun a w h => ?_
 obtain ⟨r1,hr6,hF⟩:=of_bind hF
 refine zc (orcL [(8,[⟨iS,r1⟩])]) [1,2] h (ac (c83 k x0.1 x1 r1 hr6) an) fun a w h => ?_
 refine wp_seq ?_
 refine zs [1,2,10] h an fun a w h => ?_
 refine zi h hF (fun hF => ?_) (fun hF => ?_)
 ·refine zs [4] h an fun a w h => ?_
  cases hF
  exact wp_ret (ret_okR tok h rfl (by kernel_rfl)).1
 ·refine wp_skip ?_
  obtain ⟨r2,hr5,hF⟩:=of_bind hF
  refine zc (orcL [(14,[⟨iS,r2⟩])]) [1,2] h (ac (c84 k x0.2.1 r1 r2 hr5) an) fun a w h => ?_
  refine wp_seq ?_
  refine zs [1,2,16] h an fun a w h => ?_
  refine zi h hF (fun hF => ?_) (fun hF => ?_)
  ·refine zs [4] h an fun a w h => ?_
   cases hF
   exact wp_ret (ret_okR tok h rfl (by kernel_rfl)).1
  ·refine wp_skip ?_
   obtain ⟨r3,hr4,hF⟩:=of_bind hF
   refine zc (orcL [(20,[⟨iS,r3⟩])]) [1] h (ac (c85 k x0.2.2 r2 r3 hr4) an) fun a w h => ?_
   refine wp_seq ?_
   refine zs [1,22] h an fun a w h => ?_
   refine zi h hF (fun hF => ?_) (fun hF => ?_)
   ·refine zs [4] h an fun a w h => ?_
    cases hF
    exact wp_ret (ret_okR tok h rfl (by kernel_rfl)).1
   ·refine wp_skip ?_
    refine zs [4] h an fun a w h => ?_
    cases hF
    exact wp_ret (ret_okR tok h rfl (by kernel_rfl)).1
def f129 (k:Nat) (x0:(List Int)) (x1:Int):Option Int:=if (decide (((IntKind.i64.wrap (x1 - (List.length x0:Int))):Int) < (0:Int))) then (some (-1:Int)) else (some (IntKind.i64.wrap (x1 - (List.length x0:Int))))
theorem c129 (k:Nat) (x0:(List Int)) (x1:Int) (r:Int) (hF:f129 k x0 x1=some r):PCall Try.prog 129 [⟨(.sl false 2 iS),x0⟩,⟨iS,x1⟩] [⟨iS,r⟩]:=by
 refine pcall_intro Try.func129 rfl rfl (Nat.le_of_ble_eq_true rfl) ?_
 intro w0 Zi a w h
 rw [f129] at hF
 refine zs [0,1] h an fun a w h => ?_
 refine zs [1] h an fun a w h => ?_
 refine wp_seq ?_
 refine zs [1,10] h an fun a w h => ?_
 refine zi h hF (fun hF => ?_) (fun hF => ?_)
 ·refine zs [4] h an fun a w h => ?_
  cases hF
  exact wp_ret (ret_okR tok h rfl (by kernel_rfl)).1
 ·refine wp_skip ?_
  refine zs [4] h an fun a w h => ?_
  cases hF
  exact wp_ret (ret_okR tok h rfl (by kernel_rfl)).1
def f65.l28 (k:Nat) (x0:(List (List Int))):Nat → (Int × Int)→Option Int
 | 0,_ => none
 | m28+1,(v47,v48) => if (decide (v48 < (List.length x0:Int))) then (if (0≤v48∧v48 < (List.length x0:Int)) then ((f129 k (List.getD x0 (Int.toNat v48) ([]:(List Int))) v47).bind fun r52 => (if (decide (r52 < (0:Int))) then (some (-1:Int)) else ((f65.l28 k x0) m28 (r52,(IntKind.i64.wrap (v48 + (1:Int))))))) else none) else (some v47)
def f65 (k:Nat) (x0:(List (List Int))) (x1:Int):Option Int:=if (decide (((IntKind.i64.wrap (x1 - (List.length x0:Int))):Int) < (0:Int))) then (some (-1:Int)) else (f65.l28 k x0 k ((IntKind.i64.wrap (x1 - (List.length x0:Int))),(0:Int)))
theorem c65 (k:Nat) (x0:(List (List Int))) (x1:Int) (r:Int) (hF:f65 k x0 x1=some r):PCall Try.prog 65 [⟨sh5,x0⟩,⟨iS,x1⟩] [⟨iS,r⟩]:=by
 refine pcall_intro Try.func65 rfl rfl (Nat.le_of_ble_eq_true rfl) ?_
 intro w0 Zi a w h
 rw [f65] at hF
 refine zs [0,1] h an fun a w h => ?_
 refine zs [0,1] h an fun a w h => ?_
 refine wp_seq ?_
 refine zs [0,1,11] h an fun a w h => ?_
 refine zi h hF (fun hF => ?_) (fun hF => ?_)
 ·refine zs [4] h an fun a w h => ?_
  cases hF
  exact wp_ret (ret_okR tok h rfl (by kernel_rfl)).1
 ·refine wp_skip ?_
  refine wp_seq ?_
  refine zs [0,1,5] h an fun a w h => ?_
  refine wp_block ?_
  refine wp_loop_fuel (f65.l28 k x0) (fun ((v47,v48):(Int × Int)) => [(0,.val sh5 x0),(1,.val iS v47),(5,.val iS v48)]) (fun v h => by obtain ⟨v47,v48⟩:=v; rw [f65.l28] at h; cases h) ?_ hF (ar h [0,1,5])
  intro m28 v a w hF h
  obtain ⟨v47,v48⟩:=v
  rw [f65.l28] at hF
  refine wp_seq ?_
  refine zs [0,1,5,15] h an fun a w h => ?_
  refine zi h hF (fun hF => ?_) (fun hF => ?_)
  ·refine wp_skip ?_
   refine wp_seq <| wp_block ?_
   obtain ⟨hc53,hF⟩:=of_if hF
   obtain ⟨r52,hr54,hF⟩:=of_bind hF
   refine zc (orcL [(23,[⟨iS,r52⟩])]) [0,1,5] h (ac hc53 (ac (c129 k (gD x0 (tZ v48) lO) v47 r52 hr54) an)) fun a w h => ?_
   refine zs [0,1,5,25] h an fun a w h => ?_
   refine zi h hF (fun hF => ?_) (fun hF => ?_)
   ·refine zs [4] h an fun a w h => ?_
    cases hF
    exact wp_ret (ret_okR tok h rfl (by kernel_rfl)).1
   ·refine wp_skip ?_
    refine zt [0,1,5] h an fun a w h => ?_
    exact ⟨(r52,(w64 (v48 + (1:Int)))),hF,ar h [0,1,5]⟩
  ·refine wp_exit ?_
   refine zs [4] h an fun a w h => ?_
   cases hF
   exact wp_ret (ret_okR tok h rfl (by kernel_rfl)).1
def f137 (k:Nat) (x0:(Int × Int)):Option (Int × Int):=some (x0.1,x0.2)
theorem c137 (k:Nat) (x0:(Int × Int)) (r:(Int × Int)) (hF:f137 k x0=some r):PCall Try.prog 137 [⟨sh6,x0⟩] [⟨sh6,r⟩]:=by
 refine pcall_intro Try.func137 rfl rfl (Nat.le_of_ble_eq_true rfl) ?_
 intro w0 Zi a w h
 rw [f137] at hF
 refine zs [1,2] h an fun a w h => ?_
 refine zs [1,2,3] h an fun a w h => ?_
 refine zs [1,2,3] h an fun a w h => ?_
 refine zs [2,3] h an fun a w h => ?_
 refine zs [2] h an fun a w h => ?_
 cases hF
 exact wp_ret (ret_okR tok h rfl (by kernel_rfl)).1
def f154 (k:Nat) (x0:(Int × (Int × Int))):Option (Int × (Int × Int)):=(f137 k x0.2).bind fun r1 => (some (x0.1,r1))
theorem c154 (k:Nat) (x0:(Int × (Int × Int))) (r:(Int × (Int × Int))) (hF:f154 k x0=some r):PCall Try.prog 154 [⟨sh7,x0⟩] [⟨sh7,r⟩]:=by
 refine pcall_intro Try.func154 rfl rfl (Nat.le_of_ble_eq_true rfl) ?_
 intro w0 Zi a w h
 rw [f154] at hF
 refine zs [1,2] h an fun a w h => ?_
 refine zs [1,2,3] h an fun a w h => ?_
 refine zs [1,2,3] h an fun a w h => ?_
 obtain ⟨r1,hr2,hF⟩:=of_bind hF
 refine zc (orcL [(9,[⟨sh6,r1⟩])]) [2,3] h (ac (c137 k x0.2 r1 hr2) an) fun a w h => ?_
 refine zs [2] h an fun a w h => ?_
 cases hF
 exact wp_ret (ret_okR tok h rfl (by kernel_rfl)).1
def f89.l34 (k:Nat) (x0:(List (Int × (Int × Int)))):Nat → ((List (Int × (Int × Int))) × Int)→Option (List (Int × (Int × Int)))
 | 0,_ => none
 | m34+1,(v57,v58) => if (decide (v58 < (List.length x0:Int))) then (if (0≤v58∧v58 < (List.length x0:Int)) then ((f154 k (List.getD x0 (Int.toNat v58) ((0:Int),((0:Int),(0:Int))))).bind fun r63 => (if (0≤v58∧v58 < (List.length v57:Int)) then ((f89.l34 k x0) m34 ((List.set v57 (Int.toNat v58) r63),(IntKind.i64.wrap (v58 + (1:Int))))) else none)) else none) else (some v57)
def f89 (k:Nat) (x0:(List (Int × (Int × Int)))):Option (List (Int × (Int × Int))):=if (0 ≤ (List.length x0:Int)∧Int.toNat (List.length x0:Int)*24≤140737488355328) then (f89.l34 k x0 k ((List.replicate (Int.toNat (List.length x0:Int)) ((0:Int),((0:Int),(0:Int)))),(0:Int))) else none
theorem c89 (k:Nat) (x0:(List (Int × (Int × Int)))) (r:(List (Int × (Int × Int)))) (hF:f89 k x0=some r):PCall Try.prog 89 [⟨sh0,x0⟩] [⟨sh8,r⟩]:=by
 refine pcall_intro Try.func89 rfl rfl (Nat.le_of_ble_eq_true rfl) ?_
 intro w0 Zi a w h
 rw [f89] at hF
 refine zs [0] h an fun a w h => ?_
 obtain ⟨hc67,hF⟩:=of_if hF
 refine zs [0,3] h (ac hc67 an) fun a w h => ?_
 refine wp_seq ?_
 refine zs [0,3,4] h an fun a w h => ?_
 refine wp_block ?_
 refine wp_loop_fuel (f89.l34 k x0) (fun ((v57,v58):((List (Int × (Int × Int))) × Int)) => [(0,.val sh0 x0),(3,.val sh8 v57),(4,.val iS v58)]) (fun v h => by obtain ⟨v57,v58⟩:=v; rw [f89.l34] at h; cases h) ?_ hF (ar h [0,3,4])
 intro m34 v a w hF h
 obtain ⟨v57,v58⟩:=v
 rw [f89.l34] at hF
 refine wp_seq ?_
 refine zs [0,3,4,11] h an fun a w h => ?_
 refine zi h hF (fun hF => ?_) (fun hF => ?_)
 ·refine wp_skip ?_
  refine wp_seq <| wp_block ?_
  obtain ⟨hc64,hF⟩:=of_if hF
  obtain ⟨r63,hr65,hF⟩:=of_bind hF
  obtain ⟨hc66,hF⟩:=of_if hF
  refine zd (orcL [(20,[⟨sh7,r63⟩])]) [0,3,4] h (ac hc64 (ac (c154 k (gD x0 (tZ v58) (iO,(iO,iO))) r63 hr65) (ac hc66 an))) fun a w h => ?_
  refine zt [0,3,4] h an fun a w h => ?_
  exact ⟨((List.set v57 (tZ v58) r63),(w64 (v58 + (1:Int)))),hF,ar h [0,3,4]⟩
 ·refine wp_exit ?_
  refine zs [2,3] h an fun a w h => ?_
  cases hF
  exact wp_ret (ret_okR tok h rfl (by kernel_rfl)).1
def f155 (k:Nat) (x0:(Int × (Int × (Int × (Int × (Int × ByteArray)))))):Option (Int × (Int × (Int × (Int × (Int × ByteArray))))):=some (x0.1,(x0.2.1,(x0.2.2.1,(x0.2.2.2.1,(x0.2.2.2.2.1,x0.2.2.2.2.2)))))
theorem c155 (k:Nat) (x0:(Int × (Int × (Int × (Int × (Int × ByteArray)))))) (r:(Int × (Int × (Int × (Int × (Int × ByteArray)))))) (hF:f155 k x0=some r):PCall Try.prog 155 [⟨sh1,x0⟩] [⟨sh1,r⟩]:=by
 refine pcall_intro Try.func155 rfl rfl (Nat.le_of_ble_eq_true rfl) ?_
 intro w0 Zi a w h
 rw [f155] at hF
 refine zs [1,2] h an fun a w h => ?_
 refine zs [1,2,3] h an fun a w h => ?_
 refine zs [1,2,3] h an fun a w h => ?_
 refine zs [1,2,3] h an fun a w h => ?_
 refine zs [1,2,3] h an fun a w h => ?_
 refine zs [1,2,3] h an fun a w h => ?_
 refine zs [1,2,3] h an fun a w h => ?_
 refine zs [2,3] h an fun a w h => ?_
 refine zs [2] h an fun a w h => ?_
 cases hF
 exact wp_ret (ret_okR tok h rfl (by kernel_rfl)).1
def f90.l34 (k:Nat) (x0:(List (Int × (Int × (Int × (Int × (Int × ByteArray))))))):Nat → ((List (Int × (Int × (Int × (Int × (Int × ByteArray)))))) × Int)→Option (List (Int × (Int × (Int × (Int × (Int × ByteArray))))))
 | 0,_ => none
 | m34+1,(v57,v58) => if (decide (v58 < (List.length x0:Int))) then (if (0≤v58∧v58 < (List.length x0:Int)) then ((f155 k (List.getD x0 (Int.toNat v58) ((0:Int),((0:Int),((0:Int),((0:Int),((0:Int),(⟨#[]⟩:ByteArray)))))))).bind fun r63 => (if (0≤v58∧v58 < (List.length v57:Int)) then ((f90.l34 k x0) m34 ((List.set v57 (Int.toNat v58) r63),(IntKind.i64.wrap (v58 + (1:Int))))) else none)) else none) else (some v57)
def f90 (k:Nat) (x0:(List (Int × (Int × (Int × (Int × (Int × ByteArray))))))):Option (List (Int × (Int × (Int × (Int × (Int × ByteArray)))))):=if (0 ≤ (List.length x0:Int)∧Int.toNat (List.length x0:Int)*56≤140737488355328) then (f90.l34 k x0 k ((List.replicate (Int.toNat (List.length x0:Int)) ((0:Int),((0:Int),((0:Int),((0:Int),((0:Int),(⟨#[]⟩:ByteArray))))))),(0:Int))) else none
theorem c90 (k:Nat) (x0:(List (Int × (Int × (Int × (Int × (Int × ByteArray))))))) (r:(List (Int × (Int × (Int × (Int × (Int × ByteArray))))))) (hF:f90 k x0=some r):PCall Try.prog 90 [⟨sh2,x0⟩] [⟨sh9,r⟩]:=by
 refine pcall_intro Try.func90 rfl rfl (Nat.le_of_ble_eq_true rfl) ?_
 intro w0 Zi a w h
 rw [f90] at hF
 refine zs [0] h an fun a w h => ?_
 obtain ⟨hc67,hF⟩:=of_if hF
 refine zs [0,3] h (ac hc67 an) fun a w h => ?_
 refine wp_seq ?_
 refine zs [0,3,4] h an fun a w h => ?_
 refine wp_block ?_
 refine wp_loop_fuel (f90.l34 k x0) (fun ((v57,v58):((List (Int × (Int × (Int × (Int × (Int × ByteArray)))))) × Int)) => [(0,.val sh2 x0),(3,.val sh9 v57),(4,.val iS v58)]) (fun v h => by obtain ⟨v57,v58⟩:=v; rw [f90.l34] at h; cases h) ?_ hF (ar h [0,3,4])
 intro m34 v a w hF h
 obtain ⟨v57,v58⟩:=v
 rw [f90.l34] at hF
 refine wp_seq ?_
 refine zs [0,3,4,11] h an fun a w h => ?_
 refine zi h hF (fun hF => ?_) (fun hF => ?_)
 ·refine wp_skip ?_
  refine wp_seq <| wp_block ?_
  obtain ⟨hc64,hF⟩:=of_if hF
  obtain ⟨r63,hr65,hF⟩:=of_bind hF
  obtain ⟨hc66,hF⟩:=of_if hF
  refine zd (orcL [(20,[⟨sh1,r63⟩])]) [0,3,4] h (ac hc64 (ac (c155 k (gD x0 (tZ v58) zR) r63 hr65) (ac hc66 an))) fun a w h => ?_
  refine zt [0,3,4] h an fun a w h => ?_
  exact ⟨((List.set v57 (tZ v58) r63),(w64 (v58 + (1:Int)))),hF,ar h [0,3,4]⟩
 ·refine wp_exit ?_
  refine zs [2,3] h an fun a w h => ?_
  cases hF
  exact wp_ret (ret_okR tok h rfl (by kernel_rfl)).1
def f156 (k:Nat) (x0:(Int × Int)):Option (Int × Int):=some (x0.1,x0.2)
theorem c156 (k:Nat) (x0:(Int × Int)) (r:(Int × Int)) (hF:f156 k x0=some r):PCall Try.prog 156 [⟨sh6,x0⟩] [⟨sh6,r⟩]:=by
 refine pcall_intro Try.func156 rfl rfl (Nat.le_of_ble_eq_true rfl) ?_
 intro w0 Zi a w h
 rw [f156] at hF
 refine zs [1,2] h an fun a w h => ?_
 refine zs [1,2,3] h an fun a w h => ?_
 refine zs [1,2,3] h an fun a w h => ?_
 refine zs [2,3] h an fun a w h => ?_
 refine zs [2] h an fun a w h => ?_
 cases hF
 exact wp_ret (ret_okR tok h rfl (by kernel_rfl)).1
def f91.l34 (k:Nat) (x0:(List (Int × Int))):Nat → ((List (Int × Int)) × Int)→Option (List (Int × Int))
 | 0,_ => none
 | m34+1,(v57,v58) => if (decide (v58 < (List.length x0:Int))) then (if (0≤v58∧v58 < (List.length x0:Int)) then ((f156 k (List.getD x0 (Int.toNat v58) ((0:Int),(0:Int)))).bind fun r63 => (if (0≤v58∧v58 < (List.length v57:Int)) then ((f91.l34 k x0) m34 ((List.set v57 (Int.toNat v58) r63),(IntKind.i64.wrap (v58 + (1:Int))))) else none)) else none) else (some v57)
def f91 (k:Nat) (x0:(List (Int × Int))):Option (List (Int × Int)):=if (0 ≤ (List.length x0:Int)∧Int.toNat (List.length x0:Int)*16≤140737488355328) then (f91.l34 k x0 k ((List.replicate (Int.toNat (List.length x0:Int)) ((0:Int),(0:Int))),(0:Int))) else none
theorem c91 (k:Nat) (x0:(List (Int × Int))) (r:(List (Int × Int))) (hF:f91 k x0=some r):PCall Try.prog 91 [⟨sh3,x0⟩] [⟨sh10,r⟩]:=by
 refine pcall_intro Try.func91 rfl rfl (Nat.le_of_ble_eq_true rfl) ?_
 intro w0 Zi a w h
 rw [f91] at hF
 refine zs [0] h an fun a w h => ?_
 obtain ⟨hc67,hF⟩:=of_if hF
 refine zs [0,3] h (ac hc67 an) fun a w h => ?_
 refine wp_seq ?_
 refine zs [0,3,4] h an fun a w h => ?_
 refine wp_block ?_
 refine wp_loop_fuel (f91.l34 k x0) (fun ((v57,v58):((List (Int × Int)) × Int)) => [(0,.val sh3 x0),(3,.val sh10 v57),(4,.val iS v58)]) (fun v h => by obtain ⟨v57,v58⟩:=v; rw [f91.l34] at h; cases h) ?_ hF (ar h [0,3,4])
 intro m34 v a w hF h
 obtain ⟨v57,v58⟩:=v
 rw [f91.l34] at hF
 refine wp_seq ?_
 refine zs [0,3,4,11] h an fun a w h => ?_
 refine zi h hF (fun hF => ?_) (fun hF => ?_)
 ·refine wp_skip ?_
  refine wp_seq <| wp_block ?_
  obtain ⟨hc64,hF⟩:=of_if hF
  obtain ⟨r63,hr65,hF⟩:=of_bind hF
  obtain ⟨hc66,hF⟩:=of_if hF
  refine zd (orcL [(20,[⟨sh6,r63⟩])]) [0,3,4] h (ac hc64 (ac (c156 k (gD x0 (tZ v58) (iO,iO)) r63 hr65) (ac hc66 an))) fun a w h => ?_
  refine zt [0,3,4] h an fun a w h => ?_
  exact ⟨((List.set v57 (tZ v58) r63),(w64 (v58 + (1:Int)))),hF,ar h [0,3,4]⟩
 ·refine wp_exit ?_
  refine zs [2,3] h an fun a w h => ?_
  cases hF
  exact wp_ret (ret_okR tok h rfl (by kernel_rfl)).1
def f42 (k:Nat) (x0:((List (Int × (Int × Int))) × ((List (Int × (Int × (Int × (Int × (Int × ByteArray)))))) × (List (Int × Int))))):Option ((List (Int × (Int × Int))) × ((List (Int × (Int × (Int × (Int × (Int × ByteArray)))))) × (List (Int × Int)))):=(f89 k x0.1).bind fun r1 => ((f90 k x0.2.1).bind fun r2 => ((f91 k x0.2.2).bind fun r3 => (some (r1,(r2,r3)))))
theorem c42 (k:Nat) (x0:tG) (r:tG) (hF:f42 k x0=some r):PCall Try.prog 42 [⟨sh4,x0⟩] [⟨sh11,r⟩]:=by
 refine pcall_intro Try.func42 rfl rfl (Nat.le_of_ble_eq_true rfl) ?_
 intro w0 Zi a w h
 rw [f42] at hF
 refine zs [1,2] h an fun a w h => ?_
 refine zs [1,2,3] h an fun a w h => ?_
 obtain ⟨r1,hr6,hF⟩:=of_bind hF
 refine zc (orcL [(6,[⟨sh8,r1⟩])]) [1,2,3] h (ac (c89 k x0.1 r1 hr6) an) fun a w h => ?_
 obtain ⟨r2,hr5,hF⟩:=of_bind hF
 refine zc (orcL [(10,[⟨sh9,r2⟩])]) [1,2,3] h (ac (c90 k x0.2.1 r2 hr5) an) fun a w h => ?_
 obtain ⟨r3,hr4,hF⟩:=of_bind hF
 refine zc (orcL [(14,[⟨sh10,r3⟩])]) [2,3] h (ac (c91 k x0.2.2 r3 hr4) an) fun a w h => ?_
 refine zs [2] h an fun a w h => ?_
 cases hF
 exact wp_ret (ret_okR tok h rfl (by kernel_rfl)).1
def f14.l22 (k:Nat) (x0:(List Int)):Nat → ((List Int) × Int)→Option (List Int)
 | 0,_ => none
 | m22+1,(v37,v38) => if (decide (v38 < (List.length x0:Int))) then (if (0≤v38∧v38 < (List.length x0:Int)) then (if (0≤v38∧v38 < (List.length v37:Int)) then ((f14.l22 k x0) m22 ((List.set v37 (Int.toNat v38) (List.getD x0 (Int.toNat v38) (0:Int))),(IntKind.i64.wrap (v38 + (1:Int))))) else none) else none) else (some v37)
def f14 (k:Nat) (x0:(List Int)):Option (List Int):=if (0 ≤ (List.length x0:Int)∧Int.toNat (List.length x0:Int)*8≤140737488355328) then (f14.l22 k x0 k ((List.replicate (Int.toNat (List.length x0:Int)) (0:Int)),(0:Int))) else none
theorem c14 (k:Nat) (x0:(List Int)) (r:(List Int)) (hF:f14 k x0=some r):PCall Try.prog 14 [⟨(.sl false 2 iS),x0⟩] [⟨(.sl true 2 iS),r⟩]:=by
 refine pcall_intro Try.func14 rfl rfl (Nat.le_of_ble_eq_true rfl) ?_
 intro w0 Zi a w h
 rw [f14] at hF
 refine zs [0] h an fun a w h => ?_
 obtain ⟨hc43,hF⟩:=of_if hF
 refine zs [0,3] h (ac hc43 an) fun a w h => ?_
 refine wp_seq ?_
 refine zs [0,3,4] h an fun a w h => ?_
 refine wp_block ?_
 refine wp_loop_fuel (f14.l22 k x0) (fun ((v37,v38):((List Int) × Int)) => [(0,.val (.sl false 2 iS) x0),(3,.val (.sl true 2 iS) v37),(4,.val iS v38)]) (fun v h => by obtain ⟨v37,v38⟩:=v; rw [f14.l22] at h; cases h) ?_ hF (ar h [0,3,4])
 intro m22 v a w hF h
 obtain ⟨v37,v38⟩:=v
 rw [f14.l22] at hF
 refine wp_seq ?_
 refine zs [0,3,4,11] h an fun a w h => ?_
 refine zi h hF (fun hF => ?_) (fun hF => ?_)
 ·refine wp_skip ?_
  refine wp_seq <| wp_block ?_
  obtain ⟨hc41,hF⟩:=of_if hF
  obtain ⟨hc42,hF⟩:=of_if hF
  refine zt [0,3,4] h (ac hc41 (ac hc42 an)) fun a w h => ?_
  refine zt [0,3,4] h an fun a w h => ?_
  exact ⟨((List.set v37 (tZ v38) (gD x0 (tZ v38) iO)),(w64 (v38 + (1:Int)))),hF,ar h [0,3,4]⟩
 ·refine wp_exit ?_
  refine zs [2,3] h an fun a w h => ?_
  cases hF
  exact wp_ret (ret_okR tok h rfl (by kernel_rfl)).1
def f67.l34 (k:Nat) (x0:(List (List Int))):Nat → ((List (List Int)) × Int)→Option (List (List Int))
 | 0,_ => none
 | m34+1,(v57,v58) => if (decide (v58 < (List.length x0:Int))) then (if (0≤v58∧v58 < (List.length x0:Int)) then ((f14 k (List.getD x0 (Int.toNat v58) ([]:(List Int)))).bind fun r63 => (if (0≤v58∧v58 < (List.length v57:Int)) then ((f67.l34 k x0) m34 ((List.set v57 (Int.toNat v58) r63),(IntKind.i64.wrap (v58 + (1:Int))))) else none)) else none) else (some v57)
def f67 (k:Nat) (x0:(List (List Int))):Option (List (List Int)):=if (0 ≤ (List.length x0:Int)∧Int.toNat (List.length x0:Int)*24≤140737488355328) then (f67.l34 k x0 k ((List.replicate (Int.toNat (List.length x0:Int)) ([]:(List Int))),(0:Int))) else none
theorem c67 (k:Nat) (x0:(List (List Int))) (r:(List (List Int))) (hF:f67 k x0=some r):PCall Try.prog 67 [⟨sh5,x0⟩] [⟨sh12,r⟩]:=by
 refine pcall_intro Try.func67 rfl rfl (Nat.le_of_ble_eq_true rfl) ?_
 intro w0 Zi a w h
 rw [f67] at hF
 refine zs [0] h an fun a w h => ?_
 obtain ⟨hc67,hF⟩:=of_if hF
 refine zs [0,3] h (ac hc67 an) fun a w h => ?_
 refine wp_seq ?_
 refine zs [0,3,4] h an fun a w h => ?_
 refine wp_block ?_
 refine wp_loop_fuel (f67.l34 k x0) (fun ((v57,v58):((List (List Int)) × Int)) => [(0,.val sh5 x0),(3,.val sh12 v57),(4,.val iS v58)]) (fun v h => by obtain ⟨v57,v58⟩:=v; rw [f67.l34] at h; cases h) ?_ hF (ar h [0,3,4])
 intro m34 v a w hF h
 obtain ⟨v57,v58⟩:=v
 rw [f67.l34] at hF
 refine wp_seq ?_
 refine zs [0,3,4,11] h an fun a w h => ?_
 refine zi h hF (fun hF => ?_) (fun hF => ?_)
 ·refine wp_skip ?_
  refine wp_seq <| wp_block ?_
  obtain ⟨hc64,hF⟩:=of_if hF
  obtain ⟨r63,hr65,hF⟩:=of_bind hF
  obtain ⟨hc66,hF⟩:=of_if hF
  refine zd (orcL [(20,[⟨(.sl true 2 iS),r63⟩])]) [0,3,4] h (ac hc64 (ac (c14 k (gD x0 (tZ v58) lO) r63 hr65) (ac hc66 an))) fun a w h => ?_
  refine zt [0,3,4] h an fun a w h => ?_
  exact ⟨((List.set v57 (tZ v58) r63),(w64 (v58 + (1:Int)))),hF,ar h [0,3,4]⟩
 ·refine wp_exit ?_
  refine zs [2,3] h an fun a w h => ?_
  cases hF
  exact wp_ret (ret_okR tok h rfl (by kernel_rfl)).1
def f149 (k:Nat) (x0:Int):Option Bool:=some (bif (decide (x0 ≥ (1:Int))) then (decide (x0 ≤ (1000000000:Int))) else false)
theorem c149 (k:Nat) (x0:Int) (r:Bool) (hF:f149 k x0=some r):PCall Try.prog 149 [⟨iS,x0⟩] [⟨.bool,r⟩]:=by
 refine pcall_intro Try.func149 rfl rfl (Nat.le_of_ble_eq_true rfl) ?_
 intro w0 Zi a w h
 rw [f149] at hF
 refine zs [0] h an fun a w h => ?_
 refine zs [2] h an fun a w h => ?_
 cases hF
 exact wp_ret (ret_okR tok h rfl (by kernel_rfl)).1
def f150 (k:Nat) (x0:(Int × Int)):Option Bool:=some (bif (bif (bif (decide (x0.1 ≥ (-10000000:Int))) then (decide (x0.1 ≤ (10000000:Int))) else false) then (decide (x0.2 ≥ (-10000000:Int))) else false) then (decide (x0.2 ≤ (10000000:Int))) else false)
theorem c150 (k:Nat) (x0:(Int × Int)) (r:Bool) (hF:f150 k x0=some r):PCall Try.prog 150 [⟨sh6,x0⟩] [⟨.bool,r⟩]:=by
 refine pcall_intro Try.func150 rfl rfl (Nat.le_of_ble_eq_true rfl) ?_
 intro w0 Zi a w h
 rw [f150] at hF
 refine zs [1] h an fun a w h => ?_
 refine zs [2] h an fun a w h => ?_
 cases hF
 exact wp_ret (ret_okR tok h rfl (by kernel_rfl)).1
def f151 (k:Nat) (x0:(Int × Int)) (x1:(Int × Int)):Option Bool:=some (bif (decide (x0.1 < x1.1)) then true else (bif (x0.1 == x1.1) then (decide (x0.2 < x1.2)) else false))
theorem c151 (k:Nat) (x0:(Int × Int)) (x1:(Int × Int)) (r:Bool) (hF:f151 k x0 x1=some r):PCall Try.prog 151 [⟨sh6,x0⟩,⟨sh6,x1⟩] [⟨.bool,r⟩]:=by
 refine pcall_intro Try.func151 rfl rfl (Nat.le_of_ble_eq_true rfl) ?_
 intro w0 Zi a w h
 rw [f151] at hF
 refine zs [2,3] h an fun a w h => ?_
 refine zs [4] h an fun a w h => ?_
 cases hF
 exact wp_ret (ret_okR tok h rfl (by kernel_rfl)).1
def f86.l206 (k:Nat) (x0:((List (Int × (Int × Int))) × ((List (Int × (Int × (Int × (Int × (Int × ByteArray)))))) × (List (Int × Int))))):Nat→Int→Option Bool
 | 0,_ => none
 | m206+1,v242 => if (decide (v242 < (List.length x0.2.2:Int))) then (if (0≤v242∧v242 < (List.length x0.2.2:Int)) then (if (((bif (bif (bif (decide (((List.getD x0.2.2 (Int.toNat v242) ((0:Int),(0:Int))).1:Int) < (0:Int))) then true else (decide (((List.getD x0.2.2 (Int.toNat v242) ((0:Int),(0:Int))).1:Int) ≥ (List.length x0.2.1:Int)))) then true else (decide (((List.getD x0.2.2 (Int.toNat v242) ((0:Int),(0:Int))).2:Int) < (0:Int)))) then true else (decide (((List.getD x0.2.2 (Int.toNat v242) ((0:Int),(0:Int))).2:Int) ≥ (List.length x0.2.1:Int))))=false) → (0 ≤ (List.getD x0.2.2 (Int.toNat v242) ((0:Int),(0:Int))).1 ∧ (List.getD x0.2.2 (Int.toNat v242) ((0:Int),(0:Int))).1 < (List.length x0.2.1:Int))) then (if (((bif (bif (bif (decide (((List.getD x0.2.2 (Int.toNat v242) ((0:Int),(0:Int))).1:Int) < (0:Int))) then true else (decide (((List.getD x0.2.2 (Int.toNat v242) ((0:Int),(0:Int))).1:Int) ≥ (List.length x0.2.1:Int)))) then true else (decide (((List.getD x0.2.2 (Int.toNat v242) ((0:Int),(0:Int))).2:Int) < (0:Int)))) then true else (decide (((List.getD x0.2.2 (Int.toNat v242) ((0:Int),(0:Int))).2:Int) ≥ (List.length x0.2.1:Int))))=false) → (0 ≤ (List.getD x0.2.2 (Int.toNat v242) ((0:Int),(0:Int))).2 ∧ (List.getD x0.2.2 (Int.toNat v242) ((0:Int),(0:Int))).2 < (List.length x0.2.1:Int))) then (if ((((bif (bif (bif (bif (decide (((List.getD x0.2.2 (Int.toNat v242) ((0:Int),(0:Int))).1:Int) < (0:Int))) then true else (decide (((List.getD x0.2.2 (Int.toNat v242) ((0:Int),(0:Int))).1:Int) ≥ (List.length x0.2.1:Int)))) then true else (decide (((List.getD x0.2.2 (Int.toNat v242) ((0:Int),(0:Int))).2:Int) < (0:Int)))) then true else (decide (((List.getD x0.2.2 (Int.toNat v242) ((0:Int),(0:Int))).2:Int) ≥ (List.length x0.2.1:Int)))) then true else (((List.getD x0.2.1 (Int.toNat (List.getD x0.2.2 (Int.toNat v242) ((0:Int),(0:Int))).1) ((0:Int),((0:Int),((0:Int),((0:Int),((0:Int),(⟨#[]⟩:ByteArray))))))).2.1:Int) != (List.getD x0.2.1 (Int.toNat (List.getD x0.2.2 (Int.toNat v242) ((0:Int),(0:Int))).2) ((0:Int),((0:Int),((0:Int),((0:Int),((0:Int),(⟨#[]⟩:ByteArray))))))).1))=false) ∧ ((decide (v242 > (0:Int)))=true)) → (0 ≤ (IntKind.i64.wrap (v242 - (1:Int))) ∧ (IntKind.i64.wrap (v242 - (1:Int))) < (List.length x0.2.2:Int))) then ((if (((bif (bif (bif (bif (decide (((List.getD x0.2.2 (Int.toNat v242) ((0:Int),(0:Int))).1:Int) < (0:Int))) then true else (decide (((List.getD x0.2.2 (Int.toNat v242) ((0:Int),(0:Int))).1:Int) ≥ (List.length x0.2.1:Int)))) then true else (decide (((List.getD x0.2.2 (Int.toNat v242) ((0:Int),(0:Int))).2:Int) < (0:Int)))) then true else (decide (((List.getD x0.2.2 (Int.toNat v242) ((0:Int),(0:Int))).2:Int) ≥ (List.length x0.2.1:Int)))) then true else (((List.getD x0.2.1 (Int.toNat (List.getD x0.2.2 (Int.toNat v242) ((0:Int),(0:Int))).1) ((0:Int),((0:Int),((0:Int),((0:Int),((0:Int),(⟨#[]⟩:ByteArray))))))).2.1:Int) != (List.getD x0.2.1 (Int.toNat (List.getD x0.2.2 (Int.toNat v242) ((0:Int),(0:Int))).2) ((0:Int),((0:Int),((0:Int),((0:Int),((0:Int),(⟨#[]⟩:ByteArray))))))).1))=false) ∧ ((decide (v242 > (0:Int)))=true)) then f151 k (List.getD x0.2.2 (Int.toNat (IntKind.i64.wrap (v242 - (1:Int)))) ((0:Int),(0:Int))) (List.getD x0.2.2 (Int.toNat v242) ((0:Int),(0:Int))) else some default).bind fun r251 => ((some ((bif (bif (bif (bif (bif (decide (((List.getD x0.2.2 (Int.toNat v242) ((0:Int),(0:Int))).1:Int) < (0:Int))) then true else (decide (((List.getD x0.2.2 (Int.toNat v242) ((0:Int),(0:Int))).1:Int) ≥ (List.length x0.2.1:Int)))) then true else (decide (((List.getD x0.2.2 (Int.toNat v242) ((0:Int),(0:Int))).2:Int) < (0:Int)))) then true else (decide (((List.getD x0.2.2 (Int.toNat v242) ((0:Int),(0:Int))).2:Int) ≥ (List.length x0.2.1:Int)))) then true else (((List.getD x0.2.1 (Int.toNat (List.getD x0.2.2 (Int.toNat v242) ((0:Int),(0:Int))).1) ((0:Int),((0:Int),((0:Int),((0:Int),((0:Int),(⟨#[]⟩:ByteArray))))))).2.1:Int) != (List.getD x0.2.1 (Int.toNat (List.getD x0.2.2 (Int.toNat v242) ((0:Int),(0:Int))).2) ((0:Int),((0:Int),((0:Int),((0:Int),((0:Int),(⟨#[]⟩:ByteArray))))))).1)) then true else (bif (decide (v242 > (0:Int))) then (!r251) else false)):Bool)).bind fun v252 => (if v252 then (some false) else ((f86.l206 k x0) m206 (IntKind.i64.wrap (v242 + (1:Int))))))) else none) else none) else none) else none) else (some true)
def f86.l118 (k:Nat) (x0:((List (Int × (Int × Int))) × ((List (Int × (Int × (Int × (Int × (Int × ByteArray)))))) × (List (Int × Int))))):Nat→Int→Option Bool
 | 0,_ => none
 | m118+1,v142 => if (decide (v142 < (List.length x0.2.1:Int))) then (if (0≤v142∧v142 < (List.length x0.2.1:Int)) then ((if ((bif (bif (bif (decide (((List.getD x0.2.1 (Int.toNat v142) ((0:Int),((0:Int),((0:Int),((0:Int),((0:Int),(⟨#[]⟩:ByteArray))))))).1:Int) < (0:Int))) then true else (decide (((List.getD x0.2.1 (Int.toNat v142) ((0:Int),((0:Int),((0:Int),((0:Int),((0:Int),(⟨#[]⟩:ByteArray))))))).1:Int) ≥ (List.length x0.1:Int)))) then true else (decide (((List.getD x0.2.1 (Int.toNat v142) ((0:Int),((0:Int),((0:Int),((0:Int),((0:Int),(⟨#[]⟩:ByteArray))))))).2.1:Int) < (0:Int)))) then true else (decide (((List.getD x0.2.1 (Int.toNat v142) ((0:Int),((0:Int),((0:Int),((0:Int),((0:Int),(⟨#[]⟩:ByteArray))))))).2.1:Int) ≥ (List.length x0.1:Int))))=false) then f149 k (List.getD x0.2.1 (Int.toNat v142) ((0:Int),((0:Int),((0:Int),((0:Int),((0:Int),(⟨#[]⟩:ByteArray))))))).2.2.1 else some default).bind fun r148 => ((some ((bif (bif (bif (bif (bif (bif (bif (bif (decide (((List.getD x0.2.1 (Int.toNat v142) ((0:Int),((0:Int),((0:Int),((0:Int),((0:Int),(⟨#[]⟩:ByteArray))))))).1:Int) < (0:Int))) then true else (decide (((List.getD x0.2.1 (Int.toNat v142) ((0:Int),((0:Int),((0:Int),((0:Int),((0:Int),(⟨#[]⟩:ByteArray))))))).1:Int) ≥ (List.length x0.1:Int)))) then true else (decide (((List.getD x0.2.1 (Int.toNat v142) ((0:Int),((0:Int),((0:Int),((0:Int),((0:Int),(⟨#[]⟩:ByteArray))))))).2.1:Int) < (0:Int)))) then true else (decide (((List.getD x0.2.1 (Int.toNat v142) ((0:Int),((0:Int),((0:Int),((0:Int),((0:Int),(⟨#[]⟩:ByteArray))))))).2.1:Int) ≥ (List.length x0.1:Int)))) then true else (!r148)) then true else (decide (((List.getD x0.2.1 (Int.toNat v142) ((0:Int),((0:Int),((0:Int),((0:Int),((0:Int),(⟨#[]⟩:ByteArray))))))).2.2.2.1:Int) < (1:Int)))) then true else (decide (((List.getD x0.2.1 (Int.toNat v142) ((0:Int),((0:Int),((0:Int),((0:Int),((0:Int),(⟨#[]⟩:ByteArray))))))).2.2.2.1:Int) > (1000000:Int)))) then true else (decide (((List.getD x0.2.1 (Int.toNat v142) ((0:Int),((0:Int),((0:Int),((0:Int),((0:Int),(⟨#[]⟩:ByteArray))))))).2.2.2.2.1:Int) < (0:Int)))) then true else (decide (((List.getD x0.2.1 (Int.toNat v142) ((0:Int),((0:Int),((0:Int),((0:Int),((0:Int),(⟨#[]⟩:ByteArray))))))).2.2.2.2.1:Int) > (1000000000:Int)))):Bool)).bind fun v149 => (if v149 then (some false) else ((f86.l118 k x0) m118 (IntKind.i64.wrap (v142 + (1:Int))))))) else none) else (f86.l206 k x0 k (0:Int))
def f86.l42 (k:Nat) (x0:((List (Int × (Int × Int))) × ((List (Int × (Int × (Int × (Int × (Int × ByteArray)))))) × (List (Int × Int))))):Nat→Int→Option Bool
 | 0,_ => none
 | m42+1,v70 => if (decide (v70 < (List.length x0.1:Int))) then (if (0≤v70∧v70 < (List.length x0.1:Int)) then ((f149 k (List.getD x0.1 (Int.toNat v70) ((0:Int),((0:Int),(0:Int)))).1).bind fun r77 => ((if ((!r77)=false) then f150 k (List.getD x0.1 (Int.toNat v70) ((0:Int),((0:Int),(0:Int)))).2 else some default).bind fun r78 => (if ((((bif (!r77) then true else (!r78))=false) ∧ ((decide (v70 > (0:Int)))=true)) → (0 ≤ (IntKind.i64.wrap (v70 - (1:Int))) ∧ (IntKind.i64.wrap (v70 - (1:Int))) < (List.length x0.1:Int))) then (if (bif (bif (!r77) then true else (!r78)) then true else (bif (decide (v70 > (0:Int))) then (decide (((List.getD x0.1 (Int.toNat (IntKind.i64.wrap (v70 - (1:Int)))) ((0:Int),((0:Int),(0:Int)))).1:Int) ≥ (List.getD x0.1 (Int.toNat v70) ((0:Int),((0:Int),(0:Int)))).1)) else false)) then (some false) else ((f86.l42 k x0) m42 (IntKind.i64.wrap (v70 + (1:Int))))) else none))) else none) else (f86.l118 k x0 k (0:Int))
def f86 (k:Nat) (x0:((List (Int × (Int × Int))) × ((List (Int × (Int × (Int × (Int × (Int × ByteArray)))))) × (List (Int × Int))))):Option Bool:=if (bif (bif (decide (((List.length x0.1:Int):Int) > (5000:Int))) then true else (decide (((List.length x0.2.1:Int):Int) > (8000:Int)))) then true else (decide (((List.length x0.2.2:Int):Int) > (2000:Int)))) then (some false) else (f86.l42 k x0 k (0:Int))
theorem c86 (k:Nat) (x0:tG) (r:Bool) (hF:f86 k x0=some r):PCall Try.prog 86 [⟨sh14,x0⟩] [⟨.bool,r⟩]:=by
 refine pcall_intro Try.func86 rfl rfl (Nat.le_of_ble_eq_true rfl) ?_
 intro w0 Zi a w h
 rw [f86] at hF
 refine zs [1] h an fun a w h => ?_
 refine wp_seq ?_
 refine zs [1,26] h an fun a w h => ?_
 refine zi h hF (fun hF => ?_) (fun hF => ?_)
 ·refine zs [2] h an fun a w h => ?_
  cases hF
  exact wp_ret (ret_okR tok h rfl (by kernel_rfl)).1
 ·refine wp_skip ?_
  refine wp_seq ?_
  refine zs [1,3] h an fun a w h => ?_
  refine wp_block ?_
  refine wp_loop_fuel (f86.l42 k x0) (fun v70 => [(1,.val sh13 (some x0)),(3,.val iS v70)]) (fun v h => by rw [f86.l42] at h; cases h) ?_ hF (ar h [1,3])
  intro m42 v70 a w hF h
  rw [f86.l42] at hF
  refine wp_seq ?_
  refine zs [1,3,31] h an fun a w h => ?_
  refine zi h hF (fun hF => ?_) (fun hF => ?_)
  ·refine wp_skip ?_
   refine wp_seq <| wp_block ?_
   obtain ⟨hc82,hF⟩:=of_if hF
   refine zs [1,3,4] h (ac hc82 an) fun a w h => ?_
   obtain ⟨r77,hr79,hF⟩:=of_bind hF
   obtain ⟨r78,hr80,hF⟩:=of_bind hF
   obtain ⟨hc81,hF⟩:=of_if hF
   refine wp_regy_seq tok (orc:=orcL [(41,[⟨.bool,r77⟩]),(46,[⟨.bool,r78⟩])]) (l:=[1,3,64]) ([],[],[],[]) 26 nw h (by kernel_rfl) (by kernel_rfl) (ac (c149 k (gD x0.1 (tZ v70) (iO,(iO,iO))).1 r77 hr79) (ac (fun (hg:((!r77)=false)) => c150 k (gD x0.1 (tZ v70) (iO,(iO,iO))).2 r78 (of_g hg hr80)) (ac hc81 an))) fun a w h => ?_
   refine zi h hF (fun hF => ?_) (fun hF => ?_)
   ·refine zs [2] h an fun a w h => ?_
    cases hF
    exact wp_ret (ret_okR tok h rfl (by kernel_rfl)).1
   ·refine wp_skip ?_
    refine zt [1,3] h an fun a w h => ?_
    exact ⟨(w64 (v70 + (1:Int))),hF,ar h [1,3]⟩
  ·refine wp_exit ?_
   refine zs [1,5] h an fun a w h => ?_
   refine wp_seq ?_
   refine zs [1,5,6] h an fun a w h => ?_
   refine wp_block ?_
   refine wp_loop_fuel (f86.l118 k x0) (fun v142 => [(1,.val sh13 (some x0)),(5,.val iS (List.length x0.1:Int)),(6,.val iS v142)]) (fun v h => by rw [f86.l118] at h; cases h) ?_ hF (ar h [1,5,6])
   intro m118 v142 a w hF h
   rw [f86.l118] at hF
   refine wp_seq ?_
   refine zs [1,5,6,72] h an fun a w h => ?_
   refine zi h hF (fun hF => ?_) (fun hF => ?_)
   ·refine wp_skip ?_
    refine wp_seq <| wp_block ?_
    obtain ⟨hc152,hF⟩:=of_if hF
    refine zs [1,5,6,7] h (ac hc152 an) fun a w h => ?_
    obtain ⟨r148,hr151,hF⟩:=of_bind hF
    refine zc (orcL [(103,[⟨.bool,r148⟩])]) [1,5,6,125] h (ac (fun (hg:((bif (bif (bif (decide (((gD x0.2.1 (tZ v142) zR).1:Int) < iO)) then true else (decide (((gD x0.2.1 (tZ v142) zR).1:Int) ≥ (List.length x0.1:Int)))) then true else (decide (((gD x0.2.1 (tZ v142) zR).2.1:Int) < iO))) then true else (decide (((gD x0.2.1 (tZ v142) zR).2.1:Int) ≥ (List.length x0.1:Int))))=false)) => c149 k (gD x0.2.1 (tZ v142) zR).2.2.1 r148 (of_g hg hr151)) an) fun a w h => ?_
    obtain ⟨v149,hv150,hF⟩:=of_bind hF
    replace h:=h.cast (S':=[(1,.val sh13 (some x0)),(5,.val iS (List.length x0.1:Int)),(6,.val iS v142),(125,.val .bool v149)]) (by cases hv150; kernel_rfl)
    refine zi h hF (fun hF => ?_) (fun hF => ?_)
    ·refine zs [2] h an fun a w h => ?_
     cases hF
     exact wp_ret (ret_okR tok h rfl (by kernel_rfl)).1
    ·refine wp_skip ?_
     refine zt [1,5,6] h an fun a w h => ?_
     exact ⟨(w64 (v142 + (1:Int))),hF,ar h [1,5,6]⟩
   ·refine wp_exit ?_
    refine zs [1,8] h an fun a w h => ?_
    refine wp_seq ?_
    refine zs [1,8,9] h an fun a w h => ?_
    refine wp_block ?_
    refine wp_loop_fuel (f86.l206 k x0) (fun v242 => [(1,.val sh13 (some x0)),(8,.val iS (List.length x0.2.1:Int)),(9,.val iS v242)]) (fun v h => by rw [f86.l206] at h; cases h) ?_ hF (ar h [1,8,9])
    intro m206 v242 a w hF h
    rw [f86.l206] at hF
    refine wp_seq ?_
    refine zs [1,8,9,133] h an fun a w h => ?_
    refine zi h hF (fun hF => ?_) (fun hF => ?_)
    ·refine wp_skip ?_
     refine wp_seq <| wp_block ?_
     obtain ⟨hc258,hF⟩:=of_if hF
     refine zs [1,8,9,10] h (ac hc258 an) fun a w h => ?_
     obtain ⟨hc254,hF⟩:=of_if hF
     obtain ⟨hc255,hF⟩:=of_if hF
     obtain ⟨hc256,hF⟩:=of_if hF
     obtain ⟨r251,hr257,hF⟩:=of_bind hF
     refine wp_regy_seq tok (orc:=orcL [(189,[⟨.bool,r251⟩])]) (l:=[1,8,9,192]) ([],[],[],[]) 52 nw h (by kernel_rfl) (by kernel_rfl) (ac hc254 (ac hc255 (ac hc256 (ac (fun (hg:(((bif (bif (bif (bif (decide (((gD x0.2.2 (tZ v242) (iO,iO)).1:Int) < iO)) then true else (decide (((gD x0.2.2 (tZ v242) (iO,iO)).1:Int) ≥ (List.length x0.2.1:Int)))) then true else (decide (((gD x0.2.2 (tZ v242) (iO,iO)).2:Int) < iO))) then true else (decide (((gD x0.2.2 (tZ v242) (iO,iO)).2:Int) ≥ (List.length x0.2.1:Int)))) then true else (((gD x0.2.1 (tZ (gD x0.2.2 (tZ v242) (iO,iO)).1) zR).2.1:Int) != (gD x0.2.1 (tZ (gD x0.2.2 (tZ v242) (iO,iO)).2) zR).1))=false) ∧ ((decide (v242 > iO))=true))) => c151 k (gD x0.2.2 (tZ (w64 (v242 - (1:Int)))) (iO,iO)) (gD x0.2.2 (tZ v242) (iO,iO)) r251 (of_g hg hr257)) an)))) fun a w h => ?_
     obtain ⟨v252,hv253,hF⟩:=of_bind hF
     replace h:=h.cast (S':=[(1,.val sh13 (some x0)),(8,.val iS (List.length x0.2.1:Int)),(9,.val iS v242),(192,.val .bool v252)]) (by cases hv253; kernel_rfl)
     refine zi h hF (fun hF => ?_) (fun hF => ?_)
     ·refine zs [2] h an fun a w h => ?_
      cases hF
      exact wp_ret (ret_okR tok h rfl (by kernel_rfl)).1
     ·refine wp_skip ?_
      refine zt [1,8,9] h an fun a w h => ?_
      exact ⟨(w64 (v242 + (1:Int))),hF,ar h [1,8,9]⟩
    ·refine wp_exit ?_
     refine zs [2] h an fun a w h => ?_
     cases hF
     exact wp_ret (ret_okR tok h rfl (by kernel_rfl)).1
def f122 (k:Nat) (x0:((List (Int × (Int × Int))) × ((List (Int × (Int × (Int × (Int × (Int × ByteArray)))))) × (List (Int × Int))))):Option ((List (Int × (Int × Int))) × ((List (Int × (Int × (Int × (Int × (Int × ByteArray)))))) × (List (Int × Int)))):=if ((List.length ([]:List (Int × (Int × Int)))+List.length x0.1)*24≤140737488355328) then (if ((List.length ([]:List (Int × (Int × (Int × (Int × (Int × ByteArray))))))+List.length x0.2.1)*56≤140737488355328) then (if ((List.length ([]:List (Int × Int))+List.length x0.2.2)*16≤140737488355328) then (some ((([]:List (Int × (Int × Int))) ++ x0.1),((([]:List (Int × (Int × (Int × (Int × (Int × ByteArray)))))) ++ x0.2.1),(([]:List (Int × Int)) ++ x0.2.2)))) else none) else none) else none
theorem c122 (k:Nat) (x0:tG) (r:tG) (hF:f122 k x0=some r):PCall Try.prog 122 [⟨sh14,x0⟩] [⟨sh11,r⟩]:=by
 refine pcall_intro Try.func122 rfl rfl (Nat.le_of_ble_eq_true rfl) ?_
 intro w0 Zi a w h
 rw [f122] at hF
 refine zs [1,2] h an fun a w h => ?_
 obtain ⟨hc1,hF⟩:=of_if hF
 obtain ⟨hc2,hF⟩:=of_if hF
 obtain ⟨hc3,hF⟩:=of_if hF
 refine wp_regy_seq tok (orc:=o0) (l:=[2]) ([],[(3,[3]),(7,[7])],[],[(4,[]),(5,[1]),(6,[1,8]),(8,[]),(9,[1]),(10,[1,12])]) 11 nw h (by kernel_rfl) (by kernel_rfl) (ac hc1 (ac hc2 (ac hc3 an))) fun a w h => ?_
 cases hF
 exact wp_ret (ret_okR tok h rfl (by kernel_rfl)).1
def f130.l16 (k:Nat) (x0:((List (Int × (Int × Int))) × ((List (Int × (Int × (Int × (Int × (Int × ByteArray)))))) × (List (Int × Int))))) (x1:Int):Nat → (Int × Int)→Option Int
 | 0,_ => none
 | m16+1,(v27,v28) => if (decide (v27 < v28)) then (if (((2:Int):Int)≠0) then (if (0 ≤ (IntKind.i64.wrap (Int.tdiv (IntKind.i64.wrap (v27+v28)) (2:Int))) ∧ (IntKind.i64.wrap (Int.tdiv (IntKind.i64.wrap (v27+v28)) (2:Int))) < (List.length x0.1:Int)) then (if (decide (((List.getD x0.1 (Int.toNat (IntKind.i64.wrap (Int.tdiv (IntKind.i64.wrap (v27+v28)) (2:Int)))) ((0:Int),((0:Int),(0:Int)))).1:Int) < x1)) then ((f130.l16 k x0 x1) m16 ((IntKind.i64.wrap ((IntKind.i64.wrap (Int.tdiv (IntKind.i64.wrap (v27+v28)) (2:Int))) + (1:Int))),v28)) else ((f130.l16 k x0 x1) m16 (v27,(IntKind.i64.wrap (Int.tdiv (IntKind.i64.wrap (v27+v28)) (2:Int)))))) else none) else none) else (if (((decide (v27 < (List.length x0.1:Int)))=true) → (0≤v27∧v27 < (List.length x0.1:Int))) then (if (bif (decide (v27 < (List.length x0.1:Int))) then (((List.getD x0.1 (Int.toNat v27) ((0:Int),((0:Int),(0:Int)))).1:Int) == x1) else false) then (some v27) else (some (-1:Int))) else none)
def f130 (k:Nat) (x0:((List (Int × (Int × Int))) × ((List (Int × (Int × (Int × (Int × (Int × ByteArray)))))) × (List (Int × Int))))) (x1:Int):Option Int:=f130.l16 k x0 x1 k ((0:Int),(List.length x0.1:Int))
theorem c130 (k:Nat) (x0:tG) (x1:Int) (r:Int) (hF:f130 k x0 x1=some r):PCall Try.prog 130 [⟨sh14,x0⟩,⟨iS,x1⟩] [⟨iS,r⟩]:=by
 refine pcall_intro Try.func130 rfl rfl (Nat.le_of_ble_eq_true rfl) ?_
 intro w0 Zi a w h
 rw [f130] at hF
 refine zs [1,2] h an fun a w h => ?_
 refine zs [1,2,5] h an fun a w h => ?_
 refine zs [1,2,5,6] h an fun a w h => ?_
 refine wp_seq <| wp_block ?_
 refine wp_loop_fuel (f130.l16 k x0 x1) (fun ((v27,v28):(Int × Int)) => [(1,.val iS x1),(2,.val sh13 (some x0)),(5,.val iS v27),(6,.val iS v28)]) (fun v h => by obtain ⟨v27,v28⟩:=v; rw [f130.l16] at h; cases h) ?_ hF (ar h [1,2,5,6])
 intro m16 v a w hF h
 obtain ⟨v27,v28⟩:=v
 rw [f130.l16] at hF
 refine wp_seq ?_
 refine zs [1,2,5,6,13] h an fun a w h => ?_
 refine zi h hF (fun hF => ?_) (fun hF => ?_)
 ·refine wp_skip ?_
  refine wp_block ?_
  obtain ⟨hc30,hF⟩:=of_if hF
  refine zs [1,2,5,6,7] h (ac hc30 an) fun a w h => ?_
  obtain ⟨hc29,hF⟩:=of_if hF
  refine zs [1,2,5,6,7,25] h (ac hc29 an) fun a w h => ?_
  refine zi h hF (fun hF => ?_) (fun hF => ?_)
  ·refine zt [1,2,5,6] h an fun a w h => ?_
   exact ⟨((w64 ((w64 (Int.tdiv (w64 (v27+v28)) (2:Int))) + (1:Int))),v28),hF,ar h [1,2,5,6]⟩
  ·refine zt [1,2,5,6] h an fun a w h => ?_
   exact ⟨(v27,(w64 (Int.tdiv (w64 (v27+v28)) (2:Int)))),hF,ar h [1,2,5,6]⟩
 ·refine wp_exit ?_
  refine wp_seq ?_
  obtain ⟨hc31,hF⟩:=of_if hF
  refine zs [5,43] h (ac hc31 an) fun a w h => ?_
  refine zi h hF (fun hF => ?_) (fun hF => ?_)
  ·refine zs [4] h an fun a w h => ?_
   cases hF
   exact wp_ret (ret_okR tok h rfl (by kernel_rfl)).1
  ·refine wp_skip ?_
   refine zs [4] h an fun a w h => ?_
   cases hF
   exact wp_ret (ret_okR tok h rfl (by kernel_rfl)).1
def f123.l22 (k:Nat) (x0:(List (Int × Int))) (x1:(Int × Int)):Nat → (Int × Int)→Option (List (Int × Int))
 | 0,_ => none
 | m22+1,(v37,v38) => if (decide (v37 < v38)) then (if (((2:Int):Int)≠0) then (if (0 ≤ (IntKind.i64.wrap (Int.tdiv (IntKind.i64.wrap (v37+v38)) (2:Int))) ∧ (IntKind.i64.wrap (Int.tdiv (IntKind.i64.wrap (v37+v38)) (2:Int))) < (List.length x0:Int)) then ((f151 k (List.getD x0 (Int.toNat (IntKind.i64.wrap (Int.tdiv (IntKind.i64.wrap (v37+v38)) (2:Int)))) ((0:Int),(0:Int))) x1).bind fun r39 => (if r39 then ((f123.l22 k x0 x1) m22 ((IntKind.i64.wrap ((IntKind.i64.wrap (Int.tdiv (IntKind.i64.wrap (v37+v38)) (2:Int))) + (1:Int))),v38)) else ((f123.l22 k x0 x1) m22 (v37,(IntKind.i64.wrap (Int.tdiv (IntKind.i64.wrap (v37+v38)) (2:Int))))))) else none) else none) else (if (((decide (v37 < (List.length x0:Int)))=true) → (0≤v37∧v37 < (List.length x0:Int))) then (if (bif (decide (v37 < (List.length x0:Int))) then (Sh.beq sh6 (List.getD x0 (Int.toNat v37) ((0:Int),(0:Int))) x1) else false) then (some x0) else (if (True ∧ ((0:Int)≤v37)∧0 ≤ (Int.toNat v37) ∧ (Int.toNat v37) ≤ (List.length x0)) then (if ((List.length ([]:List (Int × Int))+List.length (List.drop 0 (List.take (Int.toNat v37) x0)))*16≤140737488355328) then (if ((List.length (([]:List (Int × Int)) ++ (List.drop 0 (List.take (Int.toNat v37) x0)))+List.length [x1])*16≤140737488355328) then (if (((0:Int)≤v37)∧True ∧ (Int.toNat v37) ≤ (List.length x0) ∧ (List.length x0) ≤ (List.length x0)) then (if ((List.length ((([]:List (Int × Int)) ++ (List.drop 0 (List.take (Int.toNat v37) x0))) ++ [x1])+List.length (List.drop (Int.toNat v37) (List.take (List.length x0) x0)))*16≤140737488355328) then (some (((([]:List (Int × Int)) ++ (List.drop 0 (List.take (Int.toNat v37) x0))) ++ [x1]) ++ (List.drop (Int.toNat v37) (List.take (List.length x0) x0)))) else none) else none) else none) else none) else none)) else none)
def f123 (k:Nat) (x0:(List (Int × Int))) (x1:(Int × Int)):Option (List (Int × Int)):=f123.l22 k x0 x1 k ((0:Int),(List.length x0:Int))
theorem c123 (k:Nat) (x0:(List (Int × Int))) (x1:(Int × Int)) (r:(List (Int × Int))) (hF:f123 k x0 x1=some r):PAns Try.prog 123 [⟨sh10,x0⟩,⟨sh6,x1⟩] ⟨sh10,r⟩ 0:=by
 refine pans_intro (j:=0) (ins':=[⟨sh15,x0⟩,⟨sh6,x1⟩]) Try.func123 rfl rfl (Nat.le_of_ble_eq_true rfl) rfl (by kernel_rfl) (by kernel_rfl) (by kernel_rfl) ?_
 intro w0 Zi v0 a w h
 rw [f123] at hF
 refine zs [0,3] h an fun a w h => ?_
 refine zs [0,3,5] h an fun a w h => ?_
 refine zs [0,3,5,6] h an fun a w h => ?_
 refine wp_seq <| wp_block ?_
 refine wp_loop_fuel (f123.l22 k x0 x1) (fun ((v37,v38):(Int × Int)) => [(0,.val sh15 x0),(3,.val sh16 (some x1)),(5,.val iS v37),(6,.val iS v38)]) (fun v h => by obtain ⟨v37,v38⟩:=v; rw [f123.l22] at h; cases h) ?_ hF (ar h [0,3,5,6])
 intro m22 v a w hF h
 obtain ⟨v37,v38⟩:=v
 rw [f123.l22] at hF
 refine wp_seq ?_
 refine zs [0,3,5,6,12] h an fun a w h => ?_
 refine zi h hF (fun hF => ?_) (fun hF => ?_)
 ·refine wp_skip ?_
  refine wp_block ?_
  obtain ⟨hc42,hF⟩:=of_if hF
  refine zs [0,3,5,6,7] h (ac hc42 an) fun a w h => ?_
  obtain ⟨hc40,hF⟩:=of_if hF
  obtain ⟨r39,hr41,hF⟩:=of_bind hF
  refine wp_regy_seq tok (orc:=orcL [(22,[⟨.bool,r39⟩])]) (l:=[0,3,5,6,7,22]) ([],[],[],[]) 6 nw h (by kernel_rfl) (by kernel_rfl) (ac hc40 (ac (c151 k (gD x0 (tZ (w64 (Int.tdiv (w64 (v37+v38)) (2:Int)))) (iO,iO)) x1 r39 hr41) an)) fun a w h => ?_
  refine zi h hF (fun hF => ?_) (fun hF => ?_)
  ·refine zt [0,3,5,6] h an fun a w h => ?_
   exact ⟨((w64 ((w64 (Int.tdiv (w64 (v37+v38)) (2:Int))) + (1:Int))),v38),hF,ar h [0,3,5,6]⟩
  ·refine zt [0,3,5,6] h an fun a w h => ?_
   exact ⟨(v37,(w64 (Int.tdiv (w64 (v37+v38)) (2:Int)))),hF,ar h [0,3,5,6]⟩
 ·refine wp_exit ?_
  refine wp_seq ?_
  obtain ⟨hc48,hF⟩:=of_if hF
  refine wp_regy_seq tok (orc:=o0) (l:=[0,3,5,37]) ([],[],[],[]) 12 nw h (by kernel_rfl) (by kernel_rfl) (ac hc48 (ac (fun (_:((decide (v37 < (List.length x0:Int)))=true)) => (And.intro (show eqTy Try.prog 9 174 (.st (.pair iS iS))=true from by kernel_rfl) (show Try.prog.eqGuardType Try.prog.depth 174=false from by kernel_rfl))) an)) fun a w h => ?_
  refine zi h hF (fun hF => ?_) (fun hF => ?_)
  ·cases hF
   exact wp_retarg (fn:=Try.f123) (d:=4) (tv:=⟨sh10,x0⟩) (out:=⟨sh10,x0⟩) h (by kernel_rfl) (Nat.le_of_ble_eq_true rfl) (by intro x hx; exact (Option.some.inj hx).symm) rfl rfl rfl rfl (fun _ _ h => h)
  ·refine wp_skip ?_
   obtain ⟨hc43,hF⟩:=of_if hF
   obtain ⟨hc44,hF⟩:=of_if hF
   obtain ⟨hc45,hF⟩:=of_if hF
   obtain ⟨hc46,hF⟩:=of_if hF
   obtain ⟨hc47,hF⟩:=of_if hF
   refine wp_regy_seq tok (orc:=o0) (l:=[4]) ([],[(4,[39]),(7,[43])],[],[(5,[3]),(6,[44]),(8,[0]),(9,[5]),(10,[47,48])]) 11 nw h (by kernel_rfl) (by kernel_rfl) (ac hc43 (ac hc44 (ac hc45 (ac hc46 (ac hc47 an))))) fun a w h => ?_
   cases hF
   exact wp_ret (retA_ok tok h rfl (by kernel_rfl)).1
def f131.j482 (k:Nat) (v439:Int) (q263:(((List (Int × (Int × Int))) × ((List (Int × (Int × (Int × (Int × (Int × ByteArray)))))) × (List (Int × Int)))) × Int)→Option ((List (Int × (Int × Int))) × ((List (Int × (Int × (Int × (Int × (Int × ByteArray)))))) × (List (Int × Int))))):((List (Int × (Int × Int))) × ((List (Int × (Int × (Int × (Int × (Int × ByteArray)))))) × (List (Int × Int))))→Option ((List (Int × (Int × Int))) × ((List (Int × (Int × (Int × (Int × (Int × ByteArray)))))) × (List (Int × Int))))
 | v481 => q263 (v481,(IntKind.i64.wrap (v439 + (1:Int))))
def f131.j517 (k:Nat) (v511:Int) (q483:(((List (Int × (Int × Int))) × ((List (Int × (Int × (Int × (Int × (Int × ByteArray)))))) × (List (Int × Int)))) × Int)→Option ((List (Int × (Int × Int))) × ((List (Int × (Int × (Int × (Int × (Int × ByteArray)))))) × (List (Int × Int))))):((List (Int × (Int × Int))) × ((List (Int × (Int × (Int × (Int × (Int × ByteArray)))))) × (List (Int × Int))))→Option ((List (Int × (Int × Int))) × ((List (Int × (Int × (Int × (Int × (Int × ByteArray)))))) × (List (Int × Int))))
 | v516 => q483 (v516,(IntKind.i64.wrap (v511 + (1:Int))))
def f131.l483 (k:Nat) (x3:Int) (r1:Int) (v439:Int) (q482:((List (Int × (Int × Int))) × ((List (Int × (Int × (Int × (Int × (Int × ByteArray)))))) × (List (Int × Int))))→Option ((List (Int × (Int × Int))) × ((List (Int × (Int × (Int × (Int × (Int × ByteArray)))))) × (List (Int × Int))))):Nat → (((List (Int × (Int × Int))) × ((List (Int × (Int × (Int × (Int × (Int × ByteArray)))))) × (List (Int × Int)))) × Int)→Option ((List (Int × (Int × Int))) × ((List (Int × (Int × (Int × (Int × (Int × ByteArray)))))) × (List (Int × Int))))
 | 0,_ => none
 | m483+1,(v510,v511) => if (bif (decide (v511 < (List.length v510.2.1:Int))) then (decide (((List.length v510.2.2:Int):Int) ≤ (2000:Int))) else false) then (if (0≤v511∧v511 < (List.length v510.2.1:Int)) then (if (((((List.getD v510.2.1 (Int.toNat v511) ((0:Int),((0:Int),((0:Int),((0:Int),((0:Int),(⟨#[]⟩:ByteArray))))))).2.2.1:Int) == x3)=true) → (0≤v511∧v511 < (List.length v510.2.1:Int))) then (if (bif (((List.getD v510.2.1 (Int.toNat v511) ((0:Int),((0:Int),((0:Int),((0:Int),((0:Int),(⟨#[]⟩:ByteArray))))))).2.2.1:Int) == x3) then (((List.getD v510.2.1 (Int.toNat v511) ((0:Int),((0:Int),((0:Int),((0:Int),((0:Int),(⟨#[]⟩:ByteArray))))))).1:Int) == r1) else false) then ((f123 k v510.2.2 (v439,v511)).bind fun r518 => (f131.j517 k v511 ((f131.l483 k x3 r1 v439 q482) m483) (v510.1,(v510.2.1,r518)))) else (f131.j517 k v511 ((f131.l483 k x3 r1 v439 q482) m483) v510)) else none) else none) else (q482 v510)
def f131.l263 (k:Nat) (x1:Int) (r1:Int) (x3:Int):Nat → (((List (Int × (Int × Int))) × ((List (Int × (Int × (Int × (Int × (Int × ByteArray)))))) × (List (Int × Int)))) × Int)→Option ((List (Int × (Int × Int))) × ((List (Int × (Int × (Int × (Int × (Int × ByteArray)))))) × (List (Int × Int))))
 | 0,_ => none
 | m263+1,(v438,v439) => if (decide (v439 < (List.length v438.2.1:Int))) then (if (0≤v439∧v439 < (List.length v438.2.1:Int)) then (if (((((List.getD v438.2.1 (Int.toNat v439) ((0:Int),((0:Int),((0:Int),((0:Int),((0:Int),(⟨#[]⟩:ByteArray))))))).2.2.1:Int) != x1)=false) → (0≤v439∧v439 < (List.length v438.2.1:Int))) then (if (bif (((List.getD v438.2.1 (Int.toNat v439) ((0:Int),((0:Int),((0:Int),((0:Int),((0:Int),(⟨#[]⟩:ByteArray))))))).2.2.1:Int) != x1) then true else (((List.getD v438.2.1 (Int.toNat v439) ((0:Int),((0:Int),((0:Int),((0:Int),((0:Int),(⟨#[]⟩:ByteArray))))))).2.1:Int) != r1)) then (f131.j482 k v439 ((f131.l263 k x1 r1 x3) m263) v438) else (f131.l483 k x3 r1 v439 (f131.j482 k v439 ((f131.l263 k x1 r1 x3) m263)) k (v438,(0:Int)))) else none) else none) else (some v438)
def f131 (k:Nat) (x0:((List (Int × (Int × Int))) × ((List (Int × (Int × (Int × (Int × (Int × ByteArray)))))) × (List (Int × Int))))) (x1:Int) (x2:Int) (x3:Int):Option ((List (Int × (Int × Int))) × ((List (Int × (Int × (Int × (Int × (Int × ByteArray)))))) × (List (Int × Int)))):=(f130 k x0 x2).bind fun r1 => (f131.l263 k x1 r1 x3 k (x0,(0:Int)))
theorem c131 (k:Nat) (x0:tG) (x1:Int) (x2:Int) (x3:Int) (r:tG) (hF:f131 k x0 x1 x2 x3=some r):PCons Try.prog 131 [⟨sh11,x0⟩,⟨iS,x1⟩,⟨iS,x2⟩,⟨iS,x3⟩] [⟨sh11,r⟩]:=by
 refine pcons_intro (j:=0) Try.func131 rfl rfl (Nat.le_of_ble_eq_true rfl) (Nat.le_of_ble_eq_true rfl) (by kernel_rfl) ?_
 intro w0 Zi f0 a w h
 rw [f131] at hF
 refine wp_reg_seq tok (orc:=o0) (fz:=[]) (l:=[1,2,3,4,8]) (.inl rfl) h (by kernel_rfl) an fun a w h => ?_
 obtain ⟨r1,hr524,hF⟩:=of_bind hF
 refine wp_reg_seq tok (orc:=orcL [(14,[⟨iS,r1⟩])]) (fz:=[]) (l:=[1,3,4,8,9]) (.inl rfl) h (by kernel_rfl) (ac (c130 k x0 x2 r1 hr524) an) fun a w h => ?_
 refine wp_seq ?_
 refine wp_reg_seq tok (orc:=o0) (fz:=[]) (l:=[1,3,4,8,9,10]) (.inl rfl) h (by kernel_rfl) an fun a w h => ?_
 refine wp_block ?_
 refine wp_loop_fuel (f131.l263 k x1 r1 x3) (fun ((v438,v439):(tG × Int)) => [(1,.val iS x1),(3,.val iS x3),(4,.val sh17 (some v438)),(8,.val sh17 (some (([]:(List (Int × (Int × Int)))),(([]:(List (Int × (Int × (Int × (Int × (Int × ByteArray))))))),([]:(List (Int × Int))))))),(9,.val iS r1),(10,.val iS v439)]) (fun v h => by obtain ⟨v438,v439⟩:=v; rw [f131.l263] at h; cases h) ?_ hF (h.arrive (fz:=[]) (l:=[1,3,4,8,9,10]) (.inl rfl) (by kernel_rfl))
 intro m263 v a w hF h
 obtain ⟨v438,v439⟩:=v
 rw [f131.l263] at hF
 refine wp_seq ?_
 refine wp_reg_seq tok (orc:=o0) (fz:=[]) (l:=[1,3,4,8,9,10,19]) (.inl rfl) h (by kernel_rfl) an fun a w h => ?_
 refine zi h hF (fun hF => ?_) (fun hF => ?_)
 ·refine wp_skip ?_
  refine wp_mid (fun a w => ∃ v:tG,f131.j482 k v439 ((f131.l263 k x1 r1 x3) m263) v=some r∧Rel w0 f0 Zi Try.f131.ntmps ((fun (v481:tG) => ([(1,.val iS x1),(3,.val iS x3),(4,.val sh17 (some v481)),(8,.val sh17 (some (([]:(List (Int × (Int × Int)))),(([]:(List (Int × (Int × (Int × (Int × (Int × ByteArray))))))),([]:(List (Int × Int))))))),(9,.val iS r1),(10,.val iS v439)]:SS)) v) a w) ?_ ?_
  ·
   refine wp_block ?_
   refine wp_seq ?_
   obtain ⟨hc522,hF⟩:=of_if hF
   obtain ⟨hc523,hF⟩:=of_if hF
   refine wp_reg_seq tok (orc:=o0) (fz:=[]) (l:=[1,3,4,8,9,10,39]) (.inl rfl) h (by kernel_rfl) (ac hc522 (ac hc523 an)) fun a w h => ?_
   refine zi h hF (fun hF => ?_) (fun hF => ?_)
   ·refine wp_exit ?_
    exact ⟨v438,hF,h.arrive (fz:=[]) (l:=[1,3,4,8,9,10]) (.inl rfl) (by kernel_rfl)⟩
   ·refine wp_skip ?_
    refine wp_reg_seq tok (orc:=o0) (fz:=[]) (l:=[1,3,4,8,9,10,11]) (.inl rfl) h (by kernel_rfl) an fun a w h => ?_
    refine wp_block ?_
    refine wp_loop_fuel (f131.l483 k x3 r1 v439 (f131.j482 k v439 ((f131.l263 k x1 r1 x3) m263))) (fun ((v510,v511):(tG × Int)) => [(1,.val iS x1),(3,.val iS x3),(4,.val sh17 (some v510)),(8,.val sh17 (some (([]:(List (Int × (Int × Int)))),(([]:(List (Int × (Int × (Int × (Int × (Int × ByteArray))))))),([]:(List (Int × Int))))))),(9,.val iS r1),(10,.val iS v439),(11,.val iS v511)]) (fun v h => by obtain ⟨v510,v511⟩:=v; rw [f131.l483] at h; cases h) ?_ hF (h.arrive (fz:=[]) (l:=[1,3,4,8,9,10,11]) (.inl rfl) (by kernel_rfl))
    intro m483 v a w hF h
    obtain ⟨v510,v511⟩:=v
    rw [f131.l483] at hF
    refine wp_seq ?_
    refine wp_reg_seq tok (orc:=o0) (fz:=[]) (l:=[1,3,4,8,9,10,11,50]) (.inl rfl) h (by kernel_rfl) an fun a w h => ?_
    refine zi h hF (fun hF => ?_) (fun hF => ?_)
    ·refine wp_skip ?_
     refine wp_mid (fun a w => ∃ v:tG,f131.j517 k v511 ((f131.l483 k x3 r1 v439 (f131.j482 k v439 ((f131.l263 k x1 r1 x3) m263))) m483) v=some r∧Rel w0 f0 Zi Try.f131.ntmps ((fun (v516:tG) => ([(1,.val iS x1),(3,.val iS x3),(4,.val sh17 (some v516)),(8,.val sh17 (some (([]:(List (Int × (Int × Int)))),(([]:(List (Int × (Int × (Int × (Int × (Int × ByteArray))))))),([]:(List (Int × Int))))))),(9,.val iS r1),(10,.val iS v439),(11,.val iS v511)]:SS)) v) a w) ?_ ?_
     ·
      refine wp_block ?_
      obtain ⟨hc520,hF⟩:=of_if hF
      obtain ⟨hc521,hF⟩:=of_if hF
      refine wp_reg_seq tok (orc:=o0) (fz:=[]) (l:=[1,3,4,8,9,10,11,70]) (.inl rfl) h (by kernel_rfl) (ac hc520 (ac hc521 an)) fun a w h => ?_
      refine zi h hF (fun hF => ?_) (fun hF => ?_)
      ·obtain ⟨r518,hr519,hF⟩:=of_bind hF
       refine wp_seqX (sxA_ok tok (orc:=o0) (spA:=[(5,⟨sh10,r518⟩)]) (sp:=[])) h (by kernel_rfl) (ac (c123 k v510.2.2 (v439,v511) r518 hr519) (ac (show ([.der,.snd,.snd]:Path)=[.der,.snd,.snd] from rfl) an)) fun a w h => ?_
       exact ⟨(v510.1,(v510.2.1,r518)),hF,h.arrive (fz:=[]) (l:=[1,3,4,8,9,10,11]) (.inl rfl) (by kernel_rfl)⟩
      ·refine wp_skip ?_
       exact ⟨v510,hF,h.arrive (fz:=[]) (l:=[1,3,4,8,9,10,11]) (.inl rfl) (by kernel_rfl)⟩
     ·rintro a w ⟨v516,hF,h⟩
      rw [f131.j517] at hF
      refine wp_reg tok (orc:=o0) (fz:=[]) (l:=[1,3,4,8,9,10,11]) (.inl rfl) h (by kernel_rfl) an fun a w h => ?_
      exact ⟨(v516,(w64 (v511 + (1:Int)))),hF,h.arrive (fz:=[]) (l:=[1,3,4,8,9,10,11]) (.inl rfl) (by kernel_rfl)⟩
    ·refine wp_exit ?_
     exact ⟨v510,hF,h.arrive (fz:=[]) (l:=[1,3,4,8,9,10]) (.inl rfl) (by kernel_rfl)⟩
  ·rintro a w ⟨v481,hF,h⟩
   rw [f131.j482] at hF
   refine wp_reg tok (orc:=o0) (fz:=[]) (l:=[1,3,4,8,9,10]) (.inl rfl) h (by kernel_rfl) an fun a w h => ?_
   exact ⟨(v481,(w64 (v439 + (1:Int)))),hF,h.arrive (fz:=[]) (l:=[1,3,4,8,9,10]) (.inl rfl) (by kernel_rfl)⟩
 ·refine wp_exit ?_
  refine wp_reg_seq tok (orc:=o0) (fz:=[]) (l:=[8]) (.inl rfl) h (by kernel_rfl) an fun a w h => ?_
  cases hF
  exact wp_ret (retC_ok tok h rfl (by kernel_rfl)).1
def f66.j175 (k:Nat) (v160:Int) (q96:(((List (Int × (Int × Int))) × ((List (Int × (Int × (Int × (Int × (Int × ByteArray)))))) × (List (Int × Int)))) × Int)→Option ((List (Int × (Int × Int))) × ((List (Int × (Int × (Int × (Int × (Int × ByteArray)))))) × (List (Int × Int))))):((List (Int × (Int × Int))) × ((List (Int × (Int × (Int × (Int × (Int × ByteArray)))))) × (List (Int × Int))))→Option ((List (Int × (Int × Int))) × ((List (Int × (Int × (Int × (Int × (Int × ByteArray)))))) × (List (Int × Int))))
 | v174 => q96 (v174,(IntKind.i64.wrap (v160 + (1:Int))))
def f66.l96 (k:Nat) (x1:(List (List Int))):Nat → (((List (Int × (Int × Int))) × ((List (Int × (Int × (Int × (Int × (Int × ByteArray)))))) × (List (Int × Int)))) × Int)→Option ((List (Int × (Int × Int))) × ((List (Int × (Int × (Int × (Int × (Int × ByteArray)))))) × (List (Int × Int))))
 | 0,_ => none
 | m96+1,(v159,v160) => if (decide (v160 < (List.length x1:Int))) then (if (0≤v160∧v160 < (List.length x1:Int)) then (if (((((List.length (List.getD x1 (Int.toNat v160) ([]:(List Int))):Int):Int) == (3:Int))=true) → (0≤v160∧v160 < (List.length x1:Int))) then (if (((((List.length (List.getD x1 (Int.toNat v160) ([]:(List Int))):Int):Int) == (3:Int))=true) → (0 ≤ (1:Int) ∧ (1:Int) < (List.length (List.getD x1 (Int.toNat v160) ([]:(List Int))):Int))) then ((if ((((List.length (List.getD x1 (Int.toNat v160) ([]:(List Int))):Int):Int) == (3:Int))=true) then f130 k v159 (List.getD (List.getD x1 (Int.toNat v160) ([]:(List Int))) (Int.toNat (1:Int)) (0:Int)) else some default).bind fun r176 => (if (bif (((List.length (List.getD x1 (Int.toNat v160) ([]:(List Int))):Int):Int) == (3:Int)) then (decide (r176 ≥ (0:Int))) else false) then (if (0≤v160∧v160 < (List.length x1:Int)) then (if (0 ≤ (0:Int) ∧ (0:Int) < (List.length (List.getD x1 (Int.toNat v160) ([]:(List Int))):Int)) then (if (0≤v160∧v160 < (List.length x1:Int)) then (if (0 ≤ (1:Int) ∧ (1:Int) < (List.length (List.getD x1 (Int.toNat v160) ([]:(List Int))):Int)) then (if (0≤v160∧v160 < (List.length x1:Int)) then (if (0 ≤ (2:Int) ∧ (2:Int) < (List.length (List.getD x1 (Int.toNat v160) ([]:(List Int))):Int)) then ((f131 k v159 (List.getD (List.getD x1 (Int.toNat v160) ([]:(List Int))) (Int.toNat (0:Int)) (0:Int)) (List.getD (List.getD x1 (Int.toNat v160) ([]:(List Int))) (Int.toNat (1:Int)) (0:Int)) (List.getD (List.getD x1 (Int.toNat v160) ([]:(List Int))) (Int.toNat (2:Int)) (0:Int))).bind fun r177 => (f66.j175 k v160 ((f66.l96 k x1) m96) r177)) else none) else none) else none) else none) else none) else none) else (f66.j175 k v160 ((f66.l96 k x1) m96) v159))) else none) else none) else none) else (if (decide (((List.length v159.2.2:Int):Int) > (2000:Int))) then (some (([]:(List (Int × (Int × Int)))),(([]:(List (Int × (Int × (Int × (Int × (Int × ByteArray))))))),([]:(List (Int × Int)))))) else (some v159))
def f66 (k:Nat) (x0:((List (Int × (Int × Int))) × ((List (Int × (Int × (Int × (Int × (Int × ByteArray)))))) × (List (Int × Int))))) (x1:(List (List Int))):Option ((List (Int × (Int × Int))) × ((List (Int × (Int × (Int × (Int × (Int × ByteArray)))))) × (List (Int × Int)))):=(f86 k x0).bind fun r1 => (if (bif (!r1) then true else (decide (((List.length x1:Int):Int) > (2000:Int)))) then (some (([]:(List (Int × (Int × Int)))),(([]:(List (Int × (Int × (Int × (Int × (Int × ByteArray))))))),([]:(List (Int × Int)))))) else ((f122 k x0).bind fun r2 => (f66.l96 k x1 k (r2,(0:Int)))))
theorem c66 (k:Nat) (x0:tG) (x1:(List (List Int))) (r:tG) (hF:f66 k x0 x1=some r):PCall Try.prog 66 [⟨sh14,x0⟩,⟨sh5,x1⟩] [⟨sh11,r⟩]:=by
 refine pcall_intro Try.func66 rfl rfl (Nat.le_of_ble_eq_true rfl) ?_
 intro w0 Zi a w h
 rw [f66] at hF
 refine zs [1,2,4] h an fun a w h => ?_
 refine wp_seq ?_
 obtain ⟨r1,hr190,hF⟩:=of_bind hF
 refine zc (orcL [(8,[⟨.bool,r1⟩])]) [1,2,4,14] h (ac (c86 k x0 r1 hr190) an) fun a w h => ?_
 refine zi h hF (fun hF => ?_) (fun hF => ?_)
 ·refine zs [4] h an fun a w h => ?_
  cases hF
  exact wp_ret (ret_okR tok h rfl (by kernel_rfl)).1
 ·refine wp_skip ?_
  obtain ⟨r2,hr189,hF⟩:=of_bind hF
  refine zc (orcL [(17,[⟨sh11,r2⟩])]) [1,4,5] h (ac (c122 k x0 r2 hr189) an) fun a w h => ?_
  refine wp_seq ?_
  refine zs [1,4,5,6] h an fun a w h => ?_
  refine wp_block ?_
  refine wp_loop_fuel (f66.l96 k x1) (fun ((v159,v160):(tG × Int)) => [(1,.val sh5 x1),(4,.val sh17 (some (([]:(List (Int × (Int × Int)))),(([]:(List (Int × (Int × (Int × (Int × (Int × ByteArray))))))),([]:(List (Int × Int))))))),(5,.val sh17 (some v159)),(6,.val iS v160)]) (fun v h => by obtain ⟨v159,v160⟩:=v; rw [f66.l96] at h; cases h) ?_ hF (ar h [1,4,5,6])
  intro m96 v a w hF h
  obtain ⟨v159,v160⟩:=v
  rw [f66.l96] at hF
  refine wp_seq ?_
  refine zs [1,4,5,6,21] h an fun a w h => ?_
  refine zi h hF (fun hF => ?_) (fun hF => ?_)
  ·refine wp_skip ?_
   refine wp_mid (fun a w => ∃ v:tG,f66.j175 k v160 ((f66.l96 k x1) m96) v=some r∧Rel w0 (fun _ => False) Zi Try.f66.ntmps ((fun (v174:tG) => ([(1,.val sh5 x1),(4,.val sh17 (some (([]:(List (Int × (Int × Int)))),(([]:(List (Int × (Int × (Int × (Int × (Int × ByteArray))))))),([]:(List (Int × Int))))))),(5,.val sh17 (some v174)),(6,.val iS v160)]:SS)) v) a w) ?_ ?_
   ·
    refine wp_block ?_
    obtain ⟨hc185,hF⟩:=of_if hF
    obtain ⟨hc186,hF⟩:=of_if hF
    obtain ⟨hc187,hF⟩:=of_if hF
    obtain ⟨r176,hr188,hF⟩:=of_bind hF
    refine wp_regy_seq tok (orc:=orcL [(38,[⟨iS,r176⟩])]) (l:=[1,4,5,6,40]) ([],[],[],[]) 17 nw h (by kernel_rfl) (by kernel_rfl) (ac hc185 (ac hc186 (ac hc187 (ac (fun (hg:((((List.length (gD x1 (tZ v160) lO):Int):Int) == (3:Int))=true)) => c130 k v159 (gD (gD x1 (tZ v160) lO) (tZ (1:Int)) iO) r176 (of_g hg hr188)) an)))) fun a w h => ?_
    refine zi h hF (fun hF => ?_) (fun hF => ?_)
    ·obtain ⟨hc178,hF⟩:=of_if hF
     obtain ⟨hc179,hF⟩:=of_if hF
     obtain ⟨hc180,hF⟩:=of_if hF
     obtain ⟨hc181,hF⟩:=of_if hF
     obtain ⟨hc182,hF⟩:=of_if hF
     obtain ⟨hc183,hF⟩:=of_if hF
     obtain ⟨r177,hr184,hF⟩:=of_bind hF
     refine wp_regX (sxA_ok tok (orc:=orcL [(60,[⟨.pt false 4294967294 .unit,some ()⟩,⟨sh11,r177⟩])]) (spA:=[]) (sp:=[(19,.part [⟨sh11,r177⟩])])) [((1,.val sh5 x1),none,none),((4,.val sh17 (some (([]:(List (Int × (Int × Int)))),(([]:(List (Int × (Int × (Int × (Int × (Int × ByteArray))))))),([]:(List (Int × Int))))))),none,none),((5,.val sh17 (some v159)),none,some 19),((5,.val sh18 (some ((),((),())))),some 19,some 20),((5,.val sh17 (some r177)),some 20,none),((6,.val iS v160),none,none),((40,.val .bool (bif (((List.length (gD x1 (tZ v160) lO):Int):Int) == (3:Int)) then (decide (r176 ≥ iO)) else false)),none,some 20),((41,.copy 5 [.der]),some 0,some 19),((42,.val sh5 x1),some 1,some 20),((43,.val iS v160),some 2,some 20),((44,.val sh19 (some (gD x1 (tZ v160) lO))),some 3,some 20),((45,.val (.sl false 2 iS) (gD x1 (tZ v160) lO)),some 4,some 20),((46,.val (.pt false 0 iS) (some (gD (gD x1 (tZ v160) lO) (tZ iO) iO))),some 5,some 20),((47,.val iS (gD (gD x1 (tZ v160) lO) (tZ iO) iO)),some 6,some 20),((48,.val sh5 x1),some 7,some 20),((49,.val iS v160),some 8,some 20),((50,.val sh19 (some (gD x1 (tZ v160) lO))),some 9,some 20),((51,.val (.sl false 2 iS) (gD x1 (tZ v160) lO)),some 10,some 20),((52,.val (.pt false 0 iS) (some (gD (gD x1 (tZ v160) lO) (tZ (1:Int)) iO))),some 11,some 20),((53,.val iS (gD (gD x1 (tZ v160) lO) (tZ (1:Int)) iO)),some 12,some 20),((54,.val sh5 x1),some 13,some 20),((55,.val iS v160),some 14,some 20),((56,.val sh19 (some (gD x1 (tZ v160) lO))),some 15,some 20),((57,.val (.sl false 2 iS) (gD x1 (tZ v160) lO)),some 16,some 20),((58,.val (.pt false 0 iS) (some (gD (gD x1 (tZ v160) lO) (tZ (2:Int)) iO))),some 17,some 20),((59,.val iS (gD (gD x1 (tZ v160) lO) (tZ (2:Int)) iO)),some 18,some 20),((60,.val sh11 r177),some 19,some 20)] [] [0,2,6,134,390,8582,24966,24967,24974,25478,57734,24975,25479,57735,24990,25486,57742,26502,58246,123270,24991,25487,57743,26503,58247,123271,25022,25502,57758,26510,58254,123278,28550,59270,123782,254342,25023,25503,57759,26511,58255,123279,28551,59271,123783,254343,25086,25534,57790,26526,58270,123294,28558,59278,123790,254350,32646,61318,124806,254854,516486,25087,25535,57791,26527,58271,123295,28559,59279,123791,254351,32647,61319,124807,254855,516487,25598,57854,26558,58302,123326,28574,59294,123806,254366,32654,61326,124814,254862,516494,65414,126854,255878,516998,25599,57855,26559,58303,123327,28575,59295,123807,254367,32655,61327,124815,254863,516495,65415,126855,255879,516999,26622,58366,123390,28606,59326,123838,254398,32670,61342,124830,254878,516510,65422,126862,255886,517006,130950,257926,518022,26623,58367,123391,28607,59327,123839,254399,32671,61343,124831,254879,516511,65423,126863,255887,517007,130951,257927,518023,28670,59390,123902,254462,32702,61374,124862,254910,516542,65438,126878,255902,517022,130958,257934,518030,262022,520070,28671,59391,123903,254463,32703,61375,124863,254911,516543,65439,126879,255903,517023,130959,257935,518031,262023,520071,32766,61438,124926,254974,516606,65470,126910,255934,517054,130974,257950,518046,262030,520078,524166,32767,61439,124927,254975,516607,65471,126911,255935,517055,130975,257951,518047,262031,520079,524167,65534,126974,255998,517118,131006,257982,518078,262046,520094,524174,65535,126975,255999,517119,131007,257983,518079,262047,520095,524175,131070,258046,518142,262078,520126,524190,131071,258047,518143,262079,520127,524191,262142,520190,524222,262143,520191,524223,524286,524287,1048575,2097151] 2097151 [(3,0,1),(5,1,1),(9,2,1),(11,3,1),(15,4,1),(17,5,1),(19,6,1)] h (by kernel_rfl) (by kernel_rfl) (by kernel_rfl) (ac hc178 (ac hc179 (ac hc180 (ac hc181 (ac hc182 (ac hc183 (ac (c131 k v159 (gD (gD x1 (tZ v160) lO) (tZ iO) iO) (gD (gD x1 (tZ v160) lO) (tZ (1:Int)) iO) (gD (gD x1 (tZ v160) lO) (tZ (2:Int)) iO) r177 hr184) an))))))) (fun _ _ _ _ _ h => h) fun a w h => ?_
     exact ⟨r177,hF,ar h [1,4,5,6]⟩
    ·refine wp_skip ?_
     exact ⟨v159,hF,ar h [1,4,5,6]⟩
   ·rintro a w ⟨v174,hF,h⟩
    rw [f66.j175] at hF
    refine zt [1,4,5,6] h an fun a w h => ?_
    exact ⟨(v174,(w64 (v160 + (1:Int)))),hF,ar h [1,4,5,6]⟩
  ·refine wp_exit ?_
   refine wp_seq ?_
   refine zs [4,5,64] h an fun a w h => ?_
   refine zi h hF (fun hF => ?_) (fun hF => ?_)
   ·refine zs [4] h an fun a w h => ?_
    cases hF
    exact wp_ret (ret_okR tok h rfl (by kernel_rfl)).1
   ·refine wp_skip ?_
    refine zs [4] h an fun a w h => ?_
    cases hF
    exact wp_ret (ret_okR tok h rfl (by kernel_rfl)).1
def f146 (k:Nat) (x0:Int):Option Bool:=some (bif (decide (x0 ≥ (1:Int))) then (decide (x0 ≤ (1000000000:Int))) else false)
theorem c146 (k:Nat) (x0:Int) (r:Bool) (hF:f146 k x0=some r):PCall Try.prog 146 [⟨iS,x0⟩] [⟨.bool,r⟩]:=by
 refine pcall_intro Try.func146 rfl rfl (Nat.le_of_ble_eq_true rfl) ?_
 intro w0 Zi a w h
 rw [f146] at hF
 refine zs [0] h an fun a w h => ?_
 refine zs [2] h an fun a w h => ?_
 cases hF
 exact wp_ret (ret_okR tok h rfl (by kernel_rfl)).1
def f147 (k:Nat) (x0:(Int × Int)):Option Bool:=some (bif (bif (bif (decide (x0.1 ≥ (-10000000:Int))) then (decide (x0.1 ≤ (10000000:Int))) else false) then (decide (x0.2 ≥ (-10000000:Int))) else false) then (decide (x0.2 ≤ (10000000:Int))) else false)
theorem c147 (k:Nat) (x0:(Int × Int)) (r:Bool) (hF:f147 k x0=some r):PCall Try.prog 147 [⟨sh6,x0⟩] [⟨.bool,r⟩]:=by
 refine pcall_intro Try.func147 rfl rfl (Nat.le_of_ble_eq_true rfl) ?_
 intro w0 Zi a w h
 rw [f147] at hF
 refine zs [1] h an fun a w h => ?_
 refine zs [2] h an fun a w h => ?_
 cases hF
 exact wp_ret (ret_okR tok h rfl (by kernel_rfl)).1
def f92.j256 (k:Nat) (v247:Int) (q209:Int→Option Bool):Unit→Option Bool
 | _ => q209 (IntKind.i64.wrap (v247 + (1:Int)))
def f92.l209 (k:Nat) (x0:((List (Int × (Int × Int))) × ((List (Int × (Int × (Int × (Int × (Int × ByteArray)))))) × (List (Int × Int))))):Nat→Int→Option Bool
 | 0,_ => none
 | m209+1,v247 => if (decide (v247 < (List.length x0.2.2:Int))) then (if (0≤v247∧v247 < (List.length x0.2.2:Int)) then (if (((bif (bif (bif (decide (((List.getD x0.2.2 (Int.toNat v247) ((0:Int),(0:Int))).1:Int) < (0:Int))) then true else (decide (((List.getD x0.2.2 (Int.toNat v247) ((0:Int),(0:Int))).1:Int) ≥ (List.length x0.2.1:Int)))) then true else (decide (((List.getD x0.2.2 (Int.toNat v247) ((0:Int),(0:Int))).2:Int) < (0:Int)))) then true else (decide (((List.getD x0.2.2 (Int.toNat v247) ((0:Int),(0:Int))).2:Int) ≥ (List.length x0.2.1:Int))))=false) → (0 ≤ (List.getD x0.2.2 (Int.toNat v247) ((0:Int),(0:Int))).1 ∧ (List.getD x0.2.2 (Int.toNat v247) ((0:Int),(0:Int))).1 < (List.length x0.2.1:Int))) then (if (((bif (bif (bif (decide (((List.getD x0.2.2 (Int.toNat v247) ((0:Int),(0:Int))).1:Int) < (0:Int))) then true else (decide (((List.getD x0.2.2 (Int.toNat v247) ((0:Int),(0:Int))).1:Int) ≥ (List.length x0.2.1:Int)))) then true else (decide (((List.getD x0.2.2 (Int.toNat v247) ((0:Int),(0:Int))).2:Int) < (0:Int)))) then true else (decide (((List.getD x0.2.2 (Int.toNat v247) ((0:Int),(0:Int))).2:Int) ≥ (List.length x0.2.1:Int))))=false) → (0 ≤ (List.getD x0.2.2 (Int.toNat v247) ((0:Int),(0:Int))).2 ∧ (List.getD x0.2.2 (Int.toNat v247) ((0:Int),(0:Int))).2 < (List.length x0.2.1:Int))) then ((some ((bif (bif (bif (bif (decide (((List.getD x0.2.2 (Int.toNat v247) ((0:Int),(0:Int))).1:Int) < (0:Int))) then true else (decide (((List.getD x0.2.2 (Int.toNat v247) ((0:Int),(0:Int))).1:Int) ≥ (List.length x0.2.1:Int)))) then true else (decide (((List.getD x0.2.2 (Int.toNat v247) ((0:Int),(0:Int))).2:Int) < (0:Int)))) then true else (decide (((List.getD x0.2.2 (Int.toNat v247) ((0:Int),(0:Int))).2:Int) ≥ (List.length x0.2.1:Int)))) then true else (((List.getD x0.2.1 (Int.toNat (List.getD x0.2.2 (Int.toNat v247) ((0:Int),(0:Int))).1) ((0:Int),((0:Int),((0:Int),((0:Int),((0:Int),(⟨#[]⟩:ByteArray))))))).2.1:Int) != (List.getD x0.2.1 (Int.toNat (List.getD x0.2.2 (Int.toNat v247) ((0:Int),(0:Int))).2) ((0:Int),((0:Int),((0:Int),((0:Int),((0:Int),(⟨#[]⟩:ByteArray))))))).1)):Bool)).bind fun v257 => (if v257 then (some false) else (if (decide (v247 > (0:Int))) then (if (0 ≤ (IntKind.i64.wrap (v247 - (1:Int))) ∧ (IntKind.i64.wrap (v247 - (1:Int))) < (List.length x0.2.2:Int)) then ((some ((bif (decide (((List.getD x0.2.2 (Int.toNat (IntKind.i64.wrap (v247 - (1:Int)))) ((0:Int),(0:Int))).1:Int) > (List.getD x0.2.2 (Int.toNat v247) ((0:Int),(0:Int))).1)) then true else (bif (((List.getD x0.2.2 (Int.toNat (IntKind.i64.wrap (v247 - (1:Int)))) ((0:Int),(0:Int))).1:Int) == (List.getD x0.2.2 (Int.toNat v247) ((0:Int),(0:Int))).1) then (decide (((List.getD x0.2.2 (Int.toNat (IntKind.i64.wrap (v247 - (1:Int)))) ((0:Int),(0:Int))).2:Int) ≥ (List.getD x0.2.2 (Int.toNat v247) ((0:Int),(0:Int))).2)) else false)):Bool)).bind fun v258 => (if v258 then (some false) else (f92.j256 k v247 ((f92.l209 k x0) m209) ()))) else none) else (f92.j256 k v247 ((f92.l209 k x0) m209) ())))) else none) else none) else none) else (some true)
def f92.l118 (k:Nat) (x0:((List (Int × (Int × Int))) × ((List (Int × (Int × (Int × (Int × (Int × ByteArray)))))) × (List (Int × Int))))):Nat→Int→Option Bool
 | 0,_ => none
 | m118+1,v142 => if (decide (v142 < (List.length x0.2.1:Int))) then (if (0≤v142∧v142 < (List.length x0.2.1:Int)) then ((if ((bif (bif (bif (decide (((List.getD x0.2.1 (Int.toNat v142) ((0:Int),((0:Int),((0:Int),((0:Int),((0:Int),(⟨#[]⟩:ByteArray))))))).1:Int) < (0:Int))) then true else (decide (((List.getD x0.2.1 (Int.toNat v142) ((0:Int),((0:Int),((0:Int),((0:Int),((0:Int),(⟨#[]⟩:ByteArray))))))).1:Int) ≥ (List.length x0.1:Int)))) then true else (decide (((List.getD x0.2.1 (Int.toNat v142) ((0:Int),((0:Int),((0:Int),((0:Int),((0:Int),(⟨#[]⟩:ByteArray))))))).2.1:Int) < (0:Int)))) then true else (decide (((List.getD x0.2.1 (Int.toNat v142) ((0:Int),((0:Int),((0:Int),((0:Int),((0:Int),(⟨#[]⟩:ByteArray))))))).2.1:Int) ≥ (List.length x0.1:Int))))=false) then f146 k (List.getD x0.2.1 (Int.toNat v142) ((0:Int),((0:Int),((0:Int),((0:Int),((0:Int),(⟨#[]⟩:ByteArray))))))).2.2.1 else some default).bind fun r148 => ((some ((bif (bif (bif (bif (bif (bif (bif (bif (decide (((List.getD x0.2.1 (Int.toNat v142) ((0:Int),((0:Int),((0:Int),((0:Int),((0:Int),(⟨#[]⟩:ByteArray))))))).1:Int) < (0:Int))) then true else (decide (((List.getD x0.2.1 (Int.toNat v142) ((0:Int),((0:Int),((0:Int),((0:Int),((0:Int),(⟨#[]⟩:ByteArray))))))).1:Int) ≥ (List.length x0.1:Int)))) then true else (decide (((List.getD x0.2.1 (Int.toNat v142) ((0:Int),((0:Int),((0:Int),((0:Int),((0:Int),(⟨#[]⟩:ByteArray))))))).2.1:Int) < (0:Int)))) then true else (decide (((List.getD x0.2.1 (Int.toNat v142) ((0:Int),((0:Int),((0:Int),((0:Int),((0:Int),(⟨#[]⟩:ByteArray))))))).2.1:Int) ≥ (List.length x0.1:Int)))) then true else (!r148)) then true else (decide (((List.getD x0.2.1 (Int.toNat v142) ((0:Int),((0:Int),((0:Int),((0:Int),((0:Int),(⟨#[]⟩:ByteArray))))))).2.2.2.1:Int) < (1:Int)))) then true else (decide (((List.getD x0.2.1 (Int.toNat v142) ((0:Int),((0:Int),((0:Int),((0:Int),((0:Int),(⟨#[]⟩:ByteArray))))))).2.2.2.1:Int) > (1000000:Int)))) then true else (decide (((List.getD x0.2.1 (Int.toNat v142) ((0:Int),((0:Int),((0:Int),((0:Int),((0:Int),(⟨#[]⟩:ByteArray))))))).2.2.2.2.1:Int) < (0:Int)))) then true else (decide (((List.getD x0.2.1 (Int.toNat v142) ((0:Int),((0:Int),((0:Int),((0:Int),((0:Int),(⟨#[]⟩:ByteArray))))))).2.2.2.2.1:Int) > (1000000000:Int)))):Bool)).bind fun v149 => (if v149 then (some false) else ((f92.l118 k x0) m118 (IntKind.i64.wrap (v142 + (1:Int))))))) else none) else (f92.l209 k x0 k (0:Int))
def f92.l42 (k:Nat) (x0:((List (Int × (Int × Int))) × ((List (Int × (Int × (Int × (Int × (Int × ByteArray)))))) × (List (Int × Int))))):Nat→Int→Option Bool
 | 0,_ => none
 | m42+1,v70 => if (decide (v70 < (List.length x0.1:Int))) then (if (0≤v70∧v70 < (List.length x0.1:Int)) then ((f146 k (List.getD x0.1 (Int.toNat v70) ((0:Int),((0:Int),(0:Int)))).1).bind fun r77 => ((if ((!r77)=false) then f147 k (List.getD x0.1 (Int.toNat v70) ((0:Int),((0:Int),(0:Int)))).2 else some default).bind fun r78 => (if ((((bif (!r77) then true else (!r78))=false) ∧ ((decide (v70 > (0:Int)))=true)) → (0 ≤ (IntKind.i64.wrap (v70 - (1:Int))) ∧ (IntKind.i64.wrap (v70 - (1:Int))) < (List.length x0.1:Int))) then (if (bif (bif (!r77) then true else (!r78)) then true else (bif (decide (v70 > (0:Int))) then (decide (((List.getD x0.1 (Int.toNat (IntKind.i64.wrap (v70 - (1:Int)))) ((0:Int),((0:Int),(0:Int)))).1:Int) ≥ (List.getD x0.1 (Int.toNat v70) ((0:Int),((0:Int),(0:Int)))).1)) else false)) then (some false) else ((f92.l42 k x0) m42 (IntKind.i64.wrap (v70 + (1:Int))))) else none))) else none) else (f92.l118 k x0 k (0:Int))
def f92 (k:Nat) (x0:((List (Int × (Int × Int))) × ((List (Int × (Int × (Int × (Int × (Int × ByteArray)))))) × (List (Int × Int))))):Option Bool:=if (bif (bif (decide (((List.length x0.1:Int):Int) > (5000:Int))) then true else (decide (((List.length x0.2.1:Int):Int) > (8000:Int)))) then true else (decide (((List.length x0.2.2:Int):Int) > (2000:Int)))) then (some false) else (f92.l42 k x0 k (0:Int))
theorem c92 (k:Nat) (x0:tG) (r:Bool) (hF:f92 k x0=some r):PCall Try.prog 92 [⟨sh14,x0⟩] [⟨.bool,r⟩]:=by
 refine pcall_intro Try.func92 rfl rfl (Nat.le_of_ble_eq_true rfl) ?_
 intro w0 Zi a w h
 rw [f92] at hF
 refine zs [1] h an fun a w h => ?_
 refine wp_seq ?_
 refine zs [1,27] h an fun a w h => ?_
 refine zi h hF (fun hF => ?_) (fun hF => ?_)
 ·refine zs [2] h an fun a w h => ?_
  cases hF
  exact wp_ret (ret_okR tok h rfl (by kernel_rfl)).1
 ·refine wp_skip ?_
  refine wp_seq ?_
  refine zs [1,29,30,31] h an fun a w h => ?_
  refine wp_block ?_
  refine wp_loop_fuel (f92.l42 k x0) (fun v70 => [(1,.val sh13 (some x0)),(29,.val sh20 x0.1),(30,.val iS (List.length x0.1:Int)),(31,.val iS v70)]) (fun v h => by rw [f92.l42] at h; cases h) ?_ hF (ar h [1,29,30,31])
  intro m42 v70 a w hF h
  rw [f92.l42] at hF
  refine zs [1,29,30,31,32] h an fun a w h => ?_
  refine wp_seq <| zi h hF (fun hF => ?_) (fun hF => ?_)
  ·refine wp_skip ?_
   refine wp_seq <| wp_block ?_
   obtain ⟨hc82,hF⟩:=of_if hF
   refine zs [1,3,4,29,30,31] h (ac hc82 an) fun a w h => ?_
   obtain ⟨r77,hr79,hF⟩:=of_bind hF
   obtain ⟨r78,hr80,hF⟩:=of_bind hF
   obtain ⟨hc81,hF⟩:=of_if hF
   refine wp_regy_seq tok (orc:=orcL [(38,[⟨.bool,r77⟩]),(43,[⟨.bool,r78⟩])]) (l:=[1,29,30,31,61]) ([],[],[],[]) 26 nw h (by kernel_rfl) (by kernel_rfl) (ac (c146 k (gD x0.1 (tZ v70) (iO,(iO,iO))).1 r77 hr79) (ac (fun (hg:((!r77)=false)) => c147 k (gD x0.1 (tZ v70) (iO,(iO,iO))).2 r78 (of_g hg hr80)) (ac hc81 an))) fun a w h => ?_
   refine zi h hF (fun hF => ?_) (fun hF => ?_)
   ·refine zs [2] h an fun a w h => ?_
    cases hF
    exact wp_ret (ret_okR tok h rfl (by kernel_rfl)).1
   ·refine wp_skip ?_
    refine zt [1,29,30,31] h an fun a w h => ?_
    exact ⟨(w64 (v70 + (1:Int))),hF,ar h [1,29,30,31]⟩
  ·refine wp_exit ?_
   refine zs [1,5] h an fun a w h => ?_
   refine wp_seq ?_
   refine zs [1,5,67,68,69] h an fun a w h => ?_
   refine wp_block ?_
   refine wp_loop_fuel (f92.l118 k x0) (fun v142 => [(1,.val sh13 (some x0)),(5,.val iS (List.length x0.1:Int)),(67,.val sh21 x0.2.1),(68,.val iS (List.length x0.2.1:Int)),(69,.val iS v142)]) (fun v h => by rw [f92.l118] at h; cases h) ?_ hF (ar h [1,5,67,68,69])
   intro m118 v142 a w hF h
   rw [f92.l118] at hF
   refine zs [1,5,67,68,69,70] h an fun a w h => ?_
   refine wp_seq <| zi h hF (fun hF => ?_) (fun hF => ?_)
   ·refine wp_skip ?_
    refine wp_seq <| wp_block ?_
    obtain ⟨hc152,hF⟩:=of_if hF
    refine zs [1,5,7,67,68,69] h (ac hc152 an) fun a w h => ?_
    obtain ⟨r148,hr151,hF⟩:=of_bind hF
    refine zc (orcL [(96,[⟨.bool,r148⟩])]) [1,5,67,68,69,118] h (ac (fun (hg:((bif (bif (bif (decide (((gD x0.2.1 (tZ v142) zR).1:Int) < iO)) then true else (decide (((gD x0.2.1 (tZ v142) zR).1:Int) ≥ (List.length x0.1:Int)))) then true else (decide (((gD x0.2.1 (tZ v142) zR).2.1:Int) < iO))) then true else (decide (((gD x0.2.1 (tZ v142) zR).2.1:Int) ≥ (List.length x0.1:Int))))=false)) => c146 k (gD x0.2.1 (tZ v142) zR).2.2.1 r148 (of_g hg hr151)) an) fun a w h => ?_
    obtain ⟨v149,hv150,hF⟩:=of_bind hF
    replace h:=h.cast (S':=[(1,.val sh13 (some x0)),(5,.val iS (List.length x0.1:Int)),(67,.val sh21 x0.2.1),(68,.val iS (List.length x0.2.1:Int)),(69,.val iS v142),(118,.val .bool v149)]) (by cases hv150; kernel_rfl)
    refine zi h hF (fun hF => ?_) (fun hF => ?_)
    ·refine zs [2] h an fun a w h => ?_
     cases hF
     exact wp_ret (ret_okR tok h rfl (by kernel_rfl)).1
    ·refine wp_skip ?_
     refine zt [1,5,67,68,69] h an fun a w h => ?_
     exact ⟨(w64 (v142 + (1:Int))),hF,ar h [1,5,67,68,69]⟩
   ·refine wp_exit ?_
    refine zs [1,8] h an fun a w h => ?_
    refine wp_seq ?_
    refine zs [1,8,124,125,126] h an fun a w h => ?_
    refine wp_block ?_
    refine wp_loop_fuel (f92.l209 k x0) (fun v247 => [(1,.val sh13 (some x0)),(8,.val iS (List.length x0.2.1:Int)),(124,.val sh15 x0.2.2),(125,.val iS (List.length x0.2.2:Int)),(126,.val iS v247)]) (fun v h => by rw [f92.l209] at h; cases h) ?_ hF (ar h [1,8,124,125,126])
    intro m209 v247 a w hF h
    rw [f92.l209] at hF
    refine zs [1,8,124,125,126,127] h an fun a w h => ?_
    refine wp_seq <| zi h hF (fun hF => ?_) (fun hF => ?_)
    ·refine wp_skip ?_
     refine wp_mid (fun a w => ∃ v:Unit,f92.j256 k v247 ((f92.l209 k x0) m209) v=some r∧Rel w0 (fun _ => False) Zi Try.f92.ntmps ((fun (_:Unit) => ([(1,.val sh13 (some x0)),(8,.val iS (List.length x0.2.1:Int)),(124,.val sh15 x0.2.2),(125,.val iS (List.length x0.2.2:Int)),(126,.val iS v247)]:SS)) v) a w) ?_ ?_
     ·
      refine wp_block ?_
      obtain ⟨hc264,hF⟩:=of_if hF
      refine zs [1,8,9,10,124,125,126] h (ac hc264 an) fun a w h => ?_
      refine wp_seq ?_
      obtain ⟨hc262,hF⟩:=of_if hF
      obtain ⟨hc263,hF⟩:=of_if hF
      refine wp_regy_seq tok (orc:=o0) (l:=[1,8,9,10,124,125,126,167]) ([],[],[],[]) 37 nw h (by kernel_rfl) (by kernel_rfl) (ac hc262 (ac hc263 an)) fun a w h => ?_
      obtain ⟨v257,hv261,hF⟩:=of_bind hF
      replace h:=h.cast (S':=[(1,.val sh13 (some x0)),(8,.val iS (List.length x0.2.1:Int)),(9,.val iS v247),(10,.val sh16 (some (gD x0.2.2 (tZ v247) (iO,iO)))),(124,.val sh15 x0.2.2),(125,.val iS (List.length x0.2.2:Int)),(126,.val iS v247),(167,.val .bool v257)]) (by cases hv261; kernel_rfl)
      refine zi h hF (fun hF => ?_) (fun hF => ?_)
      ·refine zs [2] h an fun a w h => ?_
       cases hF
       exact wp_ret (ret_okR tok h rfl (by kernel_rfl)).1
      ·refine wp_skip ?_
       refine zs [1,8,9,10,124,125,126,169] h an fun a w h => ?_
       refine zi h hF (fun hF => ?_) (fun hF => ?_)
       ·obtain ⟨hc260,hF⟩:=of_if hF
        refine zs [1,8,10,11,124,125,126] h (ac hc260 an) fun a w h => ?_
        refine zs [1,8,124,125,126,194] h an fun a w h => ?_
        obtain ⟨v258,hv259,hF⟩:=of_bind hF
        replace h:=h.cast (S':=[(1,.val sh13 (some x0)),(8,.val iS (List.length x0.2.1:Int)),(124,.val sh15 x0.2.2),(125,.val iS (List.length x0.2.2:Int)),(126,.val iS v247),(194,.val .bool v258)]) (by cases hv259; kernel_rfl)
        refine zi h hF (fun hF => ?_) (fun hF => ?_)
        ·refine zs [2] h an fun a w h => ?_
         cases hF
         exact wp_ret (ret_okR tok h rfl (by kernel_rfl)).1
        ·refine wp_skip ?_
         exact ⟨(),hF,ar h [1,8,124,125,126]⟩
       ·refine wp_skip ?_
        exact ⟨(),hF,ar h [1,8,124,125,126]⟩
     ·rintro a w ⟨v,hF,h⟩
      obtain ⟨⟩:=v
      rw [f92.j256] at hF
      refine zt [1,8,124,125,126] h an fun a w h => ?_
      exact ⟨(w64 (v247 + (1:Int))),hF,ar h [1,8,124,125,126]⟩
    ·refine wp_exit ?_
     refine zs [2] h an fun a w h => ?_
     cases hF
     exact wp_ret (ret_okR tok h rfl (by kernel_rfl)).1
def f124.l34 (k:Nat) (x0:((List (Int × (Int × Int))) × ((List (Int × (Int × (Int × (Int × (Int × ByteArray)))))) × (List (Int × Int))))):Nat → ((List (List Int)) × Int)→Option (List (List Int))
 | 0,_ => none
 | m34+1,(v57,v58) => if (decide (v58 < (List.length x0.2.1:Int))) then (if (0≤v58∧v58 < (List.length x0.2.1:Int)) then (if (0 ≤ (List.getD x0.2.1 (Int.toNat v58) ((0:Int),((0:Int),((0:Int),((0:Int),((0:Int),(⟨#[]⟩:ByteArray))))))).1 ∧ (List.getD x0.2.1 (Int.toNat v58) ((0:Int),((0:Int),((0:Int),((0:Int),((0:Int),(⟨#[]⟩:ByteArray))))))).1 < (List.length v57:Int)) then (if ((List.length (List.getD v57 (Int.toNat (List.getD x0.2.1 (Int.toNat v58) ((0:Int),((0:Int),((0:Int),((0:Int),((0:Int),(⟨#[]⟩:ByteArray))))))).1) ([]:(List Int)))+List.length [v58])*8≤140737488355328) then (if (0 ≤ (List.getD x0.2.1 (Int.toNat v58) ((0:Int),((0:Int),((0:Int),((0:Int),((0:Int),(⟨#[]⟩:ByteArray))))))).1 ∧ (List.getD x0.2.1 (Int.toNat v58) ((0:Int),((0:Int),((0:Int),((0:Int),((0:Int),(⟨#[]⟩:ByteArray))))))).1 < (List.length v57:Int)) then ((f124.l34 k x0) m34 ((List.set v57 (Int.toNat (List.getD x0.2.1 (Int.toNat v58) ((0:Int),((0:Int),((0:Int),((0:Int),((0:Int),(⟨#[]⟩:ByteArray))))))).1) (List.append (List.getD v57 (Int.toNat (List.getD x0.2.1 (Int.toNat v58) ((0:Int),((0:Int),((0:Int),((0:Int),((0:Int),(⟨#[]⟩:ByteArray))))))).1) ([]:(List Int))) [v58])),(IntKind.i64.wrap (v58 + (1:Int))))) else none) else none) else none) else none) else (some v57)
def f124 (k:Nat) (x0:((List (Int × (Int × Int))) × ((List (Int × (Int × (Int × (Int × (Int × ByteArray)))))) × (List (Int × Int))))):Option (List (List Int)):=if (0 ≤ (List.length x0.1:Int)∧Int.toNat (List.length x0.1:Int)*24≤140737488355328) then (f124.l34 k x0 k ((List.replicate (Int.toNat (List.length x0.1:Int)) ([]:(List Int))),(0:Int))) else none
theorem c124 (k:Nat) (x0:tG) (r:(List (List Int))) (hF:f124 k x0=some r):PCall Try.prog 124 [⟨sh14,x0⟩] [⟨sh12,r⟩]:=by
 refine pcall_intro Try.func124 rfl rfl (Nat.le_of_ble_eq_true rfl) ?_
 intro w0 Zi a w h
 rw [f124] at hF
 refine zs [1] h an fun a w h => ?_
 obtain ⟨hc67,hF⟩:=of_if hF
 refine zs [1,3] h (ac hc67 an) fun a w h => ?_
 refine wp_seq ?_
 refine zs [3,11,12,13] h an fun a w h => ?_
 refine wp_block ?_
 refine wp_loop_fuel (f124.l34 k x0) (fun ((v57,v58):((List (List Int)) × Int)) => [(3,.val sh12 v57),(11,.val sh21 x0.2.1),(12,.val iS (List.length x0.2.1:Int)),(13,.val iS v58)]) (fun v h => by obtain ⟨v57,v58⟩:=v; rw [f124.l34] at h; cases h) ?_ hF (ar h [3,11,12,13])
 intro m34 v a w hF h
 obtain ⟨v57,v58⟩:=v
 rw [f124.l34] at hF
 refine zs [3,11,12,13,14] h an fun a w h => ?_
 refine wp_seq <| zi h hF (fun hF => ?_) (fun hF => ?_)
 ·refine wp_skip ?_
  refine wp_seq <| wp_block ?_
  obtain ⟨hc66,hF⟩:=of_if hF
  refine zs [3,4,5,11,12,13] h (ac hc66 an) fun a w h => ?_
  obtain ⟨hc63,hF⟩:=of_if hF
  obtain ⟨hc64,hF⟩:=of_if hF
  obtain ⟨hc65,hF⟩:=of_if hF
  refine wp_regy tok (orc:=orcL [(28,[⟨.pt false 4294967293 .unit,some ()⟩])]) (l:=[3,11,12,13]) ([],[],[],[]) 12 nw h (by kernel_rfl) (by kernel_rfl) (ac hc63 (ac (PrefL.mk (l:=[[],[],[.idx (tZ (gD x0.2.1 (tZ v58) zR).1)],[.idx (tZ (gD x0.2.1 (tZ v58) zR).1)]]) (p:=[.idx (tZ (gD x0.2.1 (tZ v58) zR).1)]) rfl) (ac hc64 (ac hc65 (ac (show ([.idx (tZ (gD x0.2.1 (tZ v58) zR).1)]:Path)=[.idx (tZ (gD x0.2.1 (tZ v58) zR).1)] from rfl) an))))) fun a w h => ?_
  refine zt [3,11,12,13] h an fun a w h => ?_
  exact ⟨((List.set v57 (tZ (gD x0.2.1 (tZ v58) zR).1) (List.append (gD v57 (tZ (gD x0.2.1 (tZ v58) zR).1) lO) [v58])),(w64 (v58 + (1:Int)))),hF,ar h [3,11,12,13]⟩
 ·refine wp_exit ?_
  refine zs [2,3] h an fun a w h => ?_
  cases hF
  exact wp_ret (ret_okR tok h rfl (by kernel_rfl)).1
def f173 (k:Nat) (x0:Int) (x1:Int) (x2_0:(List (Int × (Int × Int)))) (x2_1:(List (Int × (Int × (Int × (Int × (Int × ByteArray))))))) (x2_2:(List (Int × Int))):Option Bool:=if (0≤x0∧x0 < (List.length x2_2:Int)) then (if (0≤x1∧x1 < (List.length x2_2:Int)) then (some (bif (decide (((List.getD x2_2 (Int.toNat x0) ((0:Int),(0:Int))).1:Int) < (List.getD x2_2 (Int.toNat x1) ((0:Int),(0:Int))).1)) then true else (bif (((List.getD x2_2 (Int.toNat x0) ((0:Int),(0:Int))).1:Int) == (List.getD x2_2 (Int.toNat x1) ((0:Int),(0:Int))).1) then (decide (((List.getD x2_2 (Int.toNat x0) ((0:Int),(0:Int))).2:Int) < (List.getD x2_2 (Int.toNat x1) ((0:Int),(0:Int))).2)) else false))) else none) else none
theorem c173 (k:Nat) (x0:Int) (x1:Int) (x2_0:(List (Int × (Int × Int)))) (x2_1:(List (Int × (Int × (Int × (Int × (Int × ByteArray))))))) (x2_2:(List (Int × Int))) (r:Bool) (hF:f173 k x0 x1 x2_0 x2_1 x2_2=some r):PCall Try.prog 173 [⟨iS,x0⟩,⟨iS,x1⟩,⟨sh24,(some (x2_0,(x2_1,x2_2)))⟩] [⟨.bool,r⟩]:=by
 refine pcall_intro Try.func173 rfl rfl (Nat.le_of_ble_eq_true rfl) ?_
 intro w0 Zi a w h
 rw [f173] at hF
 refine zs [0,1,2] h an fun a w h => ?_
 obtain ⟨hc1,hF⟩:=of_if hF
 obtain ⟨hc2,hF⟩:=of_if hF
 refine wp_regy_seq tok (orc:=o0) (l:=[6,7]) ([(12,6)],[],[],[(5,[2]),(6,[13]),(7,[1]),(8,[14,15]),(9,[16])]) 13 nw h (by kernel_rfl) (by kernel_rfl) (ac hc1 (ac hc2 an)) fun a w h => ?_
 refine zs [5] h an fun a w h => ?_
 cases hF
 exact wp_ret (ret_okR tok h rfl (by kernel_rfl)).1
def H173:Prop:=∀ (k:Nat) (c0:(List (Int × (Int × Int)))) (c1:(List (Int × (Int × (Int × (Int × (Int × ByteArray))))))),LinOk (α:=(Int × Int)) (Sh.dflt sh6) (fun (zs:List (Int × Int)) (i j:Int) => f173 k i j c0 c1 zs)
def f125.l16 (k:Nat) (x0:((List (Int × (Int × Int))) × ((List (Int × (Int × (Int × (Int × (Int × ByteArray)))))) × (List (Int × Int))))):Nat → ((List ((Int × Int) × Bool)) × Int)→Option ((List (Int × (Int × Int))) × ((List (Int × (Int × (Int × (Int × (Int × ByteArray)))))) × (List (Int × Int))))
 | 0,_ => none
 | m16+1,(v27,v28) => if (decide (v28 < (List.length x0.2.2:Int))) then (if (0≤v28∧v28 < (List.length x0.2.2:Int)) then ((f125.l16 k x0) m16 ((mput (Sh.beq sh6) (List.getD x0.2.2 (Int.toNat v28) ((0:Int),(0:Int))) true v27),(IntKind.i64.wrap (v28 + (1:Int))))) else none) else (if (decide (((List.length v27:Int):Int) > (2000:Int))) then (some (([]:(List (Int × (Int × Int)))),(([]:(List (Int × (Int × (Int × (Int × (Int × ByteArray))))))),([]:(List (Int × Int)))))) else (if ((List.length ([]:(List (Int × (Int × Int))))+List.length x0.1)*24≤140737488355328) then (if ((List.length ([]:(List (Int × (Int × (Int × (Int × (Int × ByteArray)))))))+List.length x0.2.1)*56≤140737488355328) then (if (List.length v27*16≤140737488355328) then (some ((([]:(List (Int × (Int × Int)))) ++ x0.1),((([]:(List (Int × (Int × (Int × (Int × (Int × ByteArray))))))) ++ x0.2.1),(sortR (α:=(Int × Int)) pdqR (Sh.dflt sh6) (ofLess (fun (zs:List (Int × Int)) (i j:Int) => f173 k i j (([]:(List (Int × (Int × Int)))) ++ x0.1) (([]:(List (Int × (Int × (Int × (Int × (Int × ByteArray))))))) ++ x0.2.1) zs)) (List.map (fun e => e.1) v27))))) else none) else none) else none))
def f125 (k:Nat) (x0:((List (Int × (Int × Int))) × ((List (Int × (Int × (Int × (Int × (Int × ByteArray)))))) × (List (Int × Int))))) (x1:(List ((Int × Int) × Bool))):Option ((List (Int × (Int × Int))) × ((List (Int × (Int × (Int × (Int × (Int × ByteArray)))))) × (List (Int × Int)))):=f125.l16 k x0 k (x1,(0:Int))
theorem c125 (k:Nat) (x0:tG) (x1:(List ((Int × Int) × Bool))) (h173:H173) (r:tG) (hF:f125 k x0 x1=some r):PCons Try.prog 125 [⟨sh14,x0⟩,⟨sh22,(some x1)⟩] [⟨sh11,r⟩]:=by
 refine pcons_intro (j:=1) Try.func125 rfl rfl (Nat.le_of_ble_eq_true rfl) (Nat.le_of_ble_eq_true rfl) (by kernel_rfl) ?_
 intro w0 Zi f0 a w h
 rw [f125] at hF
 refine wp_reg_seq tok (orc:=o0) (fz:=[]) (l:=[1,2,4]) (.inl rfl) h (by kernel_rfl) an fun a w h => ?_
 refine wp_seq ?_
 refine wp_reg_seq tok (orc:=o0) (fz:=[]) (l:=[1,2,4,10,11,12]) (.inl rfl) h (by kernel_rfl) an fun a w h => ?_
 refine wp_block ?_
 refine wp_loop_fuel (f125.l16 k x0) (fun ((v27,v28):((List ((Int × Int) × Bool)) × Int)) => [(1,.val sh22 (some v27)),(2,.val sh13 (some x0)),(4,.val sh17 (some (([]:(List (Int × (Int × Int)))),(([]:(List (Int × (Int × (Int × (Int × (Int × ByteArray))))))),([]:(List (Int × Int))))))),(10,.val sh15 x0.2.2),(11,.val iS (List.length x0.2.2:Int)),(12,.val iS v28)]) (fun v h => by obtain ⟨v27,v28⟩:=v; rw [f125.l16] at h; cases h) ?_ hF (h.arrive (fz:=[]) (l:=[1,2,4,10,11,12]) (.inl rfl) (by kernel_rfl))
 intro m16 v a w hF h
 obtain ⟨v27,v28⟩:=v
 rw [f125.l16] at hF
 refine wp_reg_seq tok (orc:=o0) (fz:=[]) (l:=[1,2,4,10,11,12,13]) (.inl rfl) h (by kernel_rfl) an fun a w h => ?_
 refine wp_seq <| zi h hF (fun hF => ?_) (fun hF => ?_)
 ·refine wp_skip ?_
  refine wp_seq <| wp_block ?_
  obtain ⟨hc30,hF⟩:=of_if hF
  refine wp_reg_seq tok (orc:=o0) (fz:=[]) (l:=[1,2,4,6,10,11,12]) (.inl rfl) h (by kernel_rfl) (ac hc30 an) fun a w h => ?_
  refine wp_reg tok (orc:=o0) (fz:=[]) (l:=[1,2,4,10,11,12]) (.inl rfl) h (by kernel_rfl) (ac (show eqTy Try.prog 9 174 (.st (.pair iS iS))=true from by kernel_rfl) an) fun a w h => ?_
  refine wp_reg tok (orc:=o0) (fz:=[]) (l:=[1,2,4,10,11,12]) (.inl rfl) h (by kernel_rfl) an fun a w h => ?_
  exact ⟨((mput (Sh.beq sh6) (gD x0.2.2 (tZ v28) (iO,iO)) true v27),(w64 (v28 + (1:Int)))),hF,h.arrive (fz:=[]) (l:=[1,2,4,10,11,12]) (.inl rfl) (by kernel_rfl)⟩
 ·refine wp_exit ?_
  refine wp_seq ?_
  refine wp_reg_seq tok (orc:=o0) (fz:=[]) (l:=[1,2,4,21]) (.inl rfl) h (by kernel_rfl) an fun a w h => ?_
  refine zi h hF (fun hF => ?_) (fun hF => ?_)
  ·refine wp_reg_seq tok (orc:=o0) (fz:=[]) (l:=[4]) (.inl rfl) h (by kernel_rfl) an fun a w h => ?_
   cases hF
   exact wp_ret (retC_ok tok h rfl (by kernel_rfl)).1
  ·refine wp_skip ?_
   obtain ⟨hc32,hF⟩:=of_if hF
   obtain ⟨hc33,hF⟩:=of_if hF
   refine wp_regy_seq tok (orc:=o0) (fz:=[]) (l:=[1,4,7]) ([],[(2,[]),(5,[]),(6,[25,28])],[],[(3,[2]),(4,[2,26]),(7,[])]) 8 (.inl rfl) h (by kernel_rfl) (by kernel_rfl) (ac hc32 (ac hc33 an)) fun a w h => ?_
   refine wp_seq ?_
   refine wp_range tok (t:=175) (m:=1) (d:=30) (it:=31) (kt:=174) (et:=4) (ks:=sh6) (vs:=.bool) (l:=v27) h rfl rfl rfl rfl rfl rfl rfl (by kernel_rfl) (by kernel_rfl) (by kernel_rfl) (by kernel_rfl) (by kernel_rfl) ?_
   intro g a w hit h
   replace h:=h.only [4,7,31] (by kernel_rfl)
   obtain ⟨hc31,hF⟩:=of_if hF
   replace h:=h.cast (S':=[(4,.val sh17 (some (([]:(List (Int × (Int × Int)))),(([]:(List (Int × (Int × (Int × (Int × (Int × ByteArray))))))),([]:(List (Int × Int))))))),(7,.val sh17 (some ((([]:(List (Int × (Int × Int)))) ++ x0.1),((([]:(List (Int × (Int × (Int × (Int × (Int × ByteArray))))))) ++ x0.2.1),([]:(List (Int × Int))))))),(31,.val (.gh true) g)]) (by kernel_rfl)
   refine wp_keys_loop tok (it:=31) (d0:=32) (d1:=33) (c0:=34) (c1:=35) (ks:=sh6) (xs:=(List.map (fun e => e.1) v27)) (orc:=o0) (fun ys g => [(4,.val sh17 (some (([]:(List (Int × (Int × Int)))),(([]:(List (Int × (Int × (Int × (Int × (Int × ByteArray))))))),([]:(List (Int × Int))))))),(7,.val sh17 (some ((([]:(List (Int × (Int × Int)))) ++ x0.1),((([]:(List (Int × (Int × (Int × (Int × (Int × ByteArray))))))) ++ x0.2.1),ys)))),(31,.val (.gh true) g)]) (fun ys x g => [(4,.val sh17 (some (([]:(List (Int × (Int × Int)))),(([]:(List (Int × (Int × (Int × (Int × (Int × ByteArray))))))),([]:(List (Int × Int))))))),(7,.val sh17 (some ((([]:(List (Int × (Int × Int)))) ++ x0.1),((([]:(List (Int × (Int × (Int × (Int × (Int × ByteArray))))))) ++ x0.2.1),ys)))),(8,.val sh16 (some x)),(31,.val (.gh true) g),(32,.val .any ()),(33,.val .bool true),(34,.val .any ()),(35,.val sh6 x)]) h hit rfl rfl rfl rfl rfl rfl rfl rfl rfl rfl rfl rfl rfl rfl (by kernel_rfl) (fun ys g => by kernel_rfl) (fun ys g g' => by kernel_rfl) (fun ys g b => by kernel_rfl) (fun ys g => by kernel_rfl) (fun ys x g => by kernel_rfl) ?_ ?_
   ·
    intro Q' ys x g a w hlt hQ h
    refine wp_reg tok (orc:=orcL [(40,[⟨.pt false 4294967293 .unit,some ()⟩])]) (fz:=[]) (l:=[4,7,31]) (.inl rfl) h (by kernel_rfl) (ac ((PrefL.mk (l:=[[.der,.snd,.snd],[.der,.snd,.snd]]) (p:=[.der,.snd,.snd]) rfl)) (ac (show ((List.length ys+List.length [x])*16≤140737488355328) from by have hlt2:=hlt; have hone:List.length [x]=1:=rfl; simp only [List.length_map] at hlt2; omega) (ac ((show ([.der,.snd,.snd]:Path)=[.der,.snd,.snd] from rfl)) an))) fun a w h => ?_
    exact hQ a w (h.arrive (fz:=[]) (l:=[4,7,31]) (.inl rfl) (by kernel_rfl))
   ·
    intro ys g a w hperm h
    replace h:=h.only [4,7] (by kernel_rfl)
    refine wp_sort3_seq tok (fs:=73) (te:=174) (g:=173) (e:=sh6) (k:=7) (b1:=43) (p:=[.der,.snd,.snd]) (tb:=71) (sb:=sh11) (x0:=(some ((([]:(List (Int × (Int × Int)))) ++ x0.1),((([]:(List (Int × (Int × (Int × (Int × (Int × ByteArray))))))) ++ x0.2.1),ys)))) (S1:=[(4,.val sh17 (some (([]:(List (Int × (Int × Int)))),(([]:(List (Int × (Int × (Int × (Int × (Int × ByteArray))))))),([]:(List (Int × Int))))))),(7,.val sh17 (some ((([]:(List (Int × (Int × Int)))) ++ x0.1),((([]:(List (Int × (Int × (Int × (Int × (Int × ByteArray))))))) ++ x0.2.1),ys)))),(42,.addr 7 [.der,.snd,.snd]),(43,.copy 7 [.der,.snd,.snd])]) (orc:=o0) (cap:=#[.tmp 7]) (cl:=[7]) (xs:=(List.map (fun e => e.1) v27)) (ys:=ys) (f:=(fun (zs:List (Int × Int)) (i j:Int) => f173 k i j (([]:(List (Int × (Int × Int)))) ++ x0.1) (([]:(List (Int × (Int × (Int × (Int × (Int × ByteArray))))))) ++ x0.2.1) zs)) Go.Proofs.Ytnpaokckkbhdjaa.S.sc73_69 (fun zs => (some ((([]:(List (Int × (Int × Int)))) ++ x0.1),((([]:(List (Int × (Int × (Int × (Int × (Int × ByteArray))))))) ++ x0.2.1),zs)))) h rfl (by kernel_rfl) an rfl rfl rfl rfl rfl rfl rfl rfl rfl rfl (by kernel_rfl) (by kernel_rfl) (by kernel_rfl) (by kernel_rfl) (by simp) (by kernel_rfl) (fun zs => by kernel_rfl) (by kernel_rfl) (by have hpl:=hperm.length_eq; simp only [List.length_map] at hpl; omega) ⟨_,Try.func73,rfl,rfl⟩ ⟨_,Try.func173,rfl,rfl⟩ (h173 k (([]:(List (Int × (Int × Int)))) ++ x0.1) (([]:(List (Int × (Int × (Int × (Int × (Int × ByteArray))))))) ++ x0.2.1)) hperm (fun zs => ⟨[(7,[])],[⟨sh24,(some ((([]:(List (Int × (Int × Int)))) ++ x0.1),((([]:(List (Int × (Int × (Int × (Int × (Int × ByteArray))))))) ++ x0.2.1),zs)))⟩],by kernel_rfl,by kernel_rfl,fun i j r hr => c173 k i j (([]:(List (Int × (Int × Int)))) ++ x0.1) (([]:(List (Int × (Int × (Int × (Int × (Int × ByteArray))))))) ++ x0.2.1) zs r hr⟩) fun a w h => ?_
    replace h:=h.only [4,7] (by kernel_rfl)
    refine wp_reg_seq tok (orc:=o0) (fz:=[]) (l:=[4]) (.inl rfl) h (by kernel_rfl) an fun a w h => ?_
    cases hF
    exact wp_ret (retC_ok tok h rfl (by kernel_rfl)).1
def f68.j5026 (k:Nat) (v4570:Int) (q2742:((List ((Int × Int) × Bool)) × Int)→Option ((List (Int × (Int × Int))) × ((List (Int × (Int × (Int × (Int × (Int × ByteArray)))))) × (List (Int × Int))))):(List ((Int × Int) × Bool))→Option ((List (Int × (Int × Int))) × ((List (Int × (Int × (Int × (Int × (Int × ByteArray)))))) × (List (Int × Int))))
 | v5025 => q2742 (v5025,(IntKind.i64.wrap (v4570 + (1:Int))))
def f68.j5406 (k:Nat) (v5331:Int) (q5027:((List ((Int × Int) × Bool)) × Int)→Option ((List (Int × (Int × Int))) × ((List (Int × (Int × (Int × (Int × (Int × ByteArray)))))) × (List (Int × Int))))):(List ((Int × Int) × Bool))→Option ((List (Int × (Int × Int))) × ((List (Int × (Int × (Int × (Int × (Int × ByteArray)))))) × (List (Int × Int))))
 | v5405 => q5027 (v5405,(IntKind.i64.wrap (v5331 + (1:Int))))
def f68.j5470 (k:Nat) (v5465:Int) (q5441:((List ((Int × Int) × Bool)) × Int)→Option ((List (Int × (Int × Int))) × ((List (Int × (Int × (Int × (Int × (Int × ByteArray)))))) × (List (Int × Int))))):(List ((Int × Int) × Bool))→Option ((List (Int × (Int × Int))) × ((List (Int × (Int × (Int × (Int × (Int × ByteArray)))))) × (List (Int × Int))))
 | v5469 => q5441 (v5469,(IntKind.i64.wrap (v5465 + (1:Int))))
def f68.l5441 (k:Nat) (r2:(List (List Int))) (x0:((List (Int × (Int × Int))) × ((List (Int × (Int × (Int × (Int × (Int × ByteArray)))))) × (List (Int × Int))))) (v5331:Int) (x1:(List (List Int))) (v4570:Int) (q5406:(List ((Int × Int) × Bool))→Option ((List (Int × (Int × Int))) × ((List (Int × (Int × (Int × (Int × (Int × ByteArray)))))) × (List (Int × Int))))):Nat → ((List ((Int × Int) × Bool)) × Int)→Option ((List (Int × (Int × Int))) × ((List (Int × (Int × (Int × (Int × (Int × ByteArray)))))) × (List (Int × Int))))
 | 0,_ => none
 | m5441+1,(v5464,v5465) => if (decide (v5465 < (List.length (List.getD r2 (Int.toNat (List.getD x0.2.1 (Int.toNat v5331) ((0:Int),((0:Int),((0:Int),((0:Int),((0:Int),(⟨#[]⟩:ByteArray))))))).2.1) ([]:(List Int))):Int))) then (if (0≤v5465∧v5465 < (List.length (List.getD r2 (Int.toNat (List.getD x0.2.1 (Int.toNat v5331) ((0:Int),((0:Int),((0:Int),((0:Int),((0:Int),(⟨#[]⟩:ByteArray))))))).2.1) ([]:(List Int))):Int)) then (if (0 ≤ (List.getD (List.getD r2 (Int.toNat (List.getD x0.2.1 (Int.toNat v5331) ((0:Int),((0:Int),((0:Int),((0:Int),((0:Int),(⟨#[]⟩:ByteArray))))))).2.1) ([]:(List Int))) (Int.toNat v5465) (0:Int)) ∧ (List.getD (List.getD r2 (Int.toNat (List.getD x0.2.1 (Int.toNat v5331) ((0:Int),((0:Int),((0:Int),((0:Int),((0:Int),(⟨#[]⟩:ByteArray))))))).2.1) ([]:(List Int))) (Int.toNat v5465) (0:Int)) < (List.length x0.2.1:Int)) then (if (0 ≤ (2:Int) ∧ (2:Int) < (List.length (List.getD x1 (Int.toNat v4570) ([]:(List Int))):Int)) then (if (((List.getD x0.2.1 (Int.toNat (List.getD (List.getD r2 (Int.toNat (List.getD x0.2.1 (Int.toNat v5331) ((0:Int),((0:Int),((0:Int),((0:Int),((0:Int),(⟨#[]⟩:ByteArray))))))).2.1) ([]:(List Int))) (Int.toNat v5465) (0:Int))) ((0:Int),((0:Int),((0:Int),((0:Int),((0:Int),(⟨#[]⟩:ByteArray))))))).2.2.1:Int) == (List.getD (List.getD x1 (Int.toNat v4570) ([]:(List Int))) (Int.toNat (2:Int)) (0:Int))) then (f68.j5470 k v5465 ((f68.l5441 k r2 x0 v5331 x1 v4570 q5406) m5441) (mput (Sh.beq sh6) (v5331,(List.getD (List.getD r2 (Int.toNat (List.getD x0.2.1 (Int.toNat v5331) ((0:Int),((0:Int),((0:Int),((0:Int),((0:Int),(⟨#[]⟩:ByteArray))))))).2.1) ([]:(List Int))) (Int.toNat v5465) (0:Int))) true v5464)) else (f68.j5470 k v5465 ((f68.l5441 k r2 x0 v5331 x1 v4570 q5406) m5441) v5464)) else none) else none) else none) else (if (decide (((List.length v5464:Int):Int) > (2000:Int))) then (some (([]:(List (Int × (Int × Int)))),(([]:(List (Int × (Int × (Int × (Int × (Int × ByteArray))))))),([]:(List (Int × Int)))))) else (q5406 v5464))
def f68.l5027 (k:Nat) (x0:((List (Int × (Int × Int))) × ((List (Int × (Int × (Int × (Int × (Int × ByteArray)))))) × (List (Int × Int))))) (x1:(List (List Int))) (v4570:Int) (r2:(List (List Int))) (q5026:(List ((Int × Int) × Bool))→Option ((List (Int × (Int × Int))) × ((List (Int × (Int × (Int × (Int × (Int × ByteArray)))))) × (List (Int × Int))))):Nat → ((List ((Int × Int) × Bool)) × Int)→Option ((List (Int × (Int × Int))) × ((List (Int × (Int × (Int × (Int × (Int × ByteArray)))))) × (List (Int × Int))))
 | 0,_ => none
 | m5027+1,(v5330,v5331) => if (decide (v5331 < (List.length x0.2.1:Int))) then (if (0≤v5331∧v5331 < (List.length x0.2.1:Int)) then (if (0 ≤ (0:Int) ∧ (0:Int) < (List.length (List.getD x1 (Int.toNat v4570) ([]:(List Int))):Int)) then (if (((((List.getD x0.2.1 (Int.toNat v5331) ((0:Int),((0:Int),((0:Int),((0:Int),((0:Int),(⟨#[]⟩:ByteArray))))))).2.2.1:Int) != (List.getD (List.getD x1 (Int.toNat v4570) ([]:(List Int))) (Int.toNat (0:Int)) (0:Int)))=false) → (0 ≤ (List.getD x0.2.1 (Int.toNat v5331) ((0:Int),((0:Int),((0:Int),((0:Int),((0:Int),(⟨#[]⟩:ByteArray))))))).2.1 ∧ (List.getD x0.2.1 (Int.toNat v5331) ((0:Int),((0:Int),((0:Int),((0:Int),((0:Int),(⟨#[]⟩:ByteArray))))))).2.1 < (List.length x0.1:Int))) then (if (((((List.getD x0.2.1 (Int.toNat v5331) ((0:Int),((0:Int),((0:Int),((0:Int),((0:Int),(⟨#[]⟩:ByteArray))))))).2.2.1:Int) != (List.getD (List.getD x1 (Int.toNat v4570) ([]:(List Int))) (Int.toNat (0:Int)) (0:Int)))=false) → (0 ≤ (1:Int) ∧ (1:Int) < (List.length (List.getD x1 (Int.toNat v4570) ([]:(List Int))):Int))) then ((some ((bif (((List.getD x0.2.1 (Int.toNat v5331) ((0:Int),((0:Int),((0:Int),((0:Int),((0:Int),(⟨#[]⟩:ByteArray))))))).2.2.1:Int) != (List.getD (List.getD x1 (Int.toNat v4570) ([]:(List Int))) (Int.toNat (0:Int)) (0:Int))) then true else (((List.getD x0.1 (Int.toNat (List.getD x0.2.1 (Int.toNat v5331) ((0:Int),((0:Int),((0:Int),((0:Int),((0:Int),(⟨#[]⟩:ByteArray))))))).2.1) ((0:Int),((0:Int),(0:Int)))).1:Int) != (List.getD (List.getD x1 (Int.toNat v4570) ([]:(List Int))) (Int.toNat (1:Int)) (0:Int)))):Bool)).bind fun v5407 => (if v5407 then (f68.j5406 k v5331 ((f68.l5027 k x0 x1 v4570 r2 q5026) m5027) v5330) else (if (0 ≤ (List.getD x0.2.1 (Int.toNat v5331) ((0:Int),((0:Int),((0:Int),((0:Int),((0:Int),(⟨#[]⟩:ByteArray))))))).2.1 ∧ (List.getD x0.2.1 (Int.toNat v5331) ((0:Int),((0:Int),((0:Int),((0:Int),((0:Int),(⟨#[]⟩:ByteArray))))))).2.1 < (List.length r2:Int)) then (f68.l5441 k r2 x0 v5331 x1 v4570 (f68.j5406 k v5331 ((f68.l5027 k x0 x1 v4570 r2 q5026) m5027)) k (v5330,(0:Int))) else none))) else none) else none) else none) else none) else (q5026 v5330)
def f68.l2742 (k:Nat) (x1:(List (List Int))) (x0:((List (Int × (Int × Int))) × ((List (Int × (Int × (Int × (Int × (Int × ByteArray)))))) × (List (Int × Int))))) (r2:(List (List Int))):Nat → ((List ((Int × Int) × Bool)) × Int)→Option ((List (Int × (Int × Int))) × ((List (Int × (Int × (Int × (Int × (Int × ByteArray)))))) × (List (Int × Int))))
 | 0,_ => none
 | m2742+1,(v4569,v4570) => if (decide (v4570 < (List.length x1:Int))) then (if (0≤v4570∧v4570 < (List.length x1:Int)) then (if (((List.length (List.getD x1 (Int.toNat v4570) ([]:(List Int))):Int):Int) != (3:Int)) then (f68.j5026 k v4570 ((f68.l2742 k x1 x0 r2) m2742) v4569) else (f68.l5027 k x0 x1 v4570 r2 (f68.j5026 k v4570 ((f68.l2742 k x1 x0 r2) m2742)) k (v4569,(0:Int)))) else none) else ((f125 k x0 v4569).bind fun r5481 => (some r5481))
def f68 (k:Nat) (x0:((List (Int × (Int × Int))) × ((List (Int × (Int × (Int × (Int × (Int × ByteArray)))))) × (List (Int × Int))))) (x1:(List (List Int))):Option ((List (Int × (Int × Int))) × ((List (Int × (Int × (Int × (Int × (Int × ByteArray)))))) × (List (Int × Int)))):=(f92 k x0).bind fun r1 => (if (bif (!r1) then true else (decide (((List.length x1:Int):Int) > (2000:Int)))) then (some (([]:(List (Int × (Int × Int)))),(([]:(List (Int × (Int × (Int × (Int × (Int × ByteArray))))))),([]:(List (Int × Int)))))) else ((f124 k x0).bind fun r2 => (f68.l2742 k x1 x0 r2 k (([]:(List ((Int × Int) × Bool))),(0:Int)))))
theorem c68 (k:Nat) (x0:tG) (x1:(List (List Int))) (h173:H173) (r:tG) (hF:f68 k x0 x1=some r):PCall Try.prog 68 [⟨sh14,x0⟩,⟨sh5,x1⟩] [⟨sh11,r⟩]:=by
 refine pcall_intro Try.func68 rfl rfl (Nat.le_of_ble_eq_true rfl) ?_
 intro w0 Zi a w h
 rw [f68] at hF
 refine zs [1,2,4] h an fun a w h => ?_
 refine wp_seq ?_
 obtain ⟨r1,hr5484,hF⟩:=of_bind hF
 refine zc (orcL [(14,[⟨.bool,r1⟩])]) [1,2,4,20] h (ac (c92 k x0 r1 hr5484) an) fun a w h => ?_
 refine zi h hF (fun hF => ?_) (fun hF => ?_)
 ·refine zs [4] h an fun a w h => ?_
  cases hF
  exact wp_ret (ret_okR tok h rfl (by kernel_rfl)).1
 ·refine wp_skip ?_
  refine zs [1,2,4,5] h an fun a w h => ?_
  obtain ⟨r2,hr5483,hF⟩:=of_bind hF
  refine zc (orcL [(24,[⟨sh12,r2⟩])]) [1,2,4,5,6] h (ac (c124 k x0 r2 hr5483) an) fun a w h => ?_
  refine wp_seq ?_
  refine zs [2,4,5,6,25,26,27] h an fun a w h => ?_
  refine wp_block ?_
  refine wp_loop_fuel (f68.l2742 k x1 x0 r2) (fun ((v4569,v4570):((List ((Int × Int) × Bool)) × Int)) => [(2,.val sh13 (some x0)),(4,.val sh17 (some (([]:(List (Int × (Int × Int)))),(([]:(List (Int × (Int × (Int × (Int × (Int × ByteArray))))))),([]:(List (Int × Int))))))),(5,.val sh22 (some v4569)),(6,.val sh12 r2),(25,.val sh5 x1),(26,.val iS (List.length x1:Int)),(27,.val iS v4570)]) (fun v h => by obtain ⟨v4569,v4570⟩:=v; rw [f68.l2742] at h; cases h) ?_ hF (ar h [2,4,5,6,25,26,27])
  intro m2742 v a w hF h
  obtain ⟨v4569,v4570⟩:=v
  rw [f68.l2742] at hF
  refine zs [2,4,5,6,25,26,27,28] h an fun a w h => ?_
  refine wp_seq <| zi h hF (fun hF => ?_) (fun hF => ?_)
  ·refine wp_skip ?_
   refine wp_mid (fun a w => ∃ v:(List ((Int × Int) × Bool)),f68.j5026 k v4570 ((f68.l2742 k x1 x0 r2) m2742) v=some r∧Rel w0 (fun _ => False) Zi Try.f68.ntmps ((fun (v5025:(List ((Int × Int) × Bool))) => ([(2,.val sh13 (some x0)),(4,.val sh17 (some (([]:(List (Int × (Int × Int)))),(([]:(List (Int × (Int × (Int × (Int × (Int × ByteArray))))))),([]:(List (Int × Int))))))),(5,.val sh22 (some v5025)),(6,.val sh12 r2),(25,.val sh5 x1),(26,.val iS (List.length x1:Int)),(27,.val iS v4570)]:SS)) v) a w) ?_ ?_
   ·
    refine wp_block ?_
    obtain ⟨hc5480,hF⟩:=of_if hF
    refine zs [2,4,5,6,8,25,26,27] h (ac hc5480 an) fun a w h => ?_
    refine wp_seq ?_
    refine zs [2,4,5,6,8,25,26,27,33] h an fun a w h => ?_
    refine zi h hF (fun hF => ?_) (fun hF => ?_)
    ·refine wp_exit ?_
     exact ⟨v4569,hF,ar h [2,4,5,6,25,26,27]⟩
    ·refine wp_skip ?_
     refine zs [2,4,5,6,8,25,26,27,35,36,37] h an fun a w h => ?_
     refine wp_block ?_
     refine wp_loop_fuel (f68.l5027 k x0 x1 v4570 r2 (f68.j5026 k v4570 ((f68.l2742 k x1 x0 r2) m2742))) (fun ((v5330,v5331):((List ((Int × Int) × Bool)) × Int)) => [(2,.val sh13 (some x0)),(4,.val sh17 (some (([]:(List (Int × (Int × Int)))),(([]:(List (Int × (Int × (Int × (Int × (Int × ByteArray))))))),([]:(List (Int × Int))))))),(5,.val sh22 (some v5330)),(6,.val sh12 r2),(8,.val (.sl false 2 iS) (gD x1 (tZ v4570) lO)),(25,.val sh5 x1),(26,.val iS (List.length x1:Int)),(27,.val iS v4570),(35,.val sh21 x0.2.1),(36,.val iS (List.length x0.2.1:Int)),(37,.val iS v5331)]) (fun v h => by obtain ⟨v5330,v5331⟩:=v; rw [f68.l5027] at h; cases h) ?_ hF (ar h [2,4,5,6,8,25,26,27,35,36,37])
     intro m5027 v a w hF h
     obtain ⟨v5330,v5331⟩:=v
     rw [f68.l5027] at hF
     refine zs [2,4,5,6,8,25,26,27,35,36,37,38] h an fun a w h => ?_
     refine wp_seq <| zi h hF (fun hF => ?_) (fun hF => ?_)
     ·refine wp_skip ?_
      refine wp_mid (fun a w => ∃ v:(List ((Int × Int) × Bool)),f68.j5406 k v5331 ((f68.l5027 k x0 x1 v4570 r2 (f68.j5026 k v4570 ((f68.l2742 k x1 x0 r2) m2742))) m5027) v=some r∧Rel w0 (fun _ => False) Zi Try.f68.ntmps ((fun (v5405:(List ((Int × Int) × Bool))) => ([(2,.val sh13 (some x0)),(4,.val sh17 (some (([]:(List (Int × (Int × Int)))),(([]:(List (Int × (Int × (Int × (Int × (Int × ByteArray))))))),([]:(List (Int × Int))))))),(5,.val sh22 (some v5405)),(6,.val sh12 r2),(8,.val (.sl false 2 iS) (gD x1 (tZ v4570) lO)),(25,.val sh5 x1),(26,.val iS (List.length x1:Int)),(27,.val iS v4570),(35,.val sh21 x0.2.1),(36,.val iS (List.length x0.2.1:Int)),(37,.val iS v5331)]:SS)) v) a w) ?_ ?_
      ·
       refine wp_block ?_
       obtain ⟨hc5479,hF⟩:=of_if hF
       refine zs [2,4,5,6,8,9,10,25,26,27,35,36,37] h (ac hc5479 an) fun a w h => ?_
       refine wp_seq ?_
       obtain ⟨hc5476,hF⟩:=of_if hF
       obtain ⟨hc5477,hF⟩:=of_if hF
       obtain ⟨hc5478,hF⟩:=of_if hF
       refine wp_regy_seq tok (orc:=o0) (l:=[2,4,5,6,8,9,10,25,26,27,35,36,37,60]) ([],[],[],[]) 19 nw h (by kernel_rfl) (by kernel_rfl) (ac hc5476 (ac hc5477 (ac hc5478 an))) fun a w h => ?_
       obtain ⟨v5407,hv5475,hF⟩:=of_bind hF
       replace h:=h.cast (S':=[(2,.val sh13 (some x0)),(4,.val sh17 (some (([]:(List (Int × (Int × Int)))),(([]:(List (Int × (Int × (Int × (Int × (Int × ByteArray))))))),([]:(List (Int × Int))))))),(5,.val sh22 (some v5330)),(6,.val sh12 r2),(8,.val (.sl false 2 iS) (gD x1 (tZ v4570) lO)),(9,.val iS v5331),(10,.val sh23 (some (gD x0.2.1 (tZ v5331) zR))),(25,.val sh5 x1),(26,.val iS (List.length x1:Int)),(27,.val iS v4570),(35,.val sh21 x0.2.1),(36,.val iS (List.length x0.2.1:Int)),(37,.val iS v5331),(60,.val .bool v5407)]) (by cases hv5475; kernel_rfl)
       refine zi h hF (fun hF => ?_) (fun hF => ?_)
       ·refine wp_exit ?_
        exact ⟨v5330,hF,ar h [2,4,5,6,8,25,26,27,35,36,37]⟩
       ·refine wp_skip ?_
        refine wp_seq ?_
        obtain ⟨hc5474,hF⟩:=of_if hF
        refine zs [2,4,5,6,8,9,25,26,27,35,36,37,65,66,67] h (ac hc5474 an) fun a w h => ?_
        refine wp_block ?_
        refine wp_loop_fuel (f68.l5441 k r2 x0 v5331 x1 v4570 (f68.j5406 k v5331 ((f68.l5027 k x0 x1 v4570 r2 (f68.j5026 k v4570 ((f68.l2742 k x1 x0 r2) m2742))) m5027))) (fun ((v5464,v5465):((List ((Int × Int) × Bool)) × Int)) => [(2,.val sh13 (some x0)),(4,.val sh17 (some (([]:(List (Int × (Int × Int)))),(([]:(List (Int × (Int × (Int × (Int × (Int × ByteArray))))))),([]:(List (Int × Int))))))),(5,.val sh22 (some v5464)),(6,.val sh12 r2),(8,.val (.sl false 2 iS) (gD x1 (tZ v4570) lO)),(9,.val iS v5331),(25,.val sh5 x1),(26,.val iS (List.length x1:Int)),(27,.val iS v4570),(35,.val sh21 x0.2.1),(36,.val iS (List.length x0.2.1:Int)),(37,.val iS v5331),(65,.copy 6 [.idx (tZ (gD x0.2.1 (tZ v5331) zR).2.1)]),(66,.val iS (List.length (gD r2 (tZ (gD x0.2.1 (tZ v5331) zR).2.1) lO):Int)),(67,.val iS v5465)]) (fun v h => by obtain ⟨v5464,v5465⟩:=v; rw [f68.l5441] at h; cases h) ?_ hF (ar h [2,4,5,6,8,9,25,26,27,35,36,37,65,66,67])
        intro m5441 v a w hF h
        obtain ⟨v5464,v5465⟩:=v
        rw [f68.l5441] at hF
        refine zs [2,4,5,6,8,9,25,26,27,35,36,37,65,66,67,68] h an fun a w h => ?_
        refine wp_seq <| zi h hF (fun hF => ?_) (fun hF => ?_)
        ·refine wp_skip ?_
         refine wp_mid (fun a w => ∃ v:(List ((Int × Int) × Bool)),f68.j5470 k v5465 ((f68.l5441 k r2 x0 v5331 x1 v4570 (f68.j5406 k v5331 ((f68.l5027 k x0 x1 v4570 r2 (f68.j5026 k v4570 ((f68.l2742 k x1 x0 r2) m2742))) m5027))) m5441) v=some r∧Rel w0 (fun _ => False) Zi Try.f68.ntmps ((fun (v5469:(List ((Int × Int) × Bool))) => ([(2,.val sh13 (some x0)),(4,.val sh17 (some (([]:(List (Int × (Int × Int)))),(([]:(List (Int × (Int × (Int × (Int × (Int × ByteArray))))))),([]:(List (Int × Int))))))),(5,.val sh22 (some v5469)),(6,.val sh12 r2),(8,.val (.sl false 2 iS) (gD x1 (tZ v4570) lO)),(9,.val iS v5331),(25,.val sh5 x1),(26,.val iS (List.length x1:Int)),(27,.val iS v4570),(35,.val sh21 x0.2.1),(36,.val iS (List.length x0.2.1:Int)),(37,.val iS v5331),(65,.copy 6 [.idx (tZ (gD x0.2.1 (tZ v5331) zR).2.1)]),(66,.val iS (List.length (gD r2 (tZ (gD x0.2.1 (tZ v5331) zR).2.1) lO):Int)),(67,.val iS v5465)]:SS)) v) a w) ?_ ?_
         ·
          refine wp_block ?_
          obtain ⟨hc5473,hF⟩:=of_if hF
          refine zs [2,4,5,6,8,9,12,25,26,27,35,36,37,65,66,67] h (ac hc5473 an) fun a w h => ?_
          obtain ⟨hc5471,hF⟩:=of_if hF
          obtain ⟨hc5472,hF⟩:=of_if hF
          refine wp_regy_seq tok (orc:=o0) (l:=[2,4,5,6,8,9,12,25,26,27,35,36,37,65,66,67,80]) ([],[],[],[]) 10 nw h (by kernel_rfl) (by kernel_rfl) (ac hc5471 (ac hc5472 an)) fun a w h => ?_
          refine zi h hF (fun hF => ?_) (fun hF => ?_)
          ·refine zt [2,4,5,6,8,9,25,26,27,35,36,37,65,66,67] h (ac (show eqTy Try.prog 9 174 (.st (.pair iS iS))=true from by kernel_rfl) an) fun a w h => ?_
           exact ⟨(mput (Sh.beq sh6) (v5331,(gD (gD r2 (tZ (gD x0.2.1 (tZ v5331) zR).2.1) lO) (tZ v5465) iO)) true v5464),hF,ar h [2,4,5,6,8,9,25,26,27,35,36,37,65,66,67]⟩
          ·refine wp_skip ?_
           exact ⟨v5464,hF,ar h [2,4,5,6,8,9,25,26,27,35,36,37,65,66,67]⟩
         ·rintro a w ⟨v5469,hF,h⟩
          rw [f68.j5470] at hF
          refine zt [2,4,5,6,8,9,25,26,27,35,36,37,65,66,67] h an fun a w h => ?_
          exact ⟨(v5469,(w64 (v5465 + (1:Int)))),hF,ar h [2,4,5,6,8,9,25,26,27,35,36,37,65,66,67]⟩
        ·refine wp_exit ?_
         refine zs [2,4,5,6,8,25,26,27,35,36,37,88] h an fun a w h => ?_
         refine zi h hF (fun hF => ?_) (fun hF => ?_)
         ·refine zs [4] h an fun a w h => ?_
          cases hF
          exact wp_ret (ret_okR tok h rfl (by kernel_rfl)).1
         ·refine wp_skip ?_
          exact ⟨v5464,hF,ar h [2,4,5,6,8,25,26,27,35,36,37]⟩
      ·rintro a w ⟨v5405,hF,h⟩
       rw [f68.j5406] at hF
       refine zt [2,4,5,6,8,25,26,27,35,36,37] h an fun a w h => ?_
       exact ⟨(v5405,(w64 (v5331 + (1:Int)))),hF,ar h [2,4,5,6,8,25,26,27,35,36,37]⟩
     ·refine wp_exit ?_
      exact ⟨v5330,hF,ar h [2,4,5,6,25,26,27]⟩
   ·rintro a w ⟨v5025,hF,h⟩
    rw [f68.j5026] at hF
    refine zt [2,4,5,6,25,26,27] h an fun a w h => ?_
    exact ⟨(v5025,(w64 (v4570 + (1:Int)))),hF,ar h [2,4,5,6,25,26,27]⟩
  ·refine wp_exit ?_
   obtain ⟨r5481,hr5482,hF⟩:=of_bind hF
   refine zc (orcL [(94,[⟨.pt false 4294967294 .unit,some ()⟩,⟨sh11,r5481⟩])]) [4] h (ac (c125 k x0 v4569 h173 r5481 hr5482) an) fun a w h => ?_
   cases hF
   exact wp_ret (ret_okR tok h rfl (by kernel_rfl)).1
def f143 (k:Nat) (x0:(Int × Int)) (x1:(Int × Int)):Option Bool:=if (x0.1 != x1.1) then (some false) else (if (x0.2 != x1.2) then (some false) else (some true))
theorem c143 (k:Nat) (x0:(Int × Int)) (x1:(Int × Int)) (r:Bool) (hF:f143 k x0 x1=some r):PCall Try.prog 143 [⟨sh6,x0⟩,⟨sh6,x1⟩] [⟨.bool,r⟩]:=by
 refine pcall_intro Try.func143 rfl rfl (Nat.le_of_ble_eq_true rfl) ?_
 intro w0 Zi a w h
 rw [f143] at hF
 refine zs [2,3] h an fun a w h => ?_
 refine wp_seq ?_
 refine zs [2,3,9] h an fun a w h => ?_
 refine zi h hF (fun hF => ?_) (fun hF => ?_)
 ·refine zs [4] h an fun a w h => ?_
  cases hF
  exact wp_ret (ret_okR tok h rfl (by kernel_rfl)).1
 ·refine wp_skip ?_
  refine wp_seq ?_
  refine zs [14] h an fun a w h => ?_
  refine zi h hF (fun hF => ?_) (fun hF => ?_)
  ·refine zs [4] h an fun a w h => ?_
   cases hF
   exact wp_ret (ret_okR tok h rfl (by kernel_rfl)).1
  ·refine wp_skip ?_
   refine zs [4] h an fun a w h => ?_
   cases hF
   exact wp_ret (ret_okR tok h rfl (by kernel_rfl)).1
def f159 (k:Nat) (x0:(Int × (Int × Int))) (x1:(Int × (Int × Int))):Option Bool:=if (x0.1 != x1.1) then (some false) else ((f143 k x0.2 x1.2).bind fun r1 => (if (!r1) then (some false) else (some true)))
theorem c159 (k:Nat) (x0:(Int × (Int × Int))) (x1:(Int × (Int × Int))) (r:Bool) (hF:f159 k x0 x1=some r):PCall Try.prog 159 [⟨sh7,x0⟩,⟨sh7,x1⟩] [⟨.bool,r⟩]:=by
 refine pcall_intro Try.func159 rfl rfl (Nat.le_of_ble_eq_true rfl) ?_
 intro w0 Zi a w h
 rw [f159] at hF
 refine zs [2,3] h an fun a w h => ?_
 refine wp_seq ?_
 refine zs [2,3,9] h an fun a w h => ?_
 refine zi h hF (fun hF => ?_) (fun hF => ?_)
 ·refine zs [4] h an fun a w h => ?_
  cases hF
  exact wp_ret (ret_okR tok h rfl (by kernel_rfl)).1
 ·refine wp_skip ?_
  refine wp_seq ?_
  obtain ⟨r1,hr2,hF⟩:=of_bind hF
  refine zc (orcL [(14,[⟨.bool,r1⟩])]) [15] h (ac (c143 k x0.2 x1.2 r1 hr2) an) fun a w h => ?_
  refine zi h hF (fun hF => ?_) (fun hF => ?_)
  ·refine zs [4] h an fun a w h => ?_
   cases hF
   exact wp_ret (ret_okR tok h rfl (by kernel_rfl)).1
  ·refine wp_skip ?_
   refine zs [4] h an fun a w h => ?_
   cases hF
   exact wp_ret (ret_okR tok h rfl (by kernel_rfl)).1
def f99.l30 (k:Nat) (x0:(List (Int × (Int × Int)))) (x1:(List (Int × (Int × Int)))):Nat→Int→Option Bool
 | 0,_ => none
 | m30+1,v50 => if (decide (v50 < (List.length x0:Int))) then (if (0≤v50∧v50 < (List.length x0:Int)) then (if (0≤v50∧v50 < (List.length x1:Int)) then ((f159 k (List.getD x0 (Int.toNat v50) ((0:Int),((0:Int),(0:Int)))) (List.getD x1 (Int.toNat v50) ((0:Int),((0:Int),(0:Int))))).bind fun r55 => (if (!r55) then (some false) else ((f99.l30 k x0 x1) m30 (IntKind.i64.wrap (v50 + (1:Int)))))) else none) else none) else (some true)
def f99 (k:Nat) (x0:(List (Int × (Int × Int)))) (x1:(List (Int × (Int × Int)))):Option Bool:=if (((List.length x0:Int):Int) != (List.length x1:Int)) then (some false) else (f99.l30 k x0 x1 k (0:Int))
theorem c99 (k:Nat) (x0:(List (Int × (Int × Int)))) (x1:(List (Int × (Int × Int)))) (r:Bool) (hF:f99 k x0 x1=some r):PCall Try.prog 99 [⟨sh20,x0⟩,⟨sh20,x1⟩] [⟨.bool,r⟩]:=by
 refine pcall_intro Try.func99 rfl rfl (Nat.le_of_ble_eq_true rfl) ?_
 intro w0 Zi a w h
 rw [f99] at hF
 refine zs [0,1] h an fun a w h => ?_
 refine wp_seq ?_
 refine zs [0,1,10] h an fun a w h => ?_
 refine zi h hF (fun hF => ?_) (fun hF => ?_)
 ·refine zs [4] h an fun a w h => ?_
  cases hF
  exact wp_ret (ret_okR tok h rfl (by kernel_rfl)).1
 ·refine wp_skip ?_
  refine wp_seq ?_
  refine zs [0,1,5] h an fun a w h => ?_
  refine wp_block ?_
  refine wp_loop_fuel (f99.l30 k x0 x1) (fun v50 => [(0,.val sh20 x0),(1,.val sh20 x1),(5,.val iS v50)]) (fun v h => by rw [f99.l30] at h; cases h) ?_ hF (ar h [0,1,5])
  intro m30 v50 a w hF h
  rw [f99.l30] at hF
  refine wp_seq ?_
  refine zs [0,1,5,14] h an fun a w h => ?_
  refine zi h hF (fun hF => ?_) (fun hF => ?_)
  ·refine wp_skip ?_
   refine wp_seq <| wp_block ?_
   obtain ⟨hc56,hF⟩:=of_if hF
   obtain ⟨hc57,hF⟩:=of_if hF
   obtain ⟨r55,hr58,hF⟩:=of_bind hF
   refine wp_regy_seq tok (orc:=orcL [(25,[⟨.bool,r55⟩])]) (l:=[0,1,5,26]) ([],[],[],[]) 10 nw h (by kernel_rfl) (by kernel_rfl) (ac hc56 (ac hc57 (ac (c159 k (gD x0 (tZ v50) (iO,(iO,iO))) (gD x1 (tZ v50) (iO,(iO,iO))) r55 hr58) an))) fun a w h => ?_
   refine zi h hF (fun hF => ?_) (fun hF => ?_)
   ·refine zs [4] h an fun a w h => ?_
    cases hF
    exact wp_ret (ret_okR tok h rfl (by kernel_rfl)).1
   ·refine wp_skip ?_
    refine zt [0,1,5] h an fun a w h => ?_
    exact ⟨(w64 (v50 + (1:Int))),hF,ar h [0,1,5]⟩
  ·refine wp_exit ?_
   refine zs [4] h an fun a w h => ?_
   cases hF
   exact wp_ret (ret_okR tok h rfl (by kernel_rfl)).1
def f160 (k:Nat) (x0:(Int × (Int × (Int × (Int × (Int × ByteArray)))))) (x1:(Int × (Int × (Int × (Int × (Int × ByteArray)))))):Option Bool:=if (x0.1 != x1.1) then (some false) else (if (x0.2.1 != x1.2.1) then (some false) else (if (x0.2.2.1 != x1.2.2.1) then (some false) else (if (x0.2.2.2.1 != x1.2.2.2.1) then (some false) else (if (x0.2.2.2.2.1 != x1.2.2.2.2.1) then (some false) else (if (!(ByteArray.toList x0.2.2.2.2.2 == ByteArray.toList x1.2.2.2.2.2)) then (some false) else (some true))))))
theorem c160 (k:Nat) (x0:(Int × (Int × (Int × (Int × (Int × ByteArray)))))) (x1:(Int × (Int × (Int × (Int × (Int × ByteArray)))))) (r:Bool) (hF:f160 k x0 x1=some r):PCall Try.prog 160 [⟨sh1,x0⟩,⟨sh1,x1⟩] [⟨.bool,r⟩]:=by
 refine pcall_intro Try.func160 rfl rfl (Nat.le_of_ble_eq_true rfl) ?_
 intro w0 Zi a w h
 rw [f160] at hF
 refine zs [2,3] h an fun a w h => ?_
 refine wp_seq ?_
 refine zs [2,3,9] h an fun a w h => ?_
 refine zi h hF (fun hF => ?_) (fun hF => ?_)
 ·refine zs [4] h an fun a w h => ?_
  cases hF
  exact wp_ret (ret_okR tok h rfl (by kernel_rfl)).1
 ·refine wp_skip ?_
  refine wp_seq ?_
  refine zs [2,3,14] h an fun a w h => ?_
  refine zi h hF (fun hF => ?_) (fun hF => ?_)
  ·refine zs [4] h an fun a w h => ?_
   cases hF
   exact wp_ret (ret_okR tok h rfl (by kernel_rfl)).1
  ·refine wp_skip ?_
   refine wp_seq ?_
   refine zs [2,3,19] h an fun a w h => ?_
   refine zi h hF (fun hF => ?_) (fun hF => ?_)
   ·refine zs [4] h an fun a w h => ?_
    cases hF
    exact wp_ret (ret_okR tok h rfl (by kernel_rfl)).1
   ·refine wp_skip ?_
    refine wp_seq ?_
    refine zs [2,3,24] h an fun a w h => ?_
    refine zi h hF (fun hF => ?_) (fun hF => ?_)
    ·refine zs [4] h an fun a w h => ?_
     cases hF
     exact wp_ret (ret_okR tok h rfl (by kernel_rfl)).1
    ·refine wp_skip ?_
     refine wp_seq ?_
     refine zs [2,3,29] h an fun a w h => ?_
     refine zi h hF (fun hF => ?_) (fun hF => ?_)
     ·refine zs [4] h an fun a w h => ?_
      cases hF
      exact wp_ret (ret_okR tok h rfl (by kernel_rfl)).1
     ·refine wp_skip ?_
      refine wp_seq ?_
      refine zs [34] h an fun a w h => ?_
      refine zi h hF (fun hF => ?_) (fun hF => ?_)
      ·refine zs [4] h an fun a w h => ?_
       cases hF
       exact wp_ret (ret_okR tok h rfl (by kernel_rfl)).1
      ·refine wp_skip ?_
       refine zs [4] h an fun a w h => ?_
       cases hF
       exact wp_ret (ret_okR tok h rfl (by kernel_rfl)).1
def f100.l30 (k:Nat) (x0:(List (Int × (Int × (Int × (Int × (Int × ByteArray))))))) (x1:(List (Int × (Int × (Int × (Int × (Int × ByteArray))))))):Nat→Int→Option Bool
 | 0,_ => none
 | m30+1,v50 => if (decide (v50 < (List.length x0:Int))) then (if (0≤v50∧v50 < (List.length x0:Int)) then (if (0≤v50∧v50 < (List.length x1:Int)) then ((f160 k (List.getD x0 (Int.toNat v50) ((0:Int),((0:Int),((0:Int),((0:Int),((0:Int),(⟨#[]⟩:ByteArray))))))) (List.getD x1 (Int.toNat v50) ((0:Int),((0:Int),((0:Int),((0:Int),((0:Int),(⟨#[]⟩:ByteArray)))))))).bind fun r55 => (if (!r55) then (some false) else ((f100.l30 k x0 x1) m30 (IntKind.i64.wrap (v50 + (1:Int)))))) else none) else none) else (some true)
def f100 (k:Nat) (x0:(List (Int × (Int × (Int × (Int × (Int × ByteArray))))))) (x1:(List (Int × (Int × (Int × (Int × (Int × ByteArray))))))):Option Bool:=if (((List.length x0:Int):Int) != (List.length x1:Int)) then (some false) else (f100.l30 k x0 x1 k (0:Int))
theorem c100 (k:Nat) (x0:(List (Int × (Int × (Int × (Int × (Int × ByteArray))))))) (x1:(List (Int × (Int × (Int × (Int × (Int × ByteArray))))))) (r:Bool) (hF:f100 k x0 x1=some r):PCall Try.prog 100 [⟨sh21,x0⟩,⟨sh21,x1⟩] [⟨.bool,r⟩]:=by
 refine pcall_intro Try.func100 rfl rfl (Nat.le_of_ble_eq_true rfl) ?_
 intro w0 Zi a w h
 rw [f100] at hF
 refine zs [0,1] h an fun a w h => ?_
 refine wp_seq ?_
 refine zs [0,1,10] h an fun a w h => ?_
 refine zi h hF (fun hF => ?_) (fun hF => ?_)
 ·refine zs [4] h an fun a w h => ?_
  cases hF
  exact wp_ret (ret_okR tok h rfl (by kernel_rfl)).1
 ·refine wp_skip ?_
  refine wp_seq ?_
  refine zs [0,1,5] h an fun a w h => ?_
  refine wp_block ?_
  refine wp_loop_fuel (f100.l30 k x0 x1) (fun v50 => [(0,.val sh21 x0),(1,.val sh21 x1),(5,.val iS v50)]) (fun v h => by rw [f100.l30] at h; cases h) ?_ hF (ar h [0,1,5])
  intro m30 v50 a w hF h
  rw [f100.l30] at hF
  refine wp_seq ?_
  refine zs [0,1,5,14] h an fun a w h => ?_
  refine zi h hF (fun hF => ?_) (fun hF => ?_)
  ·refine wp_skip ?_
   refine wp_seq <| wp_block ?_
   obtain ⟨hc56,hF⟩:=of_if hF
   obtain ⟨hc57,hF⟩:=of_if hF
   obtain ⟨r55,hr58,hF⟩:=of_bind hF
   refine wp_regy_seq tok (orc:=orcL [(25,[⟨.bool,r55⟩])]) (l:=[0,1,5,26]) ([],[],[],[]) 10 nw h (by kernel_rfl) (by kernel_rfl) (ac hc56 (ac hc57 (ac (c160 k (gD x0 (tZ v50) zR) (gD x1 (tZ v50) zR) r55 hr58) an))) fun a w h => ?_
   refine zi h hF (fun hF => ?_) (fun hF => ?_)
   ·refine zs [4] h an fun a w h => ?_
    cases hF
    exact wp_ret (ret_okR tok h rfl (by kernel_rfl)).1
   ·refine wp_skip ?_
    refine zt [0,1,5] h an fun a w h => ?_
    exact ⟨(w64 (v50 + (1:Int))),hF,ar h [0,1,5]⟩
  ·refine wp_exit ?_
   refine zs [4] h an fun a w h => ?_
   cases hF
   exact wp_ret (ret_okR tok h rfl (by kernel_rfl)).1
def f161 (k:Nat) (x0:(Int × Int)) (x1:(Int × Int)):Option Bool:=if (x0.1 != x1.1) then (some false) else (if (x0.2 != x1.2) then (some false) else (some true))
theorem c161 (k:Nat) (x0:(Int × Int)) (x1:(Int × Int)) (r:Bool) (hF:f161 k x0 x1=some r):PCall Try.prog 161 [⟨sh6,x0⟩,⟨sh6,x1⟩] [⟨.bool,r⟩]:=by
 refine pcall_intro Try.func161 rfl rfl (Nat.le_of_ble_eq_true rfl) ?_
 intro w0 Zi a w h
 rw [f161] at hF
 refine zs [2,3] h an fun a w h => ?_
 refine wp_seq ?_
 refine zs [2,3,9] h an fun a w h => ?_
 refine zi h hF (fun hF => ?_) (fun hF => ?_)
 ·refine zs [4] h an fun a w h => ?_
  cases hF
  exact wp_ret (ret_okR tok h rfl (by kernel_rfl)).1
 ·refine wp_skip ?_
  refine wp_seq ?_
  refine zs [14] h an fun a w h => ?_
  refine zi h hF (fun hF => ?_) (fun hF => ?_)
  ·refine zs [4] h an fun a w h => ?_
   cases hF
   exact wp_ret (ret_okR tok h rfl (by kernel_rfl)).1
  ·refine wp_skip ?_
   refine zs [4] h an fun a w h => ?_
   cases hF
   exact wp_ret (ret_okR tok h rfl (by kernel_rfl)).1
def f101.l30 (k:Nat) (x0:(List (Int × Int))) (x1:(List (Int × Int))):Nat→Int→Option Bool
 | 0,_ => none
 | m30+1,v50 => if (decide (v50 < (List.length x0:Int))) then (if (0≤v50∧v50 < (List.length x0:Int)) then (if (0≤v50∧v50 < (List.length x1:Int)) then ((f161 k (List.getD x0 (Int.toNat v50) ((0:Int),(0:Int))) (List.getD x1 (Int.toNat v50) ((0:Int),(0:Int)))).bind fun r55 => (if (!r55) then (some false) else ((f101.l30 k x0 x1) m30 (IntKind.i64.wrap (v50 + (1:Int)))))) else none) else none) else (some true)
def f101 (k:Nat) (x0:(List (Int × Int))) (x1:(List (Int × Int))):Option Bool:=if (((List.length x0:Int):Int) != (List.length x1:Int)) then (some false) else (f101.l30 k x0 x1 k (0:Int))
theorem c101 (k:Nat) (x0:(List (Int × Int))) (x1:(List (Int × Int))) (r:Bool) (hF:f101 k x0 x1=some r):PCall Try.prog 101 [⟨sh15,x0⟩,⟨sh15,x1⟩] [⟨.bool,r⟩]:=by
 refine pcall_intro Try.func101 rfl rfl (Nat.le_of_ble_eq_true rfl) ?_
 intro w0 Zi a w h
 rw [f101] at hF
 refine zs [0,1] h an fun a w h => ?_
 refine wp_seq ?_
 refine zs [0,1,10] h an fun a w h => ?_
 refine zi h hF (fun hF => ?_) (fun hF => ?_)
 ·refine zs [4] h an fun a w h => ?_
  cases hF
  exact wp_ret (ret_okR tok h rfl (by kernel_rfl)).1
 ·refine wp_skip ?_
  refine wp_seq ?_
  refine zs [0,1,5] h an fun a w h => ?_
  refine wp_block ?_
  refine wp_loop_fuel (f101.l30 k x0 x1) (fun v50 => [(0,.val sh15 x0),(1,.val sh15 x1),(5,.val iS v50)]) (fun v h => by rw [f101.l30] at h; cases h) ?_ hF (ar h [0,1,5])
  intro m30 v50 a w hF h
  rw [f101.l30] at hF
  refine wp_seq ?_
  refine zs [0,1,5,14] h an fun a w h => ?_
  refine zi h hF (fun hF => ?_) (fun hF => ?_)
  ·refine wp_skip ?_
   refine wp_seq <| wp_block ?_
   obtain ⟨hc56,hF⟩:=of_if hF
   obtain ⟨hc57,hF⟩:=of_if hF
   obtain ⟨r55,hr58,hF⟩:=of_bind hF
   refine wp_regy_seq tok (orc:=orcL [(25,[⟨.bool,r55⟩])]) (l:=[0,1,5,26]) ([],[],[],[]) 10 nw h (by kernel_rfl) (by kernel_rfl) (ac hc56 (ac hc57 (ac (c161 k (gD x0 (tZ v50) (iO,iO)) (gD x1 (tZ v50) (iO,iO)) r55 hr58) an))) fun a w h => ?_
   refine zi h hF (fun hF => ?_) (fun hF => ?_)
   ·refine zs [4] h an fun a w h => ?_
    cases hF
    exact wp_ret (ret_okR tok h rfl (by kernel_rfl)).1
   ·refine wp_skip ?_
    refine zt [0,1,5] h an fun a w h => ?_
    exact ⟨(w64 (v50 + (1:Int))),hF,ar h [0,1,5]⟩
  ·refine wp_exit ?_
   refine zs [4] h an fun a w h => ?_
   cases hF
   exact wp_ret (ret_okR tok h rfl (by kernel_rfl)).1
def f45 (k:Nat) (x0:((List (Int × (Int × Int))) × ((List (Int × (Int × (Int × (Int × (Int × ByteArray)))))) × (List (Int × Int))))) (x1:((List (Int × (Int × Int))) × ((List (Int × (Int × (Int × (Int × (Int × ByteArray)))))) × (List (Int × Int))))):Option Bool:=(f99 k x0.1 x1.1).bind fun r1 => (if (!r1) then (some false) else ((f100 k x0.2.1 x1.2.1).bind fun r2 => (if (!r2) then (some false) else ((f101 k x0.2.2 x1.2.2).bind fun r3 => (if (!r3) then (some false) else (some true))))))
theorem c45 (k:Nat) (x0:tG) (x1:tG) (r:Bool) (hF:f45 k x0 x1=some r):PCall Try.prog 45 [⟨sh14,x0⟩,⟨sh14,x1⟩] [⟨.bool,r⟩]:=by
 refine pcall_intro Try.func45 rfl rfl (Nat.le_of_ble_eq_true rfl) ?_
 intro w0 Zi a w h
 rw [f45] at hF
 refine zs [2,3] h an fun a w h => ?_
 refine wp_seq ?_
 obtain ⟨r1,hr6,hF⟩:=of_bind hF
 refine zc (orcL [(9,[⟨.bool,r1⟩])]) [2,3,10] h (ac (c99 k x0.1 x1.1 r1 hr6) an) fun a w h => ?_
 refine zi h hF (fun hF => ?_) (fun hF => ?_)
 ·refine zs [4] h an fun a w h => ?_
  cases hF
  exact wp_ret (ret_okR tok h rfl (by kernel_rfl)).1
 ·refine wp_skip ?_
  refine wp_seq ?_
  obtain ⟨r2,hr5,hF⟩:=of_bind hF
  refine zc (orcL [(15,[⟨.bool,r2⟩])]) [2,3,16] h (ac (c100 k x0.2.1 x1.2.1 r2 hr5) an) fun a w h => ?_
  refine zi h hF (fun hF => ?_) (fun hF => ?_)
  ·refine zs [4] h an fun a w h => ?_
   cases hF
   exact wp_ret (ret_okR tok h rfl (by kernel_rfl)).1
  ·refine wp_skip ?_
   refine wp_seq ?_
   obtain ⟨r3,hr4,hF⟩:=of_bind hF
   refine zc (orcL [(21,[⟨.bool,r3⟩])]) [22] h (ac (c101 k x0.2.2 x1.2.2 r3 hr4) an) fun a w h => ?_
   refine zi h hF (fun hF => ?_) (fun hF => ?_)
   ·refine zs [4] h an fun a w h => ?_
    cases hF
    exact wp_ret (ret_okR tok h rfl (by kernel_rfl)).1
   ·refine wp_skip ?_
    refine zs [4] h an fun a w h => ?_
    cases hF
    exact wp_ret (ret_okR tok h rfl (by kernel_rfl)).1
def f16.l18 (k:Nat) (x0:(List Int)) (x1:(List Int)):Nat→Int→Option Bool
 | 0,_ => none
 | m18+1,v30 => if (decide (v30 < (List.length x0:Int))) then (if (0≤v30∧v30 < (List.length x0:Int)) then (if (0≤v30∧v30 < (List.length x1:Int)) then (if (((List.getD x0 (Int.toNat v30) (0:Int)):Int) != (List.getD x1 (Int.toNat v30) (0:Int))) then (some false) else ((f16.l18 k x0 x1) m18 (IntKind.i64.wrap (v30 + (1:Int))))) else none) else none) else (some true)
def f16 (k:Nat) (x0:(List Int)) (x1:(List Int)):Option Bool:=if (((List.length x0:Int):Int) != (List.length x1:Int)) then (some false) else (f16.l18 k x0 x1 k (0:Int))
theorem c16 (k:Nat) (x0:(List Int)) (x1:(List Int)) (r:Bool) (hF:f16 k x0 x1=some r):PCall Try.prog 16 [⟨(.sl false 2 iS),x0⟩,⟨(.sl false 2 iS),x1⟩] [⟨.bool,r⟩]:=by
 refine pcall_intro Try.func16 rfl rfl (Nat.le_of_ble_eq_true rfl) ?_
 intro w0 Zi a w h
 rw [f16] at hF
 refine zs [0,1] h an fun a w h => ?_
 refine wp_seq ?_
 refine zs [0,1,10] h an fun a w h => ?_
 refine zi h hF (fun hF => ?_) (fun hF => ?_)
 ·refine zs [4] h an fun a w h => ?_
  cases hF
  exact wp_ret (ret_okR tok h rfl (by kernel_rfl)).1
 ·refine wp_skip ?_
  refine wp_seq ?_
  refine zs [0,1,5] h an fun a w h => ?_
  refine wp_block ?_
  refine wp_loop_fuel (f16.l18 k x0 x1) (fun v30 => [(0,.val (.sl false 2 iS) x0),(1,.val (.sl false 2 iS) x1),(5,.val iS v30)]) (fun v h => by rw [f16.l18] at h; cases h) ?_ hF (ar h [0,1,5])
  intro m18 v30 a w hF h
  rw [f16.l18] at hF
  refine wp_seq ?_
  refine zs [0,1,5,14] h an fun a w h => ?_
  refine zi h hF (fun hF => ?_) (fun hF => ?_)
  ·refine wp_skip ?_
   refine wp_seq <| wp_block ?_
   obtain ⟨hc33,hF⟩:=of_if hF
   obtain ⟨hc34,hF⟩:=of_if hF
   refine wp_regy_seq tok (orc:=o0) (l:=[0,1,5,25]) ([],[],[],[]) 9 nw h (by kernel_rfl) (by kernel_rfl) (ac hc33 (ac hc34 an)) fun a w h => ?_
   refine zi h hF (fun hF => ?_) (fun hF => ?_)
   ·refine zs [4] h an fun a w h => ?_
    cases hF
    exact wp_ret (ret_okR tok h rfl (by kernel_rfl)).1
   ·refine wp_skip ?_
    refine zt [0,1,5] h an fun a w h => ?_
    exact ⟨(w64 (v30 + (1:Int))),hF,ar h [0,1,5]⟩
  ·refine wp_exit ?_
   refine zs [4] h an fun a w h => ?_
   cases hF
   exact wp_ret (ret_okR tok h rfl (by kernel_rfl)).1
def f25.l30 (k:Nat) (x0:(List (List Int))) (x1:(List (List Int))):Nat→Int→Option Bool
 | 0,_ => none
 | m30+1,v50 => if (decide (v50 < (List.length x0:Int))) then (if (0≤v50∧v50 < (List.length x0:Int)) then (if (0≤v50∧v50 < (List.length x1:Int)) then ((f16 k (List.getD x0 (Int.toNat v50) ([]:(List Int))) (List.getD x1 (Int.toNat v50) ([]:(List Int)))).bind fun r55 => (if (!r55) then (some false) else ((f25.l30 k x0 x1) m30 (IntKind.i64.wrap (v50 + (1:Int)))))) else none) else none) else (some true)
def f25 (k:Nat) (x0:(List (List Int))) (x1:(List (List Int))):Option Bool:=if (((List.length x0:Int):Int) != (List.length x1:Int)) then (some false) else (f25.l30 k x0 x1 k (0:Int))
theorem c25 (k:Nat) (x0:(List (List Int))) (x1:(List (List Int))) (r:Bool) (hF:f25 k x0 x1=some r):PCall Try.prog 25 [⟨sh5,x0⟩,⟨sh5,x1⟩] [⟨.bool,r⟩]:=by
 refine pcall_intro Try.func25 rfl rfl (Nat.le_of_ble_eq_true rfl) ?_
 intro w0 Zi a w h
 rw [f25] at hF
 refine zs [0,1] h an fun a w h => ?_
 refine wp_seq ?_
 refine zs [0,1,10] h an fun a w h => ?_
 refine zi h hF (fun hF => ?_) (fun hF => ?_)
 ·refine zs [4] h an fun a w h => ?_
  cases hF
  exact wp_ret (ret_okR tok h rfl (by kernel_rfl)).1
 ·refine wp_skip ?_
  refine wp_seq ?_
  refine zs [0,1,5] h an fun a w h => ?_
  refine wp_block ?_
  refine wp_loop_fuel (f25.l30 k x0 x1) (fun v50 => [(0,.val sh5 x0),(1,.val sh5 x1),(5,.val iS v50)]) (fun v h => by rw [f25.l30] at h; cases h) ?_ hF (ar h [0,1,5])
  intro m30 v50 a w hF h
  rw [f25.l30] at hF
  refine wp_seq ?_
  refine zs [0,1,5,14] h an fun a w h => ?_
  refine zi h hF (fun hF => ?_) (fun hF => ?_)
  ·refine wp_skip ?_
   refine wp_seq <| wp_block ?_
   obtain ⟨hc56,hF⟩:=of_if hF
   obtain ⟨hc57,hF⟩:=of_if hF
   obtain ⟨r55,hr58,hF⟩:=of_bind hF
   refine wp_regy_seq tok (orc:=orcL [(25,[⟨.bool,r55⟩])]) (l:=[0,1,5,26]) ([],[],[],[]) 10 nw h (by kernel_rfl) (by kernel_rfl) (ac hc56 (ac hc57 (ac (c16 k (gD x0 (tZ v50) lO) (gD x1 (tZ v50) lO) r55 hr58) an))) fun a w h => ?_
   refine zi h hF (fun hF => ?_) (fun hF => ?_)
   ·refine zs [4] h an fun a w h => ?_
    cases hF
    exact wp_ret (ret_okR tok h rfl (by kernel_rfl)).1
   ·refine wp_skip ?_
    refine zt [0,1,5] h an fun a w h => ?_
    exact ⟨(w64 (v50 + (1:Int))),hF,ar h [0,1,5]⟩
  ·refine wp_exit ?_
   refine zs [4] h an fun a w h => ?_
   cases hF
   exact wp_ret (ret_okR tok h rfl (by kernel_rfl)).1
def f102.l44 (k:Nat):Nat → ((List (Int × (Int × Int))) × Int × Int)→Option (Int × (List (Int × (Int × Int))))
 | 0,_ => none
 | m44+1,(v74,v75,v76) => if (decide (v76 < (List.length v74:Int))) then (if (0≤v76∧v76 < (List.length v74:Int)) then (if (0≤v76∧v76 < (List.length (List.set v74 (Int.toNat v76) (v75,(List.getD v74 (Int.toNat v76) ((0:Int),((0:Int),(0:Int)))).2)):Int)) then ((some ((List.set (List.set v74 (Int.toNat v76) (v75,(List.getD v74 (Int.toNat v76) ((0:Int),((0:Int),(0:Int)))).2)) (Int.toNat v76) ((List.getD (List.set v74 (Int.toNat v76) (v75,(List.getD v74 (Int.toNat v76) ((0:Int),((0:Int),(0:Int)))).2)) (Int.toNat v76) ((0:Int),((0:Int),(0:Int)))).1,((IntKind.i64.wrap (v75 + (1:Int))),(List.getD (List.set v74 (Int.toNat v76) (v75,(List.getD v74 (Int.toNat v76) ((0:Int),((0:Int),(0:Int)))).2)) (Int.toNat v76) ((0:Int),((0:Int),(0:Int)))).2.2))):(List (Int × (Int × Int))))).bind fun v82 => (if (0≤v76∧v76 < (List.length v82:Int)) then ((f102.l44 k) m44 ((List.set v82 (Int.toNat v76) ((List.getD v82 (Int.toNat v76) ((0:Int),((0:Int),(0:Int)))).1,((List.getD v82 (Int.toNat v76) ((0:Int),((0:Int),(0:Int)))).2.1,(IntKind.i64.wrap ((IntKind.i64.wrap (v75 + (1:Int))) + (1:Int)))))),(IntKind.i64.wrap ((IntKind.i64.wrap ((IntKind.i64.wrap (v75 + (1:Int))) + (1:Int))) + (1:Int))),(IntKind.i64.wrap (v76 + (1:Int))))) else none)) else none) else none) else (some (v75,v74))
def f102 (k:Nat) (x0:(List (Int × (Int × Int)))) (x1:Int):Option (Int × (List (Int × (Int × Int)))):=f102.l44 k k (x0,x1,(0:Int))
theorem c102 (k:Nat) (x0:(List (Int × (Int × Int)))) (x1:Int) (r:(Int × (List (Int × (Int × Int))))) (hF:f102 k x0 x1=some r):PMut Try.prog 102 [⟨sh8,x0⟩,⟨iS,x1⟩] [⟨iS,r.1⟩] (List.set [⟨sh8,x0⟩,⟨iS,x1⟩] 0 ⟨sh8,r.2⟩):=by
 refine pmut_intro (j:=0) (fin:=⟨sh8,r.2⟩) Try.func102 rfl rfl (Nat.le_of_ble_eq_true rfl) (Nat.le_of_ble_eq_true rfl) (by kernel_rfl) ?_
 intro w0 Zi f0 v0 a w h
 rw [f102] at hF
 refine wp_reg_seq tok (orc:=o0) (fz:=[]) (l:=[0,1]) (.inl rfl) h (by kernel_rfl) an fun a w h => ?_
 refine wp_seq ?_
 refine wp_reg_seq tok (orc:=o0) (fz:=[]) (l:=[0,1,5]) (.inl rfl) h (by kernel_rfl) an fun a w h => ?_
 refine wp_block ?_
 refine wp_loop_fuel (f102.l44 k) (fun ((v74,v75,v76):((List (Int × (Int × Int))) × Int × Int)) => [(0,.val sh8 v74),(1,.val iS v75),(5,.val iS v76)]) (fun v h => by obtain ⟨v74,v75,v76⟩:=v; rw [f102.l44] at h; cases h) ?_ hF (h.arrive (fz:=[]) (l:=[0,1,5]) (.inl rfl) (by kernel_rfl))
 intro m44 v a w hF h
 obtain ⟨v74,v75,v76⟩:=v
 rw [f102.l44] at hF
 refine wp_seq ?_
 refine wp_reg_seq tok (orc:=o0) (fz:=[]) (l:=[0,1,5,9]) (.inl rfl) h (by kernel_rfl) an fun a w h => ?_
 refine zi h hF (fun hF => ?_) (fun hF => ?_)
 ·refine wp_skip ?_
  refine wp_seq <| wp_block ?_
  obtain ⟨hc86,hF⟩:=of_if hF
  refine wp_reg_seq tok (orc:=o0) (fz:=[]) (l:=[0,1,5]) (.inl rfl) h (by kernel_rfl) (ac hc86 an) fun a w h => ?_
  refine wp_reg_seq tok (orc:=o0) (fz:=[]) (l:=[0,1,5]) (.inl rfl) h (by kernel_rfl) an fun a w h => ?_
  obtain ⟨hc85,hF⟩:=of_if hF
  refine wp_reg_seq tok (orc:=o0) (fz:=[]) (l:=[0,1,5]) (.inl rfl) h (by kernel_rfl) (ac hc85 an) fun a w h => ?_
  obtain ⟨v82,hv84,hF⟩:=of_bind hF
  replace h:=h.cast (S':=[(0,.val sh8 v82),(1,.val iS (w64 (v75 + (1:Int)))),(5,.val iS v76)]) (by cases hv84; kernel_rfl)
  refine wp_reg_seq tok (orc:=o0) (fz:=[]) (l:=[0,1,5]) (.inl rfl) h (by kernel_rfl) an fun a w h => ?_
  obtain ⟨hc83,hF⟩:=of_if hF
  refine wp_reg_seq tok (orc:=o0) (fz:=[]) (l:=[0,1,5]) (.inl rfl) h (by kernel_rfl) (ac hc83 an) fun a w h => ?_
  refine wp_reg tok (orc:=o0) (fz:=[]) (l:=[0,1,5]) (.inl rfl) h (by kernel_rfl) an fun a w h => ?_
  refine wp_reg tok (orc:=o0) (fz:=[]) (l:=[0,1,5]) (.inl rfl) h (by kernel_rfl) an fun a w h => ?_
  exact ⟨((List.set v82 (tZ v76) ((gD v82 (tZ v76) (iO,(iO,iO))).1,((gD v82 (tZ v76) (iO,(iO,iO))).2.1,(w64 ((w64 (v75 + (1:Int))) + (1:Int)))))),(w64 ((w64 ((w64 (v75 + (1:Int))) + (1:Int))) + (1:Int))),(w64 (v76 + (1:Int)))),hF,h.arrive (fz:=[]) (l:=[0,1,5]) (.inl rfl) (by kernel_rfl)⟩
 ·refine wp_exit ?_
  refine wp_reg_seq tok (orc:=o0) (fz:=[]) (l:=[0,4]) (.inl rfl) h (by kernel_rfl) an fun a w h => ?_
  cases hF
  exact wp_ret (retM_ok tok h rfl (by kernel_rfl) (by kernel_rfl)).1
def f119.l19 (k:Nat):Nat → (Int × ByteArray)→Option ByteArray
 | 0,_ => none
 | m19+1,(v32,v33) => if (decide (v32 > (0:Int))) then (if (((10:Int):Int)≠0) then (if (ByteArray.size (strOfNums [(IntKind.u8.wrap (IntKind.i64.wrap ((48:Int) + (Int.tmod v32 (10:Int)))))])+ByteArray.size v33≤9223372036854775807) then (if (((10:Int):Int)≠0) then ((f119.l19 k) m19 ((IntKind.i64.wrap (Int.tdiv v32 (10:Int))),((strOfNums [(IntKind.u8.wrap (IntKind.i64.wrap ((48:Int) + (Int.tmod v32 (10:Int)))))]) ++ v33))) else none) else none) else none) else (if (ByteArray.size (⟨#[109]⟩:ByteArray)+ByteArray.size v33≤9223372036854775807) then (some ((⟨#[109]⟩:ByteArray) ++ v33)) else none)
def f119 (k:Nat) (x0:Int):Option ByteArray:=if (decide (x0 ≤ (0:Int))) then (some (⟨#[109,48]⟩:ByteArray)) else (f119.l19 k k (x0,(⟨#[]⟩:ByteArray)))
theorem c119 (k:Nat) (x0:Int) (r:ByteArray) (hF:f119 k x0=some r):PCall Try.prog 119 [⟨iS,x0⟩] [⟨.str,r⟩]:=by
 refine pcall_intro Try.func119 rfl rfl (Nat.le_of_ble_eq_true rfl) ?_
 intro w0 Zi a w h
 rw [f119] at hF
 refine zs [0] h an fun a w h => ?_
 refine wp_seq ?_
 refine zs [0,5] h an fun a w h => ?_
 refine zi h hF (fun hF => ?_) (fun hF => ?_)
 ·refine zs [2] h an fun a w h => ?_
  cases hF
  exact wp_ret (ret_okR tok h rfl (by kernel_rfl)).1
 ·refine wp_skip ?_
  refine zs [0,3] h an fun a w h => ?_
  refine wp_seq <| wp_block ?_
  refine wp_loop_fuel (f119.l19 k) (fun ((v32,v33):(Int × ByteArray)) => [(0,.val iS v32),(3,.val .str v33)]) (fun v h => by obtain ⟨v32,v33⟩:=v; rw [f119.l19] at h; cases h) ?_ hF (ar h [0,3])
  intro m19 v a w hF h
  obtain ⟨v32,v33⟩:=v
  rw [f119.l19] at hF
  refine wp_seq ?_
  refine zs [0,3,7] h an fun a w h => ?_
  refine zi h hF (fun hF => ?_) (fun hF => ?_)
  ·refine wp_skip ?_
   refine wp_block ?_
   obtain ⟨hc35,hF⟩:=of_if hF
   obtain ⟨hc36,hF⟩:=of_if hF
   refine zs [0,3] h (ac hc35 (ac hc36 an)) fun a w h => ?_
   obtain ⟨hc34,hF⟩:=of_if hF
   refine zt [0,3] h (ac hc34 an) fun a w h => ?_
   exact ⟨((w64 (Int.tdiv v32 (10:Int))),((strOfNums [(IntKind.u8.wrap (w64 ((48:Int) + (Int.tmod v32 (10:Int)))))]) ++ v33)),hF,ar h [0,3]⟩
  ·refine wp_exit ?_
   obtain ⟨hc37,hF⟩:=of_if hF
   refine zs [2] h (ac hc37 an) fun a w h => ?_
   cases hF
   exact wp_ret (ret_okR tok h rfl (by kernel_rfl)).1
def f103.l110 (k:Nat):Nat → ((List (Int × (Int × (Int × (Int × (Int × ByteArray)))))) × Int × Int)→Option (Int × (List (Int × (Int × (Int × (Int × (Int × ByteArray)))))))
 | 0,_ => none
 | m110+1,(v184,v185,v186) => if (decide (v186 < (List.length v184:Int))) then (if (0≤v186∧v186 < (List.length v184:Int)) then (if (0≤v186∧v186 < (List.length (List.set v184 (Int.toNat v186) (v185,(List.getD v184 (Int.toNat v186) ((0:Int),((0:Int),((0:Int),((0:Int),((0:Int),(⟨#[]⟩:ByteArray))))))).2)):Int)) then ((some ((List.set (List.set v184 (Int.toNat v186) (v185,(List.getD v184 (Int.toNat v186) ((0:Int),((0:Int),((0:Int),((0:Int),((0:Int),(⟨#[]⟩:ByteArray))))))).2)) (Int.toNat v186) ((List.getD (List.set v184 (Int.toNat v186) (v185,(List.getD v184 (Int.toNat v186) ((0:Int),((0:Int),((0:Int),((0:Int),((0:Int),(⟨#[]⟩:ByteArray))))))).2)) (Int.toNat v186) ((0:Int),((0:Int),((0:Int),((0:Int),((0:Int),(⟨#[]⟩:ByteArray))))))).1,((IntKind.i64.wrap (v185 + (1:Int))),(List.getD (List.set v184 (Int.toNat v186) (v185,(List.getD v184 (Int.toNat v186) ((0:Int),((0:Int),((0:Int),((0:Int),((0:Int),(⟨#[]⟩:ByteArray))))))).2)) (Int.toNat v186) ((0:Int),((0:Int),((0:Int),((0:Int),((0:Int),(⟨#[]⟩:ByteArray))))))).2.2))):(List (Int × (Int × (Int × (Int × (Int × ByteArray)))))))).bind fun v203 => (if (0≤v186∧v186 < (List.length v203:Int)) then (if (0≤v186∧v186 < (List.length (List.set v203 (Int.toNat v186) ((List.getD v203 (Int.toNat v186) ((0:Int),((0:Int),((0:Int),((0:Int),((0:Int),(⟨#[]⟩:ByteArray))))))).1,((List.getD v203 (Int.toNat v186) ((0:Int),((0:Int),((0:Int),((0:Int),((0:Int),(⟨#[]⟩:ByteArray))))))).2.1,((IntKind.i64.wrap ((IntKind.i64.wrap (v185 + (1:Int))) + (1:Int))),(List.getD v203 (Int.toNat v186) ((0:Int),((0:Int),((0:Int),((0:Int),((0:Int),(⟨#[]⟩:ByteArray))))))).2.2.2)))):Int)) then ((some ((List.set (List.set v203 (Int.toNat v186) ((List.getD v203 (Int.toNat v186) ((0:Int),((0:Int),((0:Int),((0:Int),((0:Int),(⟨#[]⟩:ByteArray))))))).1,((List.getD v203 (Int.toNat v186) ((0:Int),((0:Int),((0:Int),((0:Int),((0:Int),(⟨#[]⟩:ByteArray))))))).2.1,((IntKind.i64.wrap ((IntKind.i64.wrap (v185 + (1:Int))) + (1:Int))),(List.getD v203 (Int.toNat v186) ((0:Int),((0:Int),((0:Int),((0:Int),((0:Int),(⟨#[]⟩:ByteArray))))))).2.2.2)))) (Int.toNat v186) ((List.getD (List.set v203 (Int.toNat v186) ((List.getD v203 (Int.toNat v186) ((0:Int),((0:Int),((0:Int),((0:Int),((0:Int),(⟨#[]⟩:ByteArray))))))).1,((List.getD v203 (Int.toNat v186) ((0:Int),((0:Int),((0:Int),((0:Int),((0:Int),(⟨#[]⟩:ByteArray))))))).2.1,((IntKind.i64.wrap ((IntKind.i64.wrap (v185 + (1:Int))) + (1:Int))),(List.getD v203 (Int.toNat v186) ((0:Int),((0:Int),((0:Int),((0:Int),((0:Int),(⟨#[]⟩:ByteArray))))))).2.2.2)))) (Int.toNat v186) ((0:Int),((0:Int),((0:Int),((0:Int),((0:Int),(⟨#[]⟩:ByteArray))))))).1,((List.getD (List.set v203 (Int.toNat v186) ((List.getD v203 (Int.toNat v186) ((0:Int),((0:Int),((0:Int),((0:Int),((0:Int),(⟨#[]⟩:ByteArray))))))).1,((List.getD v203 (Int.toNat v186) ((0:Int),((0:Int),((0:Int),((0:Int),((0:Int),(⟨#[]⟩:ByteArray))))))).2.1,((IntKind.i64.wrap ((IntKind.i64.wrap (v185 + (1:Int))) + (1:Int))),(List.getD v203 (Int.toNat v186) ((0:Int),((0:Int),((0:Int),((0:Int),((0:Int),(⟨#[]⟩:ByteArray))))))).2.2.2)))) (Int.toNat v186) ((0:Int),((0:Int),((0:Int),((0:Int),((0:Int),(⟨#[]⟩:ByteArray))))))).2.1,((List.getD (List.set v203 (Int.toNat v186) ((List.getD v203 (Int.toNat v186) ((0:Int),((0:Int),((0:Int),((0:Int),((0:Int),(⟨#[]⟩:ByteArray))))))).1,((List.getD v203 (Int.toNat v186) ((0:Int),((0:Int),((0:Int),((0:Int),((0:Int),(⟨#[]⟩:ByteArray))))))).2.1,((IntKind.i64.wrap ((IntKind.i64.wrap (v185 + (1:Int))) + (1:Int))),(List.getD v203 (Int.toNat v186) ((0:Int),((0:Int),((0:Int),((0:Int),((0:Int),(⟨#[]⟩:ByteArray))))))).2.2.2)))) (Int.toNat v186) ((0:Int),((0:Int),((0:Int),((0:Int),((0:Int),(⟨#[]⟩:ByteArray))))))).2.2.1,((IntKind.i64.wrap ((IntKind.i64.wrap ((IntKind.i64.wrap (v185 + (1:Int))) + (1:Int))) + (1:Int))),(List.getD (List.set v203 (Int.toNat v186) ((List.getD v203 (Int.toNat v186) ((0:Int),((0:Int),((0:Int),((0:Int),((0:Int),(⟨#[]⟩:ByteArray))))))).1,((List.getD v203 (Int.toNat v186) ((0:Int),((0:Int),((0:Int),((0:Int),((0:Int),(⟨#[]⟩:ByteArray))))))).2.1,((IntKind.i64.wrap ((IntKind.i64.wrap (v185 + (1:Int))) + (1:Int))),(List.getD v203 (Int.toNat v186) ((0:Int),((0:Int),((0:Int),((0:Int),((0:Int),(⟨#[]⟩:ByteArray))))))).2.2.2)))) (Int.toNat v186) ((0:Int),((0:Int),((0:Int),((0:Int),((0:Int),(⟨#[]⟩:ByteArray))))))).2.2.2.2))))):(List (Int × (Int × (Int × (Int × (Int × ByteArray)))))))).bind fun v204 => (if (0≤v186∧v186 < (List.length v204:Int)) then ((some ((List.set v204 (Int.toNat v186) ((List.getD v204 (Int.toNat v186) ((0:Int),((0:Int),((0:Int),((0:Int),((0:Int),(⟨#[]⟩:ByteArray))))))).1,((List.getD v204 (Int.toNat v186) ((0:Int),((0:Int),((0:Int),((0:Int),((0:Int),(⟨#[]⟩:ByteArray))))))).2.1,((List.getD v204 (Int.toNat v186) ((0:Int),((0:Int),((0:Int),((0:Int),((0:Int),(⟨#[]⟩:ByteArray))))))).2.2.1,((List.getD v204 (Int.toNat v186) ((0:Int),((0:Int),((0:Int),((0:Int),((0:Int),(⟨#[]⟩:ByteArray))))))).2.2.2.1,((IntKind.i64.wrap ((IntKind.i64.wrap ((IntKind.i64.wrap ((IntKind.i64.wrap (v185 + (1:Int))) + (1:Int))) + (1:Int))) + (1:Int))),(List.getD v204 (Int.toNat v186) ((0:Int),((0:Int),((0:Int),((0:Int),((0:Int),(⟨#[]⟩:ByteArray))))))).2.2.2.2.2)))))):(List (Int × (Int × (Int × (Int × (Int × ByteArray)))))))).bind fun v205 => ((f119 k (IntKind.i64.wrap ((IntKind.i64.wrap ((IntKind.i64.wrap ((IntKind.i64.wrap ((IntKind.i64.wrap (v185 + (1:Int))) + (1:Int))) + (1:Int))) + (1:Int))) + (1:Int)))).bind fun r206 => (if (0≤v186∧v186 < (List.length v205:Int)) then ((some ((List.set v205 (Int.toNat v186) ((List.getD v205 (Int.toNat v186) ((0:Int),((0:Int),((0:Int),((0:Int),((0:Int),(⟨#[]⟩:ByteArray))))))).1,((List.getD v205 (Int.toNat v186) ((0:Int),((0:Int),((0:Int),((0:Int),((0:Int),(⟨#[]⟩:ByteArray))))))).2.1,((List.getD v205 (Int.toNat v186) ((0:Int),((0:Int),((0:Int),((0:Int),((0:Int),(⟨#[]⟩:ByteArray))))))).2.2.1,((List.getD v205 (Int.toNat v186) ((0:Int),((0:Int),((0:Int),((0:Int),((0:Int),(⟨#[]⟩:ByteArray))))))).2.2.2.1,((List.getD v205 (Int.toNat v186) ((0:Int),((0:Int),((0:Int),((0:Int),((0:Int),(⟨#[]⟩:ByteArray))))))).2.2.2.2.1,r206)))))):(List (Int × (Int × (Int × (Int × (Int × ByteArray)))))))).bind fun v207 => ((f103.l110 k) m110 (v207,(IntKind.i64.wrap ((IntKind.i64.wrap ((IntKind.i64.wrap ((IntKind.i64.wrap ((IntKind.i64.wrap ((IntKind.i64.wrap (v185 + (1:Int))) + (1:Int))) + (1:Int))) + (1:Int))) + (1:Int))) + (1:Int))),(IntKind.i64.wrap (v186 + (1:Int)))))) else none))) else none)) else none) else none)) else none) else none) else (some (v185,v184))
def f103 (k:Nat) (x0:(List (Int × (Int × (Int × (Int × (Int × ByteArray))))))) (x1:Int):Option (Int × (List (Int × (Int × (Int × (Int × (Int × ByteArray))))))):=f103.l110 k k (x0,x1,(0:Int))
theorem c103 (k:Nat) (x0:(List (Int × (Int × (Int × (Int × (Int × ByteArray))))))) (x1:Int) (r:(Int × (List (Int × (Int × (Int × (Int × (Int × ByteArray)))))))) (hF:f103 k x0 x1=some r):PMut Try.prog 103 [⟨sh9,x0⟩,⟨iS,x1⟩] [⟨iS,r.1⟩] (List.set [⟨sh9,x0⟩,⟨iS,x1⟩] 0 ⟨sh9,r.2⟩):=by
 refine pmut_intro (j:=0) (fin:=⟨sh9,r.2⟩) Try.func103 rfl rfl (Nat.le_of_ble_eq_true rfl) (Nat.le_of_ble_eq_true rfl) (by kernel_rfl) ?_
 intro w0 Zi f0 v0 a w h
 rw [f103] at hF
 refine wp_reg_seq tok (orc:=o0) (fz:=[]) (l:=[0,1]) (.inl rfl) h (by kernel_rfl) an fun a w h => ?_
 refine wp_seq ?_
 refine wp_reg_seq tok (orc:=o0) (fz:=[]) (l:=[0,1,5]) (.inl rfl) h (by kernel_rfl) an fun a w h => ?_
 refine wp_block ?_
 refine wp_loop_fuel (f103.l110 k) (fun ((v184,v185,v186):((List (Int × (Int × (Int × (Int × (Int × ByteArray)))))) × Int × Int)) => [(0,.val sh9 v184),(1,.val iS v185),(5,.val iS v186)]) (fun v h => by obtain ⟨v184,v185,v186⟩:=v; rw [f103.l110] at h; cases h) ?_ hF (h.arrive (fz:=[]) (l:=[0,1,5]) (.inl rfl) (by kernel_rfl))
 intro m110 v a w hF h
 obtain ⟨v184,v185,v186⟩:=v
 rw [f103.l110] at hF
 refine wp_seq ?_
 refine wp_reg_seq tok (orc:=o0) (fz:=[]) (l:=[0,1,5,9]) (.inl rfl) h (by kernel_rfl) an fun a w h => ?_
 refine zi h hF (fun hF => ?_) (fun hF => ?_)
 ·refine wp_skip ?_
  refine wp_seq <| wp_block ?_
  obtain ⟨hc218,hF⟩:=of_if hF
  refine wp_reg_seq tok (orc:=o0) (fz:=[]) (l:=[0,1,5]) (.inl rfl) h (by kernel_rfl) (ac hc218 an) fun a w h => ?_
  refine wp_reg_seq tok (orc:=o0) (fz:=[]) (l:=[0,1,5]) (.inl rfl) h (by kernel_rfl) an fun a w h => ?_
  obtain ⟨hc217,hF⟩:=of_if hF
  refine wp_reg_seq tok (orc:=o0) (fz:=[]) (l:=[0,1,5]) (.inl rfl) h (by kernel_rfl) (ac hc217 an) fun a w h => ?_
  obtain ⟨v203,hv216,hF⟩:=of_bind hF
  replace h:=h.cast (S':=[(0,.val sh9 v203),(1,.val iS (w64 (v185 + (1:Int)))),(5,.val iS v186)]) (by cases hv216; kernel_rfl)
  refine wp_reg_seq tok (orc:=o0) (fz:=[]) (l:=[0,1,5]) (.inl rfl) h (by kernel_rfl) an fun a w h => ?_
  obtain ⟨hc215,hF⟩:=of_if hF
  refine wp_reg_seq tok (orc:=o0) (fz:=[]) (l:=[0,1,5]) (.inl rfl) h (by kernel_rfl) (ac hc215 an) fun a w h => ?_
  refine wp_reg_seq tok (orc:=o0) (fz:=[]) (l:=[0,1,5]) (.inl rfl) h (by kernel_rfl) an fun a w h => ?_
  obtain ⟨hc214,hF⟩:=of_if hF
  refine wp_reg_seq tok (orc:=o0) (fz:=[]) (l:=[0,1,5]) (.inl rfl) h (by kernel_rfl) (ac hc214 an) fun a w h => ?_
  obtain ⟨v204,hv213,hF⟩:=of_bind hF
  replace h:=h.cast (S':=[(0,.val sh9 v204),(1,.val iS (w64 ((w64 ((w64 (v185 + (1:Int))) + (1:Int))) + (1:Int)))),(5,.val iS v186)]) (by cases hv213; kernel_rfl)
  refine wp_reg_seq tok (orc:=o0) (fz:=[]) (l:=[0,1,5]) (.inl rfl) h (by kernel_rfl) an fun a w h => ?_
  obtain ⟨hc212,hF⟩:=of_if hF
  refine wp_reg_seq tok (orc:=o0) (fz:=[]) (l:=[0,1,5]) (.inl rfl) h (by kernel_rfl) (ac hc212 an) fun a w h => ?_
  obtain ⟨v205,hv211,hF⟩:=of_bind hF
  replace h:=h.cast (S':=[(0,.val sh9 v205),(1,.val iS (w64 ((w64 ((w64 ((w64 (v185 + (1:Int))) + (1:Int))) + (1:Int))) + (1:Int)))),(5,.val iS v186)]) (by cases hv211; kernel_rfl)
  refine wp_reg_seq tok (orc:=o0) (fz:=[]) (l:=[0,1,5]) (.inl rfl) h (by kernel_rfl) an fun a w h => ?_
  obtain ⟨r206,hr209,hF⟩:=of_bind hF
  obtain ⟨hc210,hF⟩:=of_if hF
  refine wp_reg_seq tok (orc:=orcL [(50,[⟨.str,r206⟩])]) (fz:=[]) (l:=[0,1,5]) (.inl rfl) h (by kernel_rfl) (ac (c119 k (w64 ((w64 ((w64 ((w64 ((w64 (v185 + (1:Int))) + (1:Int))) + (1:Int))) + (1:Int))) + (1:Int))) r206 hr209) (ac hc210 an)) fun a w h => ?_
  obtain ⟨v207,hv208,hF⟩:=of_bind hF
  replace h:=h.cast (S':=[(0,.val sh9 v207),(1,.val iS (w64 ((w64 ((w64 ((w64 ((w64 (v185 + (1:Int))) + (1:Int))) + (1:Int))) + (1:Int))) + (1:Int)))),(5,.val iS v186)]) (by cases hv208; kernel_rfl)
  refine wp_reg tok (orc:=o0) (fz:=[]) (l:=[0,1,5]) (.inl rfl) h (by kernel_rfl) an fun a w h => ?_
  refine wp_reg tok (orc:=o0) (fz:=[]) (l:=[0,1,5]) (.inl rfl) h (by kernel_rfl) an fun a w h => ?_
  exact ⟨(v207,(w64 ((w64 ((w64 ((w64 ((w64 ((w64 (v185 + (1:Int))) + (1:Int))) + (1:Int))) + (1:Int))) + (1:Int))) + (1:Int))),(w64 (v186 + (1:Int)))),hF,h.arrive (fz:=[]) (l:=[0,1,5]) (.inl rfl) (by kernel_rfl)⟩
 ·refine wp_exit ?_
  refine wp_reg_seq tok (orc:=o0) (fz:=[]) (l:=[0,4]) (.inl rfl) h (by kernel_rfl) an fun a w h => ?_
  cases hF
  exact wp_ret (retM_ok tok h rfl (by kernel_rfl) (by kernel_rfl)).1
def f104.l26 (k:Nat):Nat → ((List (Int × Int)) × Int × Int)→Option (Int × (List (Int × Int)))
 | 0,_ => none
 | m26+1,(v44,v45,v46) => if (decide (v46 < (List.length v44:Int))) then (if (0≤v46∧v46 < (List.length v44:Int)) then (if (0≤v46∧v46 < (List.length (List.set v44 (Int.toNat v46) (v45,(List.getD v44 (Int.toNat v46) ((0:Int),(0:Int))).2)):Int)) then ((f104.l26 k) m26 ((List.set (List.set v44 (Int.toNat v46) (v45,(List.getD v44 (Int.toNat v46) ((0:Int),(0:Int))).2)) (Int.toNat v46) ((List.getD (List.set v44 (Int.toNat v46) (v45,(List.getD v44 (Int.toNat v46) ((0:Int),(0:Int))).2)) (Int.toNat v46) ((0:Int),(0:Int))).1,(IntKind.i64.wrap (v45 + (1:Int))))),(IntKind.i64.wrap ((IntKind.i64.wrap (v45 + (1:Int))) + (1:Int))),(IntKind.i64.wrap (v46 + (1:Int))))) else none) else none) else (some (v45,v44))
def f104 (k:Nat) (x0:(List (Int × Int))) (x1:Int):Option (Int × (List (Int × Int))):=f104.l26 k k (x0,x1,(0:Int))
theorem c104 (k:Nat) (x0:(List (Int × Int))) (x1:Int) (r:(Int × (List (Int × Int)))) (hF:f104 k x0 x1=some r):PMut Try.prog 104 [⟨sh10,x0⟩,⟨iS,x1⟩] [⟨iS,r.1⟩] (List.set [⟨sh10,x0⟩,⟨iS,x1⟩] 0 ⟨sh10,r.2⟩):=by
 refine pmut_intro (j:=0) (fin:=⟨sh10,r.2⟩) Try.func104 rfl rfl (Nat.le_of_ble_eq_true rfl) (Nat.le_of_ble_eq_true rfl) (by kernel_rfl) ?_
 intro w0 Zi f0 v0 a w h
 rw [f104] at hF
 refine wp_reg_seq tok (orc:=o0) (fz:=[]) (l:=[0,1]) (.inl rfl) h (by kernel_rfl) an fun a w h => ?_
 refine wp_seq ?_
 refine wp_reg_seq tok (orc:=o0) (fz:=[]) (l:=[0,1,5]) (.inl rfl) h (by kernel_rfl) an fun a w h => ?_
 refine wp_block ?_
 refine wp_loop_fuel (f104.l26 k) (fun ((v44,v45,v46):((List (Int × Int)) × Int × Int)) => [(0,.val sh10 v44),(1,.val iS v45),(5,.val iS v46)]) (fun v h => by obtain ⟨v44,v45,v46⟩:=v; rw [f104.l26] at h; cases h) ?_ hF (h.arrive (fz:=[]) (l:=[0,1,5]) (.inl rfl) (by kernel_rfl))
 intro m26 v a w hF h
 obtain ⟨v44,v45,v46⟩:=v
 rw [f104.l26] at hF
 refine wp_seq ?_
 refine wp_reg_seq tok (orc:=o0) (fz:=[]) (l:=[0,1,5,9]) (.inl rfl) h (by kernel_rfl) an fun a w h => ?_
 refine zi h hF (fun hF => ?_) (fun hF => ?_)
 ·refine wp_skip ?_
  refine wp_seq <| wp_block ?_
  obtain ⟨hc50,hF⟩:=of_if hF
  refine wp_reg_seq tok (orc:=o0) (fz:=[]) (l:=[0,1,5]) (.inl rfl) h (by kernel_rfl) (ac hc50 an) fun a w h => ?_
  refine wp_reg_seq tok (orc:=o0) (fz:=[]) (l:=[0,1,5]) (.inl rfl) h (by kernel_rfl) an fun a w h => ?_
  obtain ⟨hc49,hF⟩:=of_if hF
  refine wp_reg_seq tok (orc:=o0) (fz:=[]) (l:=[0,1,5]) (.inl rfl) h (by kernel_rfl) (ac hc49 an) fun a w h => ?_
  refine wp_reg tok (orc:=o0) (fz:=[]) (l:=[0,1,5]) (.inl rfl) h (by kernel_rfl) an fun a w h => ?_
  refine wp_reg tok (orc:=o0) (fz:=[]) (l:=[0,1,5]) (.inl rfl) h (by kernel_rfl) an fun a w h => ?_
  exact ⟨((List.set (List.set v44 (tZ v46) (v45,(gD v44 (tZ v46) (iO,iO)).2)) (tZ v46) ((gD (List.set v44 (tZ v46) (v45,(gD v44 (tZ v46) (iO,iO)).2)) (tZ v46) (iO,iO)).1,(w64 (v45 + (1:Int))))),(w64 ((w64 (v45 + (1:Int))) + (1:Int))),(w64 (v46 + (1:Int)))),hF,h.arrive (fz:=[]) (l:=[0,1,5]) (.inl rfl) (by kernel_rfl)⟩
 ·refine wp_exit ?_
  refine wp_reg_seq tok (orc:=o0) (fz:=[]) (l:=[0,4]) (.inl rfl) h (by kernel_rfl) an fun a w h => ?_
  cases hF
  exact wp_ret (retM_ok tok h rfl (by kernel_rfl) (by kernel_rfl)).1
def f46 (k:Nat) (x0:((List (Int × (Int × Int))) × ((List (Int × (Int × (Int × (Int × (Int × ByteArray)))))) × (List (Int × Int))))) (x1:Int):Option (Int × ((List (Int × (Int × Int))) × ((List (Int × (Int × (Int × (Int × (Int × ByteArray)))))) × (List (Int × Int))))):=(f102 k x0.1 x1).bind fun r1 => ((f103 k x0.2.1 r1.1).bind fun r2 => ((f104 k x0.2.2 r2.1).bind fun r3 => (some (r3.1,(r1.2,(r2.2,r3.2))))))
theorem c46 (k:Nat) (x0:tG) (x1:Int) (r:(Int × tG)) (hF:f46 k x0 x1=some r):PMut Try.prog 46 [⟨sh11,x0⟩,⟨iS,x1⟩] [⟨iS,r.1⟩] (List.set [⟨sh11,x0⟩,⟨iS,x1⟩] 0 ⟨sh11,r.2⟩):=by
 refine pmut_intro (j:=0) (fin:=⟨sh11,r.2⟩) Try.func46 rfl rfl (Nat.le_of_ble_eq_true rfl) (Nat.le_of_ble_eq_true rfl) (by kernel_rfl) ?_
 intro w0 Zi f0 v0 a w h
 rw [f46] at hF
 refine wp_reg_seq tok (orc:=o0) (fz:=[]) (l:=[0,1,2]) (.inl rfl) h (by kernel_rfl) an fun a w h => ?_
 obtain ⟨r1,hr6,hF⟩:=of_bind hF
 refine wp_reg_seq tok (orc:=orcL [(8,[⟨.pt false 4294967295 (.sl true 181 (.st (.pair iS (.st (.pair iS iS))))),some r1.2⟩,⟨iS,r1.1⟩])]) (fz:=[]) (l:=[0,1,2]) (.inl rfl) h (by kernel_rfl) (ac (c102 k x0.1 x1 r1 hr6) an) fun a w h => ?_
 obtain ⟨r2,hr5,hF⟩:=of_bind hF
 refine wp_reg_seq tok (orc:=orcL [(12,[⟨.pt false 4294967295 (.sl true 171 (.st (.pair iS (.pair iS (.pair iS (.pair iS (.pair iS .str))))))),some r2.2⟩,⟨iS,r2.1⟩])]) (fz:=[]) (l:=[0,1,2]) (.inl rfl) h (by kernel_rfl) (ac (c103 k x0.2.1 r1.1 r2 hr5) an) fun a w h => ?_
 obtain ⟨r3,hr4,hF⟩:=of_bind hF
 refine wp_reg_seq tok (orc:=orcL [(16,[⟨.pt false 4294967295 (.sl true 174 (.st (.pair iS iS))),some r3.2⟩,⟨iS,r3.1⟩])]) (fz:=[]) (l:=[0,1,2]) (.inl rfl) h (by kernel_rfl) (ac (c104 k x0.2.2 r2.1 r3 hr4) an) fun a w h => ?_
 refine wp_reg_seq tok (orc:=o0) (fz:=[]) (l:=[0,2,4]) (.inl rfl) h (by kernel_rfl) an fun a w h => ?_
 cases hF
 exact wp_ret (retMS_ok (d:=2) (t:=71) tok h rfl (by kernel_rfl) (by kernel_rfl)).1
def f19.l20 (k:Nat):Nat → ((List Int) × Int × Int)→Option (Int × (List Int))
 | 0,_ => none
 | m20+1,(v34,v35,v36) => if (decide (v36 < (List.length v34:Int))) then (if (0≤v36∧v36 < (List.length v34:Int)) then ((f19.l20 k) m20 ((List.set v34 (Int.toNat v36) v35),(IntKind.i64.wrap (v35 + (1:Int))),(IntKind.i64.wrap (v36 + (1:Int))))) else none) else (some (v35,v34))
def f19 (k:Nat) (x0:(List Int)) (x1:Int):Option (Int × (List Int)):=f19.l20 k k (x0,x1,(0:Int))
theorem c19 (k:Nat) (x0:(List Int)) (x1:Int) (r:(Int × (List Int))) (hF:f19 k x0 x1=some r):PMut Try.prog 19 [⟨(.sl true 2 iS),x0⟩,⟨iS,x1⟩] [⟨iS,r.1⟩] (List.set [⟨(.sl true 2 iS),x0⟩,⟨iS,x1⟩] 0 ⟨(.sl true 2 iS),r.2⟩):=by
 refine pmut_intro (j:=0) (fin:=⟨(.sl true 2 iS),r.2⟩) Try.func19 rfl rfl (Nat.le_of_ble_eq_true rfl) (Nat.le_of_ble_eq_true rfl) (by kernel_rfl) ?_
 intro w0 Zi f0 v0 a w h
 rw [f19] at hF
 refine wp_reg_seq tok (orc:=o0) (fz:=[]) (l:=[0,1]) (.inl rfl) h (by kernel_rfl) an fun a w h => ?_
 refine wp_seq ?_
 refine wp_reg_seq tok (orc:=o0) (fz:=[]) (l:=[0,1,5]) (.inl rfl) h (by kernel_rfl) an fun a w h => ?_
 refine wp_block ?_
 refine wp_loop_fuel (f19.l20 k) (fun ((v34,v35,v36):((List Int) × Int × Int)) => [(0,.val (.sl true 2 iS) v34),(1,.val iS v35),(5,.val iS v36)]) (fun v h => by obtain ⟨v34,v35,v36⟩:=v; rw [f19.l20] at h; cases h) ?_ hF (h.arrive (fz:=[]) (l:=[0,1,5]) (.inl rfl) (by kernel_rfl))
 intro m20 v a w hF h
 obtain ⟨v34,v35,v36⟩:=v
 rw [f19.l20] at hF
 refine wp_seq ?_
 refine wp_reg_seq tok (orc:=o0) (fz:=[]) (l:=[0,1,5,9]) (.inl rfl) h (by kernel_rfl) an fun a w h => ?_
 refine zi h hF (fun hF => ?_) (fun hF => ?_)
 ·refine wp_skip ?_
  refine wp_seq <| wp_block ?_
  obtain ⟨hc38,hF⟩:=of_if hF
  refine wp_reg_seq tok (orc:=o0) (fz:=[]) (l:=[0,1,5]) (.inl rfl) h (by kernel_rfl) (ac hc38 an) fun a w h => ?_
  refine wp_reg tok (orc:=o0) (fz:=[]) (l:=[0,1,5]) (.inl rfl) h (by kernel_rfl) an fun a w h => ?_
  refine wp_reg tok (orc:=o0) (fz:=[]) (l:=[0,1,5]) (.inl rfl) h (by kernel_rfl) an fun a w h => ?_
  exact ⟨((List.set v34 (tZ v36) v35),(w64 (v35 + (1:Int))),(w64 (v36 + (1:Int)))),hF,h.arrive (fz:=[]) (l:=[0,1,5]) (.inl rfl) (by kernel_rfl)⟩
 ·refine wp_exit ?_
  refine wp_reg_seq tok (orc:=o0) (fz:=[]) (l:=[0,4]) (.inl rfl) h (by kernel_rfl) an fun a w h => ?_
  cases hF
  exact wp_ret (retM_ok tok h rfl (by kernel_rfl) (by kernel_rfl)).1
def f28.l32 (k:Nat):Nat → ((List (List Int)) × Int × Int)→Option (Int × (List (List Int)))
 | 0,_ => none
 | m32+1,(v54,v55,v56) => if (decide (v56 < (List.length v54:Int))) then (if (0≤v56∧v56 < (List.length v54:Int)) then ((f19 k (List.getD v54 (Int.toNat v56) ([]:(List Int))) v55).bind fun r60 => ((f28.l32 k) m32 ((List.set v54 (Int.toNat v56) r60.2),r60.1,(IntKind.i64.wrap (v56 + (1:Int)))))) else none) else (some (v55,v54))
def f28 (k:Nat) (x0:(List (List Int))) (x1:Int):Option (Int × (List (List Int))):=f28.l32 k k (x0,x1,(0:Int))
theorem c28 (k:Nat) (x0:(List (List Int))) (x1:Int) (r:(Int × (List (List Int)))) (hF:f28 k x0 x1=some r):PMut Try.prog 28 [⟨sh12,x0⟩,⟨iS,x1⟩] [⟨iS,r.1⟩] (List.set [⟨sh12,x0⟩,⟨iS,x1⟩] 0 ⟨sh12,r.2⟩):=by
 refine pmut_intro (j:=0) (fin:=⟨sh12,r.2⟩) Try.func28 rfl rfl (Nat.le_of_ble_eq_true rfl) (Nat.le_of_ble_eq_true rfl) (by kernel_rfl) ?_
 intro w0 Zi f0 v0 a w h
 rw [f28] at hF
 refine wp_reg_seq tok (orc:=o0) (fz:=[]) (l:=[0,1]) (.inl rfl) h (by kernel_rfl) an fun a w h => ?_
 refine wp_seq ?_
 refine wp_reg_seq tok (orc:=o0) (fz:=[]) (l:=[0,1,5]) (.inl rfl) h (by kernel_rfl) an fun a w h => ?_
 refine wp_block ?_
 refine wp_loop_fuel (f28.l32 k) (fun ((v54,v55,v56):((List (List Int)) × Int × Int)) => [(0,.val sh12 v54),(1,.val iS v55),(5,.val iS v56)]) (fun v h => by obtain ⟨v54,v55,v56⟩:=v; rw [f28.l32] at h; cases h) ?_ hF (h.arrive (fz:=[]) (l:=[0,1,5]) (.inl rfl) (by kernel_rfl))
 intro m32 v a w hF h
 obtain ⟨v54,v55,v56⟩:=v
 rw [f28.l32] at hF
 refine wp_seq ?_
 refine wp_reg_seq tok (orc:=o0) (fz:=[]) (l:=[0,1,5,9]) (.inl rfl) h (by kernel_rfl) an fun a w h => ?_
 refine zi h hF (fun hF => ?_) (fun hF => ?_)
 ·refine wp_skip ?_
  refine wp_seq <| wp_block ?_
  obtain ⟨hc61,hF⟩:=of_if hF
  obtain ⟨r60,hr62,hF⟩:=of_bind hF
  refine wp_reg tok (orc:=orcL [(17,[⟨.pt false 4294967295 (.sl true 2 iS),some r60.2⟩,⟨iS,r60.1⟩])]) (fz:=[]) (l:=[0,1,5]) (.inl rfl) h (by kernel_rfl) (ac hc61 (ac (c19 k (gD v54 (tZ v56) lO) v55 r60 hr62) an)) fun a w h => ?_
  refine wp_reg tok (orc:=o0) (fz:=[]) (l:=[0,1,5]) (.inl rfl) h (by kernel_rfl) an fun a w h => ?_
  exact ⟨((List.set v54 (tZ v56) r60.2),r60.1,(w64 (v56 + (1:Int)))),hF,h.arrive (fz:=[]) (l:=[0,1,5]) (.inl rfl) (by kernel_rfl)⟩
 ·refine wp_exit ?_
  refine wp_reg_seq tok (orc:=o0) (fz:=[]) (l:=[0,4]) (.inl rfl) h (by kernel_rfl) an fun a w h => ?_
  cases hF
  exact wp_ret (retM_ok tok h rfl (by kernel_rfl) (by kernel_rfl)).1
def f126.l28 (k:Nat) (x0:(List (Int × (Int × Int)))):Nat → (Int × Int)→Option Int
 | 0,_ => none
 | m28+1,(v47,v48) => if (decide (v48 < (List.length x0:Int))) then (if (0≤v48∧v48 < (List.length x0:Int)) then (if (((List.getD x0 (Int.toNat v48) ((0:Int),((0:Int),(0:Int)))).1:Int) != v47) then (some (-1:Int)) else (if (0≤v48∧v48 < (List.length x0:Int)) then (if (((List.getD x0 (Int.toNat v48) ((0:Int),((0:Int),(0:Int)))).2.1:Int) != (IntKind.i64.wrap (v47 + (1:Int)))) then (some (-1:Int)) else (if (0≤v48∧v48 < (List.length x0:Int)) then (if (((List.getD x0 (Int.toNat v48) ((0:Int),((0:Int),(0:Int)))).2.2:Int) != (IntKind.i64.wrap ((IntKind.i64.wrap (v47 + (1:Int))) + (1:Int)))) then (some (-1:Int)) else ((f126.l28 k x0) m28 ((IntKind.i64.wrap ((IntKind.i64.wrap ((IntKind.i64.wrap (v47 + (1:Int))) + (1:Int))) + (1:Int))),(IntKind.i64.wrap (v48 + (1:Int)))))) else none)) else none)) else none) else (some v47)
def f126 (k:Nat) (x0:(List (Int × (Int × Int)))) (x1:Int):Option Int:=f126.l28 k x0 k (x1,(0:Int))
theorem c126 (k:Nat) (x0:(List (Int × (Int × Int)))) (x1:Int) (r:Int) (hF:f126 k x0 x1=some r):PCall Try.prog 126 [⟨sh20,x0⟩,⟨iS,x1⟩] [⟨iS,r⟩]:=by
 refine pcall_intro Try.func126 rfl rfl (Nat.le_of_ble_eq_true rfl) ?_
 intro w0 Zi a w h
 rw [f126] at hF
 refine zs [0,1] h an fun a w h => ?_
 refine wp_seq ?_
 refine zs [0,1,5] h an fun a w h => ?_
 refine wp_block ?_
 refine wp_loop_fuel (f126.l28 k x0) (fun ((v47,v48):(Int × Int)) => [(0,.val sh20 x0),(1,.val iS v47),(5,.val iS v48)]) (fun v h => by obtain ⟨v47,v48⟩:=v; rw [f126.l28] at h; cases h) ?_ hF (ar h [0,1,5])
 intro m28 v a w hF h
 obtain ⟨v47,v48⟩:=v
 rw [f126.l28] at hF
 refine wp_seq ?_
 refine zs [0,1,5,9] h an fun a w h => ?_
 refine zi h hF (fun hF => ?_) (fun hF => ?_)
 ·refine wp_skip ?_
  refine wp_seq <| wp_block ?_
  refine wp_seq ?_
  obtain ⟨hc54,hF⟩:=of_if hF
  refine zs [0,1,5,18] h (ac hc54 an) fun a w h => ?_
  refine zi h hF (fun hF => ?_) (fun hF => ?_)
  ·refine zs [4] h an fun a w h => ?_
   cases hF
   exact wp_ret (ret_okR tok h rfl (by kernel_rfl)).1
  ·refine wp_skip ?_
   refine zs [0,1,5] h an fun a w h => ?_
   refine wp_seq ?_
   obtain ⟨hc53,hF⟩:=of_if hF
   refine zs [0,1,5,28] h (ac hc53 an) fun a w h => ?_
   refine zi h hF (fun hF => ?_) (fun hF => ?_)
   ·refine zs [4] h an fun a w h => ?_
    cases hF
    exact wp_ret (ret_okR tok h rfl (by kernel_rfl)).1
   ·refine wp_skip ?_
    refine zs [0,1,5] h an fun a w h => ?_
    refine wp_seq ?_
    obtain ⟨hc52,hF⟩:=of_if hF
    refine zs [0,1,5,38] h (ac hc52 an) fun a w h => ?_
    refine zi h hF (fun hF => ?_) (fun hF => ?_)
    ·refine zs [4] h an fun a w h => ?_
     cases hF
     exact wp_ret (ret_okR tok h rfl (by kernel_rfl)).1
    ·refine wp_skip ?_
     refine zt [0,1,5] h an fun a w h => ?_
     refine zt [0,1,5] h an fun a w h => ?_
     exact ⟨((w64 ((w64 ((w64 (v47 + (1:Int))) + (1:Int))) + (1:Int))),(w64 (v48 + (1:Int)))),hF,ar h [0,1,5]⟩
 ·refine wp_exit ?_
  refine zs [4] h an fun a w h => ?_
  cases hF
  exact wp_ret (ret_okR tok h rfl (by kernel_rfl)).1
def f127.l58 (k:Nat) (x0:(List (Int × (Int × (Int × (Int × (Int × ByteArray))))))):Nat → (Int × Int)→Option Int
 | 0,_ => none
 | m58+1,(v97,v98) => if (decide (v98 < (List.length x0:Int))) then (if (0≤v98∧v98 < (List.length x0:Int)) then (if (((List.getD x0 (Int.toNat v98) ((0:Int),((0:Int),((0:Int),((0:Int),((0:Int),(⟨#[]⟩:ByteArray))))))).1:Int) != v97) then (some (-1:Int)) else (if (0≤v98∧v98 < (List.length x0:Int)) then (if (((List.getD x0 (Int.toNat v98) ((0:Int),((0:Int),((0:Int),((0:Int),((0:Int),(⟨#[]⟩:ByteArray))))))).2.1:Int) != (IntKind.i64.wrap (v97 + (1:Int)))) then (some (-1:Int)) else (if (0≤v98∧v98 < (List.length x0:Int)) then (if (((List.getD x0 (Int.toNat v98) ((0:Int),((0:Int),((0:Int),((0:Int),((0:Int),(⟨#[]⟩:ByteArray))))))).2.2.1:Int) != (IntKind.i64.wrap ((IntKind.i64.wrap (v97 + (1:Int))) + (1:Int)))) then (some (-1:Int)) else (if (0≤v98∧v98 < (List.length x0:Int)) then (if (((List.getD x0 (Int.toNat v98) ((0:Int),((0:Int),((0:Int),((0:Int),((0:Int),(⟨#[]⟩:ByteArray))))))).2.2.2.1:Int) != (IntKind.i64.wrap ((IntKind.i64.wrap ((IntKind.i64.wrap (v97 + (1:Int))) + (1:Int))) + (1:Int)))) then (some (-1:Int)) else (if (0≤v98∧v98 < (List.length x0:Int)) then (if (((List.getD x0 (Int.toNat v98) ((0:Int),((0:Int),((0:Int),((0:Int),((0:Int),(⟨#[]⟩:ByteArray))))))).2.2.2.2.1:Int) != (IntKind.i64.wrap ((IntKind.i64.wrap ((IntKind.i64.wrap ((IntKind.i64.wrap (v97 + (1:Int))) + (1:Int))) + (1:Int))) + (1:Int)))) then (some (-1:Int)) else (if (0≤v98∧v98 < (List.length x0:Int)) then ((f119 k (IntKind.i64.wrap ((IntKind.i64.wrap ((IntKind.i64.wrap ((IntKind.i64.wrap ((IntKind.i64.wrap (v97 + (1:Int))) + (1:Int))) + (1:Int))) + (1:Int))) + (1:Int)))).bind fun r107 => (if (!(ByteArray.toList (List.getD x0 (Int.toNat v98) ((0:Int),((0:Int),((0:Int),((0:Int),((0:Int),(⟨#[]⟩:ByteArray))))))).2.2.2.2.2 == ByteArray.toList r107)) then (some (-1:Int)) else ((f127.l58 k x0) m58 ((IntKind.i64.wrap ((IntKind.i64.wrap ((IntKind.i64.wrap ((IntKind.i64.wrap ((IntKind.i64.wrap ((IntKind.i64.wrap (v97 + (1:Int))) + (1:Int))) + (1:Int))) + (1:Int))) + (1:Int))) + (1:Int))),(IntKind.i64.wrap (v98 + (1:Int))))))) else none)) else none)) else none)) else none)) else none)) else none) else (some v97)
def f127 (k:Nat) (x0:(List (Int × (Int × (Int × (Int × (Int × ByteArray))))))) (x1:Int):Option Int:=f127.l58 k x0 k (x1,(0:Int))
theorem c127 (k:Nat) (x0:(List (Int × (Int × (Int × (Int × (Int × ByteArray))))))) (x1:Int) (r:Int) (hF:f127 k x0 x1=some r):PCall Try.prog 127 [⟨sh21,x0⟩,⟨iS,x1⟩] [⟨iS,r⟩]:=by
 refine pcall_intro Try.func127 rfl rfl (Nat.le_of_ble_eq_true rfl) ?_
 intro w0 Zi a w h
 rw [f127] at hF
 refine zs [0,1] h an fun a w h => ?_
 refine wp_seq ?_
 refine zs [0,1,5] h an fun a w h => ?_
 refine wp_block ?_
 refine wp_loop_fuel (f127.l58 k x0) (fun ((v97,v98):(Int × Int)) => [(0,.val sh21 x0),(1,.val iS v97),(5,.val iS v98)]) (fun v h => by obtain ⟨v97,v98⟩:=v; rw [f127.l58] at h; cases h) ?_ hF (ar h [0,1,5])
 intro m58 v a w hF h
 obtain ⟨v97,v98⟩:=v
 rw [f127.l58] at hF
 refine wp_seq ?_
 refine zs [0,1,5,9] h an fun a w h => ?_
 refine zi h hF (fun hF => ?_) (fun hF => ?_)
 ·refine wp_skip ?_
  refine wp_seq <| wp_block ?_
  refine wp_seq ?_
  obtain ⟨hc114,hF⟩:=of_if hF
  refine zs [0,1,5,18] h (ac hc114 an) fun a w h => ?_
  refine zi h hF (fun hF => ?_) (fun hF => ?_)
  ·refine zs [4] h an fun a w h => ?_
   cases hF
   exact wp_ret (ret_okR tok h rfl (by kernel_rfl)).1
  ·refine wp_skip ?_
   refine zs [0,1,5] h an fun a w h => ?_
   refine wp_seq ?_
   obtain ⟨hc113,hF⟩:=of_if hF
   refine zs [0,1,5,27] h (ac hc113 an) fun a w h => ?_
   refine zi h hF (fun hF => ?_) (fun hF => ?_)
   ·refine zs [4] h an fun a w h => ?_
    cases hF
    exact wp_ret (ret_okR tok h rfl (by kernel_rfl)).1
   ·refine wp_skip ?_
    refine zs [0,1,5] h an fun a w h => ?_
    refine wp_seq ?_
    obtain ⟨hc112,hF⟩:=of_if hF
    refine zs [0,1,5,36] h (ac hc112 an) fun a w h => ?_
    refine zi h hF (fun hF => ?_) (fun hF => ?_)
    ·refine zs [4] h an fun a w h => ?_
     cases hF
     exact wp_ret (ret_okR tok h rfl (by kernel_rfl)).1
    ·refine wp_skip ?_
     refine zs [0,1,5] h an fun a w h => ?_
     refine wp_seq ?_
     obtain ⟨hc111,hF⟩:=of_if hF
     refine zs [0,1,5,45] h (ac hc111 an) fun a w h => ?_
     refine zi h hF (fun hF => ?_) (fun hF => ?_)
     ·refine zs [4] h an fun a w h => ?_
      cases hF
      exact wp_ret (ret_okR tok h rfl (by kernel_rfl)).1
     ·refine wp_skip ?_
      refine zs [0,1,5] h an fun a w h => ?_
      refine wp_seq ?_
      obtain ⟨hc110,hF⟩:=of_if hF
      refine zs [0,1,5,54] h (ac hc110 an) fun a w h => ?_
      refine zi h hF (fun hF => ?_) (fun hF => ?_)
      ·refine zs [4] h an fun a w h => ?_
       cases hF
       exact wp_ret (ret_okR tok h rfl (by kernel_rfl)).1
      ·refine wp_skip ?_
       refine zs [0,1,5] h an fun a w h => ?_
       refine wp_seq ?_
       obtain ⟨hc108,hF⟩:=of_if hF
       obtain ⟨r107,hr109,hF⟩:=of_bind hF
       refine wp_regy_seq tok (orc:=orcL [(63,[⟨.str,r107⟩])]) (l:=[0,1,5,64]) ([],[],[],[]) 8 nw h (by kernel_rfl) (by kernel_rfl) (ac hc108 (ac (c119 k (w64 ((w64 ((w64 ((w64 ((w64 (v97 + (1:Int))) + (1:Int))) + (1:Int))) + (1:Int))) + (1:Int))) r107 hr109) an)) fun a w h => ?_
       refine zi h hF (fun hF => ?_) (fun hF => ?_)
       ·refine zs [4] h an fun a w h => ?_
        cases hF
        exact wp_ret (ret_okR tok h rfl (by kernel_rfl)).1
       ·refine wp_skip ?_
        refine zt [0,1,5] h an fun a w h => ?_
        refine zt [0,1,5] h an fun a w h => ?_
        exact ⟨((w64 ((w64 ((w64 ((w64 ((w64 ((w64 (v97 + (1:Int))) + (1:Int))) + (1:Int))) + (1:Int))) + (1:Int))) + (1:Int))),(w64 (v98 + (1:Int)))),hF,ar h [0,1,5]⟩
 ·refine wp_exit ?_
  refine zs [4] h an fun a w h => ?_
  cases hF
  exact wp_ret (ret_okR tok h rfl (by kernel_rfl)).1
def f128.l22 (k:Nat) (x0:(List (Int × Int))):Nat → (Int × Int)→Option Int
 | 0,_ => none
 | m22+1,(v37,v38) => if (decide (v38 < (List.length x0:Int))) then (if (0≤v38∧v38 < (List.length x0:Int)) then (if (((List.getD x0 (Int.toNat v38) ((0:Int),(0:Int))).1:Int) != v37) then (some (-1:Int)) else (if (0≤v38∧v38 < (List.length x0:Int)) then (if (((List.getD x0 (Int.toNat v38) ((0:Int),(0:Int))).2:Int) != (IntKind.i64.wrap (v37 + (1:Int)))) then (some (-1:Int)) else ((f128.l22 k x0) m22 ((IntKind.i64.wrap ((IntKind.i64.wrap (v37 + (1:Int))) + (1:Int))),(IntKind.i64.wrap (v38 + (1:Int)))))) else none)) else none) else (some v37)
def f128 (k:Nat) (x0:(List (Int × Int))) (x1:Int):Option Int:=f128.l22 k x0 k (x1,(0:Int))
theorem c128 (k:Nat) (x0:(List (Int × Int))) (x1:Int) (r:Int) (hF:f128 k x0 x1=some r):PCall Try.prog 128 [⟨sh15,x0⟩,⟨iS,x1⟩] [⟨iS,r⟩]:=by
 refine pcall_intro Try.func128 rfl rfl (Nat.le_of_ble_eq_true rfl) ?_
 intro w0 Zi a w h
 rw [f128] at hF
 refine zs [0,1] h an fun a w h => ?_
 refine wp_seq ?_
 refine zs [0,1,5] h an fun a w h => ?_
 refine wp_block ?_
 refine wp_loop_fuel (f128.l22 k x0) (fun ((v37,v38):(Int × Int)) => [(0,.val sh15 x0),(1,.val iS v37),(5,.val iS v38)]) (fun v h => by obtain ⟨v37,v38⟩:=v; rw [f128.l22] at h; cases h) ?_ hF (ar h [0,1,5])
 intro m22 v a w hF h
 obtain ⟨v37,v38⟩:=v
 rw [f128.l22] at hF
 refine wp_seq ?_
 refine zs [0,1,5,9] h an fun a w h => ?_
 refine zi h hF (fun hF => ?_) (fun hF => ?_)
 ·refine wp_skip ?_
  refine wp_seq <| wp_block ?_
  refine wp_seq ?_
  obtain ⟨hc42,hF⟩:=of_if hF
  refine zs [0,1,5,18] h (ac hc42 an) fun a w h => ?_
  refine zi h hF (fun hF => ?_) (fun hF => ?_)
  ·refine zs [4] h an fun a w h => ?_
   cases hF
   exact wp_ret (ret_okR tok h rfl (by kernel_rfl)).1
  ·refine wp_skip ?_
   refine zs [0,1,5] h an fun a w h => ?_
   refine wp_seq ?_
   obtain ⟨hc41,hF⟩:=of_if hF
   refine zs [0,1,5,27] h (ac hc41 an) fun a w h => ?_
   refine zi h hF (fun hF => ?_) (fun hF => ?_)
   ·refine zs [4] h an fun a w h => ?_
    cases hF
    exact wp_ret (ret_okR tok h rfl (by kernel_rfl)).1
   ·refine wp_skip ?_
    refine zt [0,1,5] h an fun a w h => ?_
    refine zt [0,1,5] h an fun a w h => ?_
    exact ⟨((w64 ((w64 (v37 + (1:Int))) + (1:Int))),(w64 (v38 + (1:Int)))),hF,ar h [0,1,5]⟩
 ·refine wp_exit ?_
  refine zs [4] h an fun a w h => ?_
  cases hF
  exact wp_ret (ret_okR tok h rfl (by kernel_rfl)).1
def f64 (k:Nat) (x0:((List (Int × (Int × Int))) × ((List (Int × (Int × (Int × (Int × (Int × ByteArray)))))) × (List (Int × Int))))) (x1:Int):Option Int:=(f126 k x0.1 x1).bind fun r1 => (if (decide (r1 < (0:Int))) then (some (-1:Int)) else ((f127 k x0.2.1 r1).bind fun r2 => (if (decide (r2 < (0:Int))) then (some (-1:Int)) else ((f128 k x0.2.2 r2).bind fun r3 => (if (decide (r3 < (0:Int))) then (some (-1:Int)) else (some r3))))))
theorem c64 (k:Nat) (x0:tG) (x1:Int) (r:Int) (hF:f64 k x0 x1=some r):PCall Try.prog 64 [⟨sh14,x0⟩,⟨iS,x1⟩] [⟨iS,r⟩]:=by
 refine pcall_intro Try.func64 rfl rfl (Nat.le_of_ble_eq_true rfl) ?_
 intro w0 Zi a w h
 rw [f64] at hF
 refine zs [1,2] h an fun a w h => ?_
 obtain ⟨r1,hr6,hF⟩:=of_bind hF
 refine zc (orcL [(8,[⟨iS,r1⟩])]) [1,2] h (ac (c126 k x0.1 x1 r1 hr6) an) fun a w h => ?_
 refine wp_seq ?_
 refine zs [1,2,10] h an fun a w h => ?_
 refine zi h hF (fun hF => ?_) (fun hF => ?_)
 ·refine zs [4] h an fun a w h => ?_
  cases hF
  exact wp_ret (ret_okR tok h rfl (by kernel_rfl)).1
 ·refine wp_skip ?_
  obtain ⟨r2,hr5,hF⟩:=of_bind hF
  refine zc (orcL [(14,[⟨iS,r2⟩])]) [1,2] h (ac (c127 k x0.2.1 r1 r2 hr5) an) fun a w h => ?_
  refine wp_seq ?_
  refine zs [1,2,16] h an fun a w h => ?_
  refine zi h hF (fun hF => ?_) (fun hF => ?_)
  ·refine zs [4] h an fun a w h => ?_
   cases hF
   exact wp_ret (ret_okR tok h rfl (by kernel_rfl)).1
  ·refine wp_skip ?_
   obtain ⟨r3,hr4,hF⟩:=of_bind hF
   refine zc (orcL [(20,[⟨iS,r3⟩])]) [1] h (ac (c128 k x0.2.2 r2 r3 hr4) an) fun a w h => ?_
   refine wp_seq ?_
   refine zs [1,22] h an fun a w h => ?_
   refine zi h hF (fun hF => ?_) (fun hF => ?_)
   ·refine zs [4] h an fun a w h => ?_
    cases hF
    exact wp_ret (ret_okR tok h rfl (by kernel_rfl)).1
   ·refine wp_skip ?_
    refine zs [4] h an fun a w h => ?_
    cases hF
    exact wp_ret (ret_okR tok h rfl (by kernel_rfl)).1
def f10 (k:Nat) (x0:((List (Int × (Int × Int))) × ((List (Int × (Int × (Int × (Int × (Int × ByteArray)))))) × (List (Int × Int))))) (x1:(List (List Int))):Option Bool:=(f40 k x0 (1048576:Int)).bind fun r1 => (if (decide (r1 < (0:Int))) then (some true) else ((f65 k x1 r1).bind fun r2 => (if (decide (r2 < (0:Int))) then (some true) else ((f42 k x0).bind fun r3 => ((f67 k x1).bind fun r4 => ((f66 k r3 r4).bind fun r5 => ((f42 k x0).bind fun r6 => ((f67 k x1).bind fun r7 => ((f68 k r6 r7).bind fun r8 => ((f45 k r8 r5).bind fun r9 => (if (!r9) then (some false) else ((f42 k x0).bind fun r10 => ((f45 k r6 r10).bind fun r11 => (if (!r11) then (some false) else ((f67 k x1).bind fun r12 => ((f25 k r7 r12).bind fun r13 => (if (!r13) then (some false) else ((f46 k r6 (1:Int)).bind fun r14 => ((f28 k r7 r14.1).bind fun r15 => ((if ((decide (r15.1 < (0:Int)))=false) then f45 k r8 r5 else some default).bind fun r16 => (if (bif (decide (r15.1 < (0:Int))) then true else (!r16)) then (some false) else ((f46 k r8 (1:Int)).bind fun r17 => ((f64 k r17.2 (1:Int)).bind fun r18 => (if (decide (r18 < (0:Int))) then (some false) else (if (r18 != r17.1) then (some false) else ((f42 k x0).bind fun r19 => ((f67 k x1).bind fun r20 => ((f68 k r19 r20).bind fun r21 => ((f45 k r21 r5).bind fun r22 => (if (!r22) then (some false) else ((f64 k r17.2 (1:Int)).bind fun r23 => (if (decide (r23 < (0:Int))) then (some false) else (if (r23 != r17.1) then (some false) else (some true))))))))))))))))))))))))))))))))))
theorem c10 (k:Nat) (x0:tG) (x1:(List (List Int))) (h173:H173) (r:Bool) (hF:f10 k x0 x1=some r):PCall Try.prog 10 [⟨sh4,x0⟩,⟨sh5,x1⟩] [⟨.bool,r⟩]:=by
 refine pcall_intro Try.func10 rfl rfl (Nat.le_of_ble_eq_true rfl) ?_
 intro w0 Zi a w h
 rw [f10] at hF
 refine zs [1,2] h an fun a w h => ?_
 refine zs [1,2,5] h an fun a w h => ?_
 obtain ⟨r1,hr46,hF⟩:=of_bind hF
 refine zc (orcL [(16,[⟨iS,r1⟩])]) [1,2,5] h (ac (c40 k x0 (1048576:Int) r1 hr46) an) fun a w h => ?_
 refine wp_seq ?_
 refine zs [1,2,5,18] h an fun a w h => ?_
 refine zi h hF (fun hF => ?_) (fun hF => ?_)
 ·refine zs [4] h an fun a w h => ?_
  cases hF
  exact wp_ret (ret_okR tok h rfl (by kernel_rfl)).1
 ·refine wp_skip ?_
  obtain ⟨r2,hr45,hF⟩:=of_bind hF
  refine zc (orcL [(21,[⟨iS,r2⟩])]) [1,2,5] h (ac (c65 k x1 r1 r2 hr45) an) fun a w h => ?_
  refine wp_seq ?_
  refine zs [1,2,23] h an fun a w h => ?_
  refine zi h hF (fun hF => ?_) (fun hF => ?_)
  ·refine zs [4] h an fun a w h => ?_
   cases hF
   exact wp_ret (ret_okR tok h rfl (by kernel_rfl)).1
  ·refine wp_skip ?_
   obtain ⟨r3,hr42,hF⟩:=of_bind hF
   obtain ⟨r4,hr43,hF⟩:=of_bind hF
   obtain ⟨r5,hr44,hF⟩:=of_bind hF
   refine zc (orcL [(25,[⟨sh11,r3⟩]),(27,[⟨sh12,r4⟩]),(28,[⟨sh11,r5⟩])]) [1,2,6] h (ac (c42 k x0 r3 hr42) (ac (c67 k x1 r4 hr43) (ac (c66 k r3 r4 r5 hr44) an))) fun a w h => ?_
   obtain ⟨r6,hr41,hF⟩:=of_bind hF
   refine zc (orcL [(30,[⟨sh11,r6⟩])]) [1,2,6,7] h (ac (c42 k x0 r6 hr41) an) fun a w h => ?_
   obtain ⟨r7,hr40,hF⟩:=of_bind hF
   refine zc (orcL [(32,[⟨sh12,r7⟩])]) [1,2,6,7,8] h (ac (c67 k x1 r7 hr40) an) fun a w h => ?_
   obtain ⟨r8,hr39,hF⟩:=of_bind hF
   refine zc (orcL [(35,[⟨sh11,r8⟩])]) [1,2,6,7,8,9] h (ac (c68 k r6 r7 h173 r8 hr39) an) fun a w h => ?_
   refine wp_seq ?_
   obtain ⟨r9,hr38,hF⟩:=of_bind hF
   refine zc (orcL [(38,[⟨.bool,r9⟩])]) [1,2,6,7,8,9,39] h (ac (c45 k r8 r5 r9 hr38) an) fun a w h => ?_
   refine zi h hF (fun hF => ?_) (fun hF => ?_)
   ·refine zs [4] h an fun a w h => ?_
    cases hF
    exact wp_ret (ret_okR tok h rfl (by kernel_rfl)).1
   ·refine wp_skip ?_
    refine wp_seq ?_
    obtain ⟨r10,hr36,hF⟩:=of_bind hF
    obtain ⟨r11,hr37,hF⟩:=of_bind hF
    refine wp_regy_seq tok (orc:=orcL [(42,[⟨sh11,r10⟩]),(43,[⟨.bool,r11⟩])]) (l:=[1,2,6,7,8,9,44]) ([],[],[],[]) 5 nw h (by kernel_rfl) (by kernel_rfl) (ac (c42 k x0 r10 hr36) (ac (c45 k r6 r10 r11 hr37) an)) fun a w h => ?_
    refine zi h hF (fun hF => ?_) (fun hF => ?_)
    ·refine zs [4] h an fun a w h => ?_
     cases hF
     exact wp_ret (ret_okR tok h rfl (by kernel_rfl)).1
    ·refine wp_skip ?_
     refine wp_seq ?_
     obtain ⟨r12,hr34,hF⟩:=of_bind hF
     obtain ⟨r13,hr35,hF⟩:=of_bind hF
     refine zc (orcL [(47,[⟨sh12,r12⟩]),(48,[⟨.bool,r13⟩])]) [1,2,6,7,8,9,49] h (ac (c67 k x1 r12 hr34) (ac (c25 k r7 r12 r13 hr35) an)) fun a w h => ?_
     refine zi h hF (fun hF => ?_) (fun hF => ?_)
     ·refine zs [4] h an fun a w h => ?_
      cases hF
      exact wp_ret (ret_okR tok h rfl (by kernel_rfl)).1
     ·refine wp_skip ?_
      refine zs [1,2,6,7,8,9,10] h an fun a w h => ?_
      obtain ⟨r14,hr33,hF⟩:=of_bind hF
      refine zc (orcL [(52,[⟨.pt false 4294967295 (.st (.pair (.sl true 181 (.st (.pair iS (.st (.pair iS iS))))) (.pair (.sl true 171 (.st (.pair iS (.pair iS (.pair iS (.pair iS (.pair iS .str))))))) (.sl true 174 (.st (.pair iS iS)))))),some r14.2⟩,⟨iS,r14.1⟩])]) [1,2,6,8,9,10] h (ac (c46 k r6 (1:Int) r14 hr33) an) fun a w h => ?_
      obtain ⟨r15,hr32,hF⟩:=of_bind hF
      refine zc (orcL [(55,[⟨.pt false 4294967295 (.sl true 23 (.sl true 2 iS)),some r15.2⟩,⟨iS,r15.1⟩])]) [1,2,6,9,10] h (ac (c28 k r7 r14.1 r15 hr32) an) fun a w h => ?_
      refine wp_seq ?_
      obtain ⟨r16,hr31,hF⟩:=of_bind hF
      refine zc (orcL [(61,[⟨.bool,r16⟩])]) [1,2,6,9,63] h (ac (fun (hg:((decide (r15.1 < iO))=false)) => c45 k r8 r5 r16 (of_g hg hr31)) an) fun a w h => ?_
      refine zi h hF (fun hF => ?_) (fun hF => ?_)
      ·refine zs [4] h an fun a w h => ?_
       cases hF
       exact wp_ret (ret_okR tok h rfl (by kernel_rfl)).1
      ·refine wp_skip ?_
       refine zs [1,2,6,9,11] h an fun a w h => ?_
       obtain ⟨r17,hr30,hF⟩:=of_bind hF
       refine zc (orcL [(66,[⟨.pt false 4294967295 (.st (.pair (.sl true 181 (.st (.pair iS (.st (.pair iS iS))))) (.pair (.sl true 171 (.st (.pair iS (.pair iS (.pair iS (.pair iS (.pair iS .str))))))) (.sl true 174 (.st (.pair iS iS)))))),some r17.2⟩,⟨iS,r17.1⟩])]) [1,2,6,9,11] h (ac (c46 k r8 (1:Int) r17 hr30) an) fun a w h => ?_
       refine zs [1,2,6,9,11,12] h an fun a w h => ?_
       obtain ⟨r18,hr29,hF⟩:=of_bind hF
       refine zc (orcL [(69,[⟨iS,r18⟩])]) [1,2,6,9,11,12] h (ac (c64 k r17.2 (1:Int) r18 hr29) an) fun a w h => ?_
       refine wp_seq ?_
       refine zs [1,2,6,9,11,12,71] h an fun a w h => ?_
       refine zi h hF (fun hF => ?_) (fun hF => ?_)
       ·refine zs [4] h an fun a w h => ?_
        cases hF
        exact wp_ret (ret_okR tok h rfl (by kernel_rfl)).1
       ·refine wp_skip ?_
        refine wp_seq ?_
        refine zs [1,2,6,9,11,74] h an fun a w h => ?_
        refine zi h hF (fun hF => ?_) (fun hF => ?_)
        ·refine zs [4] h an fun a w h => ?_
         cases hF
         exact wp_ret (ret_okR tok h rfl (by kernel_rfl)).1
        ·refine wp_skip ?_
         obtain ⟨r19,hr26,hF⟩:=of_bind hF
         obtain ⟨r20,hr27,hF⟩:=of_bind hF
         obtain ⟨r21,hr28,hF⟩:=of_bind hF
         refine zc (orcL [(76,[⟨sh11,r19⟩]),(78,[⟨sh12,r20⟩]),(79,[⟨sh11,r21⟩])]) [6,9,11,13] h (ac (c42 k x0 r19 hr26) (ac (c67 k x1 r20 hr27) (ac (c68 k r19 r20 h173 r21 hr28) an))) fun a w h => ?_
         refine wp_seq ?_
         obtain ⟨r22,hr25,hF⟩:=of_bind hF
         refine zc (orcL [(82,[⟨.bool,r22⟩])]) [9,11,83] h (ac (c45 k r21 r5 r22 hr25) an) fun a w h => ?_
         refine zi h hF (fun hF => ?_) (fun hF => ?_)
         ·refine zs [4] h an fun a w h => ?_
          cases hF
          exact wp_ret (ret_okR tok h rfl (by kernel_rfl)).1
         ·refine wp_skip ?_
          refine zs [9,11,12] h an fun a w h => ?_
          obtain ⟨r23,hr24,hF⟩:=of_bind hF
          refine zc (orcL [(86,[⟨iS,r23⟩])]) [11,12] h (ac (c64 k r17.2 (1:Int) r23 hr24) an) fun a w h => ?_
          refine wp_seq ?_
          refine zs [11,12,88] h an fun a w h => ?_
          refine zi h hF (fun hF => ?_) (fun hF => ?_)
          ·refine zs [4] h an fun a w h => ?_
           cases hF
           exact wp_ret (ret_okR tok h rfl (by kernel_rfl)).1
          ·refine wp_skip ?_
           refine wp_seq ?_
           refine zs [91] h an fun a w h => ?_
           refine zi h hF (fun hF => ?_) (fun hF => ?_)
           ·refine zs [4] h an fun a w h => ?_
            cases hF
            exact wp_ret (ret_okR tok h rfl (by kernel_rfl)).1
           ·refine wp_skip ?_
            refine zs [4] h an fun a w h => ?_
            cases hF
            exact wp_ret (ret_okR tok h rfl (by kernel_rfl)).1
end Go.Proofs.Ytnpaokckkbhdjaa.V
