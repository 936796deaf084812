/-
  THE CONTRACTS OF SOME FUNCTIONS OF THIS SEAT, PRINTED BY A PROGRAM OF THIS PROJECT (wip/gen/vgen.py).
-/
import Derived.Test.YtnpaokckkbhdjaaProg
import Derived.Test.YtnpaokckkbhdjaaVmW
import Derived.Test.YtnpaokckkbhdjaaVmSr
import Derived.KernelRfl
import Derived.Test.YtnpaokckkbhdjaaVmHo
import Derived.Test.YtnpaokckkbhdjaaSoQ
set_option linter.unusedVariables false
open Go Go.Vm Go.Proofs
namespace Go.Proofs.Ytnpaokckkbhdjaa.V
set_option maxRecDepth 100000
abbrev zR:Int × (Int × (Int × (Int × (Int × ByteArray)))):=((0:Int),((0:Int),((0:Int),((0:Int),((0:Int),(⟨#[]⟩:ByteArray))))))
abbrev tG:=((List (Int × (Int × Int))) × ((List (Int × (Int × (Int × (Int × (Int × ByteArray)))))) × (List (Int × Int))))
abbrev tN:=(((List (Int × (Int × Int))) × ((List (Int × (Int × (Int × (Int × (Int × ByteArray)))))) × (List (Int × Int)))) × ((List (List Int)) × ((List (List Int)) × (Option (List ((Int × Int) × Bool))))))
abbrev gD {α:Type} (l:List α) (i:Nat) (d:α):α:=List.getD l i d
abbrev tZ (n:Int):Nat:=Int.toNat n
abbrev iO:Int:=0
abbrev lO:List Int:=[]
theorem nw {p:Prop}:([]:List Nat)=[]∨p:=.inl rfl
abbrev o0:=orcL []
theorem ac {p:Prop} {l:List Prop} (h:p) (t:AllP l):AllP (p :: l):=AllP.cons h t
theorem an:AllP []:=AllP.nil
abbrev sh0:Sh:=(.sl false 108 (.st (.pair (.int .i64) (.int .i64))))
abbrev sh1:Sh:=(.sl false 288 (.st (.pair .str .str)))
abbrev sh2:Sh:=(.st (.pair (.int .i64) (.pair (.sl false 108 (.st (.pair (.int .i64) (.int .i64)))) (.sl false 288 (.st (.pair .str .str))))))
abbrev sh3:Sh:=(.sl false 227 (.st (.pair (.int .i64) (.pair (.sl false 108 (.st (.pair (.int .i64) (.int .i64)))) (.sl false 288 (.st (.pair .str .str)))))))
abbrev sh4:Sh:=(.st (.pair (.st (.pair (.int .i64) (.pair (.int .i64) (.int .i64)))) (.sl false 227 (.st (.pair (.int .i64) (.pair (.sl false 108 (.st (.pair (.int .i64) (.int .i64)))) (.sl false 288 (.st (.pair .str .str)))))))))
abbrev sh5:Sh:=(.st (.pair .str (.pair (.int .i64) .str)))
abbrev sh6:Sh:=(.sl false 269 (.st (.pair .str (.pair (.int .i64) .str))))
abbrev sh7:Sh:=(.st (.pair (.int .i64) (.pair (.int .i64) (.pair (.sl false 269 (.st (.pair .str (.pair (.int .i64) .str)))) (.pair .bool (.pair .str (.pair (.int .i64) (.int .i64))))))))
abbrev sh8:Sh:=(.sl false 147 (.st (.pair (.int .i64) (.pair (.int .i64) (.pair (.sl false 269 (.st (.pair .str (.pair (.int .i64) .str)))) (.pair .bool (.pair .str (.pair (.int .i64) (.int .i64)))))))))
abbrev sh9:Sh:=(.st (.pair (.int .i64) (.pair (.int .i64) (.int .i64))))
abbrev sh10:Sh:=(.st (.pair (.int .i64) (.int .i64)))
abbrev sh11:Sh:=(.sl true 52 (.st (.pair (.int .i64) (.int .i64))))
abbrev sh12:Sh:=(.sl true 272 (.st (.pair .str .str)))
abbrev sh13:Sh:=(.st (.pair (.int .i64) (.pair (.sl true 52 (.st (.pair (.int .i64) (.int .i64)))) (.sl true 272 (.st (.pair .str .str))))))
abbrev sh14:Sh:=(.sl true 151 (.st (.pair (.int .i64) (.pair (.sl true 52 (.st (.pair (.int .i64) (.int .i64)))) (.sl true 272 (.st (.pair .str .str)))))))
abbrev sh15:Sh:=(.st (.pair (.st (.pair (.int .i64) (.pair (.int .i64) (.int .i64)))) (.sl true 151 (.st (.pair (.int .i64) (.pair (.sl true 52 (.st (.pair (.int .i64) (.int .i64)))) (.sl true 272 (.st (.pair .str .str)))))))))
abbrev sh16:Sh:=(.sl true 238 (.st (.pair .str (.pair (.int .i64) .str))))
abbrev sh17:Sh:=(.st (.pair (.int .i64) (.pair (.int .i64) (.pair (.sl true 238 (.st (.pair .str (.pair (.int .i64) .str)))) (.pair .bool (.pair .str (.pair (.int .i64) (.int .i64))))))))
abbrev sh18:Sh:=(.sl true 154 (.st (.pair (.int .i64) (.pair (.int .i64) (.pair (.sl true 238 (.st (.pair .str (.pair (.int .i64) .str)))) (.pair .bool (.pair .str (.pair (.int .i64) (.int .i64)))))))))
abbrev sh19:Sh:=(.sl false 272 (.st (.pair .str .str)))
abbrev sh20:Sh:=(.pt true 154 (.st (.pair (.int .i64) (.pair (.int .i64) (.pair (.sl false 238 (.st (.pair .str (.pair (.int .i64) .str)))) (.pair .bool (.pair .str (.pair (.int .i64) (.int .i64)))))))))
abbrev sh21:Sh:=(.pt true 238 (.st (.pair .str (.pair (.int .i64) .str))))
abbrev sh22:Sh:=(.st (.pair (.int .i64) (.pair (.int .i64) (.pair (.sl false 238 (.st (.pair .str (.pair (.int .i64) .str)))) (.pair .bool (.pair .str (.pair (.int .i64) (.int .i64))))))))
abbrev sh23:Sh:=(.sl false 154 (.st (.pair (.int .i64) (.pair (.int .i64) (.pair (.sl false 238 (.st (.pair .str (.pair (.int .i64) .str)))) (.pair .bool (.pair .str (.pair (.int .i64) (.int .i64)))))))))
abbrev sh24:Sh:=(.pt true 154 (.st (.pair (.int .i64) (.pair (.int .i64) (.pair (.sl true 238 (.st (.pair .str (.pair (.int .i64) .str)))) (.pair .bool (.pair .str (.pair (.int .i64) (.int .i64)))))))))
abbrev sh25:Sh:=(.pt true 91 (.st (.pair (.st (.pair (.int .i64) (.pair (.int .i64) (.int .i64)))) (.sl false 151 (.st (.pair (.int .i64) (.pair (.sl false 52 (.st (.pair (.int .i64) (.int .i64)))) (.sl false 272 (.st (.pair .str .str))))))))))
abbrev sh26:Sh:=(.sl true 158 (.st (.pair (.int .i64) (.pair (.sl false 52 (.st (.pair (.int .i64) (.int .i64)))) (.pair .str (.pair (.int .i64) (.int .i64)))))))
abbrev sh27:Sh:=(.pt true 151 (.st (.pair (.int .i64) (.pair (.sl false 52 (.st (.pair (.int .i64) (.int .i64)))) (.sl false 272 (.st (.pair .str .str)))))))
abbrev sh28:Sh:=(.sl false 158 (.st (.pair (.int .i64) (.pair (.sl false 52 (.st (.pair (.int .i64) (.int .i64)))) (.pair .str (.pair (.int .i64) (.int .i64)))))))
abbrev sh29:Sh:=(.pt false 158 (.st (.pair (.int .i64) (.pair (.sl false 52 (.st (.pair (.int .i64) (.int .i64)))) (.pair .str (.pair (.int .i64) (.int .i64)))))))
abbrev sh30:Sh:=(.st (.pair (.int .i64) (.pair (.sl false 52 (.st (.pair (.int .i64) (.int .i64)))) (.pair .str (.pair (.int .i64) (.int .i64))))))
abbrev sh31:Sh:=(.st (.pair (.st (.pair (.int .i64) (.pair (.int .i64) (.int .i64)))) (.sl false 151 (.st (.pair (.int .i64) (.pair (.sl false 52 (.st (.pair (.int .i64) (.int .i64)))) (.sl false 272 (.st (.pair .str .str)))))))))
abbrev sh32:Sh:=(.sl false 238 (.st (.pair .str (.pair (.int .i64) .str))))
abbrev sh33:Sh:=(.pt true 86 (.sl true 158 (.st (.pair (.int .i64) (.pair (.sl true 52 (.st (.pair (.int .i64) (.int .i64)))) (.pair .str (.pair (.int .i64) (.int .i64))))))))
abbrev sh34:Sh:=(.sl false 151 (.st (.pair (.int .i64) (.pair (.sl false 52 (.st (.pair (.int .i64) (.int .i64)))) (.sl false 272 (.st (.pair .str .str)))))))
abbrev sh35:Sh:=(.sl true 158 (.st (.pair (.int .i64) (.pair (.sl true 52 (.st (.pair (.int .i64) (.int .i64)))) (.pair .str (.pair (.int .i64) (.int .i64)))))))
abbrev sh36:Sh:=(.sl false 52 (.st (.pair (.int .i64) (.int .i64))))
abbrev sh37:Sh:=(.st (.pair (.int .i64) (.pair (.sl true 52 (.st (.pair (.int .i64) (.int .i64)))) (.pair .str (.pair (.int .i64) (.int .i64))))))
abbrev sh38:Sh:=(.pt false 0 (.sl false 158 (.st (.pair (.int .i64) (.pair (.sl false 52 (.st (.pair (.int .i64) (.int .i64)))) (.pair .str (.pair (.int .i64) (.int .i64))))))))
abbrev sh39:Sh:=(.st (.pair (.int .i64) (.pair (.sl false 52 (.st (.pair (.int .i64) (.int .i64)))) (.sl false 272 (.st (.pair .str .str))))))
def tbl:Tbl:=[⟨2,.int .i64,1,8,(.int .i64)⟩,
 ⟨3,.int .i64,1,8,(.int .i64)⟩,
 ⟨4,.bool,1,1,.bool⟩,
 ⟨5,.int .u8,1,1,(.int .u8)⟩,
 ⟨9,.string,1,16,.str⟩,
 ⟨45,.slice 5,1,24,(.sl true 5 (.int .u8))⟩,
 ⟨52,.struct [(2,0),(2,1)],2,16,(.st (.pair (.int .i64) (.int .i64)))⟩,
 ⟨79,.struct [(2,0),(2,1),(2,2)],3,24,(.st (.pair (.int .i64) (.pair (.int .i64) (.int .i64))))⟩,
 ⟨80,.slice 227,1,24,(.sl true 227 (.st (.pair (.int .i64) (.pair (.sl true 108 (.st (.pair (.int .i64) (.int .i64)))) (.sl true 288 (.st (.pair .str .str)))))))⟩,
 ⟨82,.struct [(79,0),(80,3)],4,48,(.st (.pair (.st (.pair (.int .i64) (.pair (.int .i64) (.int .i64)))) (.sl true 227 (.st (.pair (.int .i64) (.pair (.sl true 108 (.st (.pair (.int .i64) (.int .i64)))) (.sl true 288 (.st (.pair .str .str)))))))))⟩,
 ⟨83,.slice 147,1,24,(.sl true 147 (.st (.pair (.int .i64) (.pair (.int .i64) (.pair (.sl true 269 (.st (.pair .str (.pair (.int .i64) .str)))) (.pair .bool (.pair .str (.pair (.int .i64) (.int .i64)))))))))⟩,
 ⟨86,.slice 158,1,24,(.sl true 158 (.st (.pair (.int .i64) (.pair (.sl true 52 (.st (.pair (.int .i64) (.int .i64)))) (.pair .str (.pair (.int .i64) (.int .i64)))))))⟩,
 ⟨88,.struct [(2,0),(2,1),(2,2)],3,24,(.st (.pair (.int .i64) (.pair (.int .i64) (.int .i64))))⟩,
 ⟨89,.slice 151,1,24,(.sl true 151 (.st (.pair (.int .i64) (.pair (.sl true 52 (.st (.pair (.int .i64) (.int .i64)))) (.sl true 272 (.st (.pair .str .str)))))))⟩,
 ⟨91,.struct [(88,0),(89,3)],4,48,(.st (.pair (.st (.pair (.int .i64) (.pair (.int .i64) (.int .i64)))) (.sl true 151 (.st (.pair (.int .i64) (.pair (.sl true 52 (.st (.pair (.int .i64) (.int .i64)))) (.sl true 272 (.st (.pair .str .str)))))))))⟩,
 ⟨93,.slice 154,1,24,(.sl true 154 (.st (.pair (.int .i64) (.pair (.int .i64) (.pair (.sl true 238 (.st (.pair .str (.pair (.int .i64) .str)))) (.pair .bool (.pair .str (.pair (.int .i64) (.int .i64)))))))))⟩,
 ⟨108,.struct [(2,0),(2,1)],2,16,(.st (.pair (.int .i64) (.int .i64)))⟩,
 ⟨145,.slice 269,1,24,(.sl true 269 (.st (.pair .str (.pair (.int .i64) .str))))⟩,
 ⟨147,.struct [(2,0),(2,1),(145,2),(4,3),(9,4),(2,5),(2,6)],7,80,(.st (.pair (.int .i64) (.pair (.int .i64) (.pair (.sl true 269 (.st (.pair .str (.pair (.int .i64) .str)))) (.pair .bool (.pair .str (.pair (.int .i64) (.int .i64))))))))⟩,
 ⟨148,.slice 52,1,24,(.sl true 52 (.st (.pair (.int .i64) (.int .i64))))⟩,
 ⟨149,.slice 272,1,24,(.sl true 272 (.st (.pair .str .str)))⟩,
 ⟨151,.struct [(2,0),(148,1),(149,2)],3,56,(.st (.pair (.int .i64) (.pair (.sl true 52 (.st (.pair (.int .i64) (.int .i64)))) (.sl true 272 (.st (.pair .str .str))))))⟩,
 ⟨152,.slice 238,1,24,(.sl true 238 (.st (.pair .str (.pair (.int .i64) .str))))⟩,
 ⟨154,.struct [(2,0),(2,1),(152,2),(4,3),(9,4),(2,5),(2,6)],7,80,(.st (.pair (.int .i64) (.pair (.int .i64) (.pair (.sl true 238 (.st (.pair .str (.pair (.int .i64) .str)))) (.pair .bool (.pair .str (.pair (.int .i64) (.int .i64))))))))⟩,
 ⟨158,.struct [(2,0),(148,1),(9,2),(2,3),(2,4)],5,64,(.st (.pair (.int .i64) (.pair (.sl true 52 (.st (.pair (.int .i64) (.int .i64)))) (.pair .str (.pair (.int .i64) (.int .i64))))))⟩,
 ⟨224,.slice 108,1,24,(.sl true 108 (.st (.pair (.int .i64) (.int .i64))))⟩,
 ⟨225,.slice 288,1,24,(.sl true 288 (.st (.pair .str .str)))⟩,
 ⟨227,.struct [(2,0),(224,1),(225,2)],3,56,(.st (.pair (.int .i64) (.pair (.sl true 108 (.st (.pair (.int .i64) (.int .i64)))) (.sl true 288 (.st (.pair .str .str))))))⟩,
 ⟨238,.struct [(9,0),(2,1),(9,2)],3,40,(.st (.pair .str (.pair (.int .i64) .str)))⟩,
 ⟨269,.struct [(9,0),(2,1),(9,2)],3,40,(.st (.pair .str (.pair (.int .i64) .str)))⟩,
 ⟨272,.struct [(9,0),(9,1)],2,32,(.st (.pair .str .str))⟩,
 ⟨288,.struct [(9,0),(9,1)],2,32,(.st (.pair .str .str))⟩]
theorem tok:TOk Try.prog tbl:=by unfold TOk; kernel_rfl
abbrev iS:Sh:=.int .i64
section
variable {w0:World} {Wr Zi:Fp} {N:Fr} {S S':SS} {a:Act} {w:World} {Q:Exit→Act→World→Prop} {id:Nat} {ops:Array Oper} {rest:Code} {c:List Prop}
theorem zc (orc:Nat→List TV) (l:List Nat) (h:Rel w0 Wr Zi N S a w) (hc:AllP c) (hr:∀ a w,Rel w0 Wr Zi N (regS tbl Try.prog N orc [] ops l S) a w→rest.wp Try.prog Q a w) (e:regC tbl Try.prog N orc [] ops l S=c:=by kernel_rfl):((Code.region id ops false).seq rest).wp Try.prog Q a w:=wp_reg_seq tok nw h e hc hr
theorem zd (orc:Nat→List TV) (l:List Nat) (h:Rel w0 Wr Zi N S a w) (hc:AllP c) (hr:∀ a w,Rel w0 Wr Zi N (regS tbl Try.prog N orc [] ops l S) a w→Q .normal a w) (e:regC tbl Try.prog N orc [] ops l S=c:=by kernel_rfl):(Code.region id ops false).wp Try.prog Q a w:=wp_reg tok nw h e hc hr
theorem zs (l:List Nat) (h:Rel w0 Wr Zi N S a w) (hc:AllP c) (hr:∀ a w,Rel w0 Wr Zi N (regS tbl Try.prog N o0 [] ops l S) a w→rest.wp Try.prog Q a w) (e:regC tbl Try.prog N o0 [] ops l S=c:=by kernel_rfl):((Code.region id ops false).seq rest).wp Try.prog Q a w:=wp_reg_seq tok nw h e hc hr
theorem zt (l:List Nat) (h:Rel w0 Wr Zi N S a w) (hc:AllP c) (hr:∀ a w,Rel w0 Wr Zi N (regS tbl Try.prog N o0 [] ops l S) a w→Q .normal a w) (e:regC tbl Try.prog N o0 [] ops l S=c:=by kernel_rfl):(Code.region id ops false).wp Try.prog Q a w:=wp_reg tok nw h e hc hr
theorem ar (h:Rel w0 Wr Zi N S a w) (l:List Nat) (e:arr [] l S=some S':=by kernel_rfl):Rel w0 Wr Zi N S' a w:=h.arrive nw e
theorem zi {α:Type} {t:Nat} {x y:Code} {b:Bool} {X Y:α} {r:α} (h:Rel w0 Wr Zi N S a w) (hF:(if b=true then X else Y)=r) (h1:X=r→x.wp Try.prog Q a w) (h2:Y=r→y.wp Try.prog Q a w) (hb:boolAt S t=some b:=by kernel_rfl):(Code.cond (.tmp t) x y).wp Try.prog Q a w:=wp_if h hb (fun hb => h1 (of_t hb hF)) (fun hb => h2 (of_f hb hF))
end
def f201 (k:Nat) (x0:(List (Int × Int))) (x1:Int):Option Int:=if (decide (((IntKind.i64.wrap (x1 - (List.length x0:Int))):Int) < (0:Int))) then (some (-1:Int)) else (some (IntKind.i64.wrap (x1 - (List.length x0:Int))))
theorem c201 (k:Nat) (x0:(List (Int × Int))) (x1:Int) (r:Int) (hF:f201 k x0 x1=some r):PCall Try.prog 201 [⟨sh0,x0⟩,⟨iS,x1⟩] [⟨iS,r⟩]:=by
 refine pcall_intro Try.func201 rfl rfl (Nat.le_of_ble_eq_true rfl) ?_
 intro w0 Zi a w h
 rw [f201] at hF
 refine zs [0,1] h an fun a w h => ?_
 refine zs [1] h an fun a w h => ?_
 refine wp_seq ?_
 refine zs [1,10] h an fun a w h => ?_
 refine zi h hF (fun hF => ?_) (fun hF => ?_)
 ·refine zs [4] h an fun a w h => ?_
  cases hF
  exact wp_ret (ret_okR tok h rfl (by kernel_rfl)).1
 ·refine wp_skip ?_
  refine zs [4] h an fun a w h => ?_
  cases hF
  exact wp_ret (ret_okR tok h rfl (by kernel_rfl)).1
def f221 (k:Nat) (x0:(ByteArray × ByteArray)) (x1:Int):Option Int:=if (decide (((IntKind.i64.wrap (x1 - (ByteArray.size x0.1:Int))):Int) < (0:Int))) then (some (-1:Int)) else (if (decide (((IntKind.i64.wrap ((IntKind.i64.wrap (x1 - (ByteArray.size x0.1:Int))) - (ByteArray.size x0.2:Int))):Int) < (0:Int))) then (some (-1:Int)) else (some (IntKind.i64.wrap ((IntKind.i64.wrap (x1 - (ByteArray.size x0.1:Int))) - (ByteArray.size x0.2:Int)))))
theorem c221 (k:Nat) (x0:(ByteArray × ByteArray)) (x1:Int) (r:Int) (hF:f221 k x0 x1=some r):PCall Try.prog 221 [⟨(.st (.pair .str .str)),x0⟩,⟨iS,x1⟩] [⟨iS,r⟩]:=by
 refine pcall_intro Try.func221 rfl rfl (Nat.le_of_ble_eq_true rfl) ?_
 intro w0 Zi a w h
 rw [f221] at hF
 refine zs [1,2] h an fun a w h => ?_
 refine zs [1,2] h an fun a w h => ?_
 refine wp_seq ?_
 refine zs [1,2,11] h an fun a w h => ?_
 refine zi h hF (fun hF => ?_) (fun hF => ?_)
 ·refine zs [4] h an fun a w h => ?_
  cases hF
  exact wp_ret (ret_okR tok h rfl (by kernel_rfl)).1
 ·refine wp_skip ?_
  refine zs [1] h an fun a w h => ?_
  refine wp_seq ?_
  refine zs [1,18] h an fun a w h => ?_
  refine zi h hF (fun hF => ?_) (fun hF => ?_)
  ·refine zs [4] h an fun a w h => ?_
   cases hF
   exact wp_ret (ret_okR tok h rfl (by kernel_rfl)).1
  ·refine wp_skip ?_
   refine zs [4] h an fun a w h => ?_
   cases hF
   exact wp_ret (ret_okR tok h rfl (by kernel_rfl)).1
def f202.l28 (k:Nat) (x0:(List (ByteArray × ByteArray))):Nat → (Int × Int)→Option Int
 | 0,_ => none
 | m28+1,(v47,v48) => if (decide (v48 < (List.length x0:Int))) then (if (0≤v48∧v48 < (List.length x0:Int)) then ((f221 k (List.getD x0 (Int.toNat v48) ((⟨#[]⟩:ByteArray),(⟨#[]⟩:ByteArray))) v47).bind fun r52 => (if (decide (r52 < (0:Int))) then (some (-1:Int)) else ((f202.l28 k x0) m28 (r52,(IntKind.i64.wrap (v48 + (1:Int))))))) else none) else (some v47)
def f202 (k:Nat) (x0:(List (ByteArray × ByteArray))) (x1:Int):Option Int:=if (decide (((IntKind.i64.wrap (x1 - (List.length x0:Int))):Int) < (0:Int))) then (some (-1:Int)) else (f202.l28 k x0 k ((IntKind.i64.wrap (x1 - (List.length x0:Int))),(0:Int)))
theorem c202 (k:Nat) (x0:(List (ByteArray × ByteArray))) (x1:Int) (r:Int) (hF:f202 k x0 x1=some r):PCall Try.prog 202 [⟨sh1,x0⟩,⟨iS,x1⟩] [⟨iS,r⟩]:=by
 refine pcall_intro Try.func202 rfl rfl (Nat.le_of_ble_eq_true rfl) ?_
 intro w0 Zi a w h
 rw [f202] at hF
 refine zs [0,1] h an fun a w h => ?_
 refine zs [0,1] h an fun a w h => ?_
 refine wp_seq ?_
 refine zs [0,1,11] h an fun a w h => ?_
 refine zi h hF (fun hF => ?_) (fun hF => ?_)
 ·refine zs [4] h an fun a w h => ?_
  cases hF
  exact wp_ret (ret_okR tok h rfl (by kernel_rfl)).1
 ·refine wp_skip ?_
  refine wp_seq ?_
  refine zs [0,1,5] h an fun a w h => ?_
  refine wp_block ?_
  refine wp_loop_fuel (f202.l28 k x0) (fun ((v47,v48):(Int × Int)) => [(0,.val sh1 x0),(1,.val iS v47),(5,.val iS v48)]) (fun v h => by obtain ⟨v47,v48⟩:=v; rw [f202.l28] at h; cases h) ?_ hF (ar h [0,1,5])
  intro m28 v a w hF h
  obtain ⟨v47,v48⟩:=v
  rw [f202.l28] at hF
  refine wp_seq ?_
  refine zs [0,1,5,15] h an fun a w h => ?_
  refine zi h hF (fun hF => ?_) (fun hF => ?_)
  ·refine wp_skip ?_
   refine wp_seq <| wp_block ?_
   obtain ⟨hc53,hF⟩:=of_if hF
   obtain ⟨r52,hr54,hF⟩:=of_bind hF
   refine zc (orcL [(23,[⟨iS,r52⟩])]) [0,1,5] h (ac hc53 (ac (c221 k (gD x0 (tZ v48) ((⟨#[]⟩:ByteArray),(⟨#[]⟩:ByteArray))) v47 r52 hr54) an)) fun a w h => ?_
   refine zs [0,1,5,25] h an fun a w h => ?_
   refine zi h hF (fun hF => ?_) (fun hF => ?_)
   ·refine zs [4] h an fun a w h => ?_
    cases hF
    exact wp_ret (ret_okR tok h rfl (by kernel_rfl)).1
   ·refine wp_skip ?_
    refine zt [0,1,5] h an fun a w h => ?_
    exact ⟨(r52,(w64 (v48 + (1:Int)))),hF,ar h [0,1,5]⟩
  ·refine wp_exit ?_
   refine zs [4] h an fun a w h => ?_
   cases hF
   exact wp_ret (ret_okR tok h rfl (by kernel_rfl)).1
def f162 (k:Nat) (x0:(Int × ((List (Int × Int)) × (List (ByteArray × ByteArray))))) (x1:Int):Option Int:=(f201 k x0.2.1 x1).bind fun r1 => (if (decide (r1 < (0:Int))) then (some (-1:Int)) else ((f202 k x0.2.2 r1).bind fun r2 => (if (decide (r2 < (0:Int))) then (some (-1:Int)) else (some r2))))
theorem c162 (k:Nat) (x0:(Int × ((List (Int × Int)) × (List (ByteArray × ByteArray))))) (x1:Int) (r:Int) (hF:f162 k x0 x1=some r):PCall Try.prog 162 [⟨sh2,x0⟩,⟨iS,x1⟩] [⟨iS,r⟩]:=by
 refine pcall_intro Try.func162 rfl rfl (Nat.le_of_ble_eq_true rfl) ?_
 intro w0 Zi a w h
 rw [f162] at hF
 refine zs [1,2] h an fun a w h => ?_
 obtain ⟨r1,hr4,hF⟩:=of_bind hF
 refine zc (orcL [(8,[⟨iS,r1⟩])]) [1,2] h (ac (c201 k x0.2.1 x1 r1 hr4) an) fun a w h => ?_
 refine wp_seq ?_
 refine zs [1,2,10] h an fun a w h => ?_
 refine zi h hF (fun hF => ?_) (fun hF => ?_)
 ·refine zs [4] h an fun a w h => ?_
  cases hF
  exact wp_ret (ret_okR tok h rfl (by kernel_rfl)).1
 ·refine wp_skip ?_
  obtain ⟨r2,hr3,hF⟩:=of_bind hF
  refine zc (orcL [(14,[⟨iS,r2⟩])]) [1] h (ac (c202 k x0.2.2 r1 r2 hr3) an) fun a w h => ?_
  refine wp_seq ?_
  refine zs [1,16] h an fun a w h => ?_
  refine zi h hF (fun hF => ?_) (fun hF => ?_)
  ·refine zs [4] h an fun a w h => ?_
   cases hF
   exact wp_ret (ret_okR tok h rfl (by kernel_rfl)).1
  ·refine wp_skip ?_
   refine zs [4] h an fun a w h => ?_
   cases hF
   exact wp_ret (ret_okR tok h rfl (by kernel_rfl)).1
def f105.l28 (k:Nat) (x0:(List (Int × ((List (Int × Int)) × (List (ByteArray × ByteArray)))))):Nat → (Int × Int)→Option Int
 | 0,_ => none
 | m28+1,(v47,v48) => if (decide (v48 < (List.length x0:Int))) then (if (0≤v48∧v48 < (List.length x0:Int)) then ((f162 k (List.getD x0 (Int.toNat v48) ((0:Int),(([]:(List (Int × Int))),([]:(List (ByteArray × ByteArray)))))) v47).bind fun r52 => (if (decide (r52 < (0:Int))) then (some (-1:Int)) else ((f105.l28 k x0) m28 (r52,(IntKind.i64.wrap (v48 + (1:Int))))))) else none) else (some v47)
def f105 (k:Nat) (x0:(List (Int × ((List (Int × Int)) × (List (ByteArray × ByteArray)))))) (x1:Int):Option Int:=if (decide (((IntKind.i64.wrap (x1 - (List.length x0:Int))):Int) < (0:Int))) then (some (-1:Int)) else (f105.l28 k x0 k ((IntKind.i64.wrap (x1 - (List.length x0:Int))),(0:Int)))
theorem c105 (k:Nat) (x0:(List (Int × ((List (Int × Int)) × (List (ByteArray × ByteArray)))))) (x1:Int) (r:Int) (hF:f105 k x0 x1=some r):PCall Try.prog 105 [⟨sh3,x0⟩,⟨iS,x1⟩] [⟨iS,r⟩]:=by
 refine pcall_intro Try.func105 rfl rfl (Nat.le_of_ble_eq_true rfl) ?_
 intro w0 Zi a w h
 rw [f105] at hF
 refine zs [0,1] h an fun a w h => ?_
 refine zs [0,1] h an fun a w h => ?_
 refine wp_seq ?_
 refine zs [0,1,11] h an fun a w h => ?_
 refine zi h hF (fun hF => ?_) (fun hF => ?_)
 ·refine zs [4] h an fun a w h => ?_
  cases hF
  exact wp_ret (ret_okR tok h rfl (by kernel_rfl)).1
 ·refine wp_skip ?_
  refine wp_seq ?_
  refine zs [0,1,5] h an fun a w h => ?_
  refine wp_block ?_
  refine wp_loop_fuel (f105.l28 k x0) (fun ((v47,v48):(Int × Int)) => [(0,.val sh3 x0),(1,.val iS v47),(5,.val iS v48)]) (fun v h => by obtain ⟨v47,v48⟩:=v; rw [f105.l28] at h; cases h) ?_ hF (ar h [0,1,5])
  intro m28 v a w hF h
  obtain ⟨v47,v48⟩:=v
  rw [f105.l28] at hF
  refine wp_seq ?_
  refine zs [0,1,5,15] h an fun a w h => ?_
  refine zi h hF (fun hF => ?_) (fun hF => ?_)
  ·refine wp_skip ?_
   refine wp_seq <| wp_block ?_
   obtain ⟨hc53,hF⟩:=of_if hF
   obtain ⟨r52,hr54,hF⟩:=of_bind hF
   refine zc (orcL [(23,[⟨iS,r52⟩])]) [0,1,5] h (ac hc53 (ac (c162 k (gD x0 (tZ v48) (iO,(([]:(List (Int × Int))),([]:(List (ByteArray × ByteArray)))))) v47 r52 hr54) an)) fun a w h => ?_
   refine zs [0,1,5,25] h an fun a w h => ?_
   refine zi h hF (fun hF => ?_) (fun hF => ?_)
   ·refine zs [4] h an fun a w h => ?_
    cases hF
    exact wp_ret (ret_okR tok h rfl (by kernel_rfl)).1
   ·refine wp_skip ?_
    refine zt [0,1,5] h an fun a w h => ?_
    exact ⟨(r52,(w64 (v48 + (1:Int)))),hF,ar h [0,1,5]⟩
  ·refine wp_exit ?_
   refine zs [4] h an fun a w h => ?_
   cases hF
   exact wp_ret (ret_okR tok h rfl (by kernel_rfl)).1
def f49 (k:Nat) (x0:((Int × (Int × Int)) × (List (Int × ((List (Int × Int)) × (List (ByteArray × ByteArray))))))) (x1:Int):Option Int:=(f105 k x0.2 x1).bind fun r1 => (if (decide (r1 < (0:Int))) then (some (-1:Int)) else (some r1))
theorem c49 (k:Nat) (x0:((Int × (Int × Int)) × (List (Int × ((List (Int × Int)) × (List (ByteArray × ByteArray))))))) (x1:Int) (r:Int) (hF:f49 k x0 x1=some r):PCall Try.prog 49 [⟨sh4,x0⟩,⟨iS,x1⟩] [⟨iS,r⟩]:=by
 refine pcall_intro Try.func49 rfl rfl (Nat.le_of_ble_eq_true rfl) ?_
 intro w0 Zi a w h
 rw [f49] at hF
 refine zs [1,2] h an fun a w h => ?_
 obtain ⟨r1,hr2,hF⟩:=of_bind hF
 refine zc (orcL [(8,[⟨iS,r1⟩])]) [1] h (ac (c105 k x0.2 x1 r1 hr2) an) fun a w h => ?_
 refine wp_seq ?_
 refine zs [1,10] h an fun a w h => ?_
 refine zi h hF (fun hF => ?_) (fun hF => ?_)
 ·refine zs [4] h an fun a w h => ?_
  cases hF
  exact wp_ret (ret_okR tok h rfl (by kernel_rfl)).1
 ·refine wp_skip ?_
  refine zs [4] h an fun a w h => ?_
  cases hF
  exact wp_ret (ret_okR tok h rfl (by kernel_rfl)).1
def f203 (k:Nat) (x0:(ByteArray × (Int × ByteArray))) (x1:Int):Option Int:=if (decide (((IntKind.i64.wrap (x1 - (ByteArray.size x0.1:Int))):Int) < (0:Int))) then (some (-1:Int)) else (if (decide (((IntKind.i64.wrap ((IntKind.i64.wrap (x1 - (ByteArray.size x0.1:Int))) - (ByteArray.size x0.2.2:Int))):Int) < (0:Int))) then (some (-1:Int)) else (some (IntKind.i64.wrap ((IntKind.i64.wrap (x1 - (ByteArray.size x0.1:Int))) - (ByteArray.size x0.2.2:Int)))))
theorem c203 (k:Nat) (x0:(ByteArray × (Int × ByteArray))) (x1:Int) (r:Int) (hF:f203 k x0 x1=some r):PCall Try.prog 203 [⟨sh5,x0⟩,⟨iS,x1⟩] [⟨iS,r⟩]:=by
 refine pcall_intro Try.func203 rfl rfl (Nat.le_of_ble_eq_true rfl) ?_
 intro w0 Zi a w h
 rw [f203] at hF
 refine zs [1,2] h an fun a w h => ?_
 refine zs [1,2] h an fun a w h => ?_
 refine wp_seq ?_
 refine zs [1,2,11] h an fun a w h => ?_
 refine zi h hF (fun hF => ?_) (fun hF => ?_)
 ·refine zs [4] h an fun a w h => ?_
  cases hF
  exact wp_ret (ret_okR tok h rfl (by kernel_rfl)).1
 ·refine wp_skip ?_
  refine zs [1] h an fun a w h => ?_
  refine wp_seq ?_
  refine zs [1,18] h an fun a w h => ?_
  refine zi h hF (fun hF => ?_) (fun hF => ?_)
  ·refine zs [4] h an fun a w h => ?_
   cases hF
   exact wp_ret (ret_okR tok h rfl (by kernel_rfl)).1
  ·refine wp_skip ?_
   refine zs [4] h an fun a w h => ?_
   cases hF
   exact wp_ret (ret_okR tok h rfl (by kernel_rfl)).1
def f163.l28 (k:Nat) (x0:(List (ByteArray × (Int × ByteArray)))):Nat → (Int × Int)→Option Int
 | 0,_ => none
 | m28+1,(v47,v48) => if (decide (v48 < (List.length x0:Int))) then (if (0≤v48∧v48 < (List.length x0:Int)) then ((f203 k (List.getD x0 (Int.toNat v48) ((⟨#[]⟩:ByteArray),((0:Int),(⟨#[]⟩:ByteArray)))) v47).bind fun r52 => (if (decide (r52 < (0:Int))) then (some (-1:Int)) else ((f163.l28 k x0) m28 (r52,(IntKind.i64.wrap (v48 + (1:Int))))))) else none) else (some v47)
def f163 (k:Nat) (x0:(List (ByteArray × (Int × ByteArray)))) (x1:Int):Option Int:=if (decide (((IntKind.i64.wrap (x1 - (List.length x0:Int))):Int) < (0:Int))) then (some (-1:Int)) else (f163.l28 k x0 k ((IntKind.i64.wrap (x1 - (List.length x0:Int))),(0:Int)))
theorem c163 (k:Nat) (x0:(List (ByteArray × (Int × ByteArray)))) (x1:Int) (r:Int) (hF:f163 k x0 x1=some r):PCall Try.prog 163 [⟨sh6,x0⟩,⟨iS,x1⟩] [⟨iS,r⟩]:=by
 refine pcall_intro Try.func163 rfl rfl (Nat.le_of_ble_eq_true rfl) ?_
 intro w0 Zi a w h
 rw [f163] at hF
 refine zs [0,1] h an fun a w h => ?_
 refine zs [0,1] h an fun a w h => ?_
 refine wp_seq ?_
 refine zs [0,1,11] h an fun a w h => ?_
 refine zi h hF (fun hF => ?_) (fun hF => ?_)
 ·refine zs [4] h an fun a w h => ?_
  cases hF
  exact wp_ret (ret_okR tok h rfl (by kernel_rfl)).1
 ·refine wp_skip ?_
  refine wp_seq ?_
  refine zs [0,1,5] h an fun a w h => ?_
  refine wp_block ?_
  refine wp_loop_fuel (f163.l28 k x0) (fun ((v47,v48):(Int × Int)) => [(0,.val sh6 x0),(1,.val iS v47),(5,.val iS v48)]) (fun v h => by obtain ⟨v47,v48⟩:=v; rw [f163.l28] at h; cases h) ?_ hF (ar h [0,1,5])
  intro m28 v a w hF h
  obtain ⟨v47,v48⟩:=v
  rw [f163.l28] at hF
  refine wp_seq ?_
  refine zs [0,1,5,15] h an fun a w h => ?_
  refine zi h hF (fun hF => ?_) (fun hF => ?_)
  ·refine wp_skip ?_
   refine wp_seq <| wp_block ?_
   obtain ⟨hc53,hF⟩:=of_if hF
   obtain ⟨r52,hr54,hF⟩:=of_bind hF
   refine zc (orcL [(23,[⟨iS,r52⟩])]) [0,1,5] h (ac hc53 (ac (c203 k (gD x0 (tZ v48) ((⟨#[]⟩:ByteArray),(iO,(⟨#[]⟩:ByteArray)))) v47 r52 hr54) an)) fun a w h => ?_
   refine zs [0,1,5,25] h an fun a w h => ?_
   refine zi h hF (fun hF => ?_) (fun hF => ?_)
   ·refine zs [4] h an fun a w h => ?_
    cases hF
    exact wp_ret (ret_okR tok h rfl (by kernel_rfl)).1
   ·refine wp_skip ?_
    refine zt [0,1,5] h an fun a w h => ?_
    exact ⟨(r52,(w64 (v48 + (1:Int)))),hF,ar h [0,1,5]⟩
  ·refine wp_exit ?_
   refine zs [4] h an fun a w h => ?_
   cases hF
   exact wp_ret (ret_okR tok h rfl (by kernel_rfl)).1
def f106 (k:Nat) (x0:(Int × (Int × ((List (ByteArray × (Int × ByteArray))) × (Bool × (ByteArray × (Int × Int))))))) (x1:Int):Option Int:=(f163 k x0.2.2.1 x1).bind fun r1 => (if (decide (r1 < (0:Int))) then (some (-1:Int)) else (if (decide (((IntKind.i64.wrap (r1 - (ByteArray.size x0.2.2.2.2.1:Int))):Int) < (0:Int))) then (some (-1:Int)) else (some (IntKind.i64.wrap (r1 - (ByteArray.size x0.2.2.2.2.1:Int))))))
theorem c106 (k:Nat) (x0:(Int × (Int × ((List (ByteArray × (Int × ByteArray))) × (Bool × (ByteArray × (Int × Int))))))) (x1:Int) (r:Int) (hF:f106 k x0 x1=some r):PCall Try.prog 106 [⟨sh7,x0⟩,⟨iS,x1⟩] [⟨iS,r⟩]:=by
 refine pcall_intro Try.func106 rfl rfl (Nat.le_of_ble_eq_true rfl) ?_
 intro w0 Zi a w h
 rw [f106] at hF
 refine zs [1,2] h an fun a w h => ?_
 obtain ⟨r1,hr2,hF⟩:=of_bind hF
 refine zc (orcL [(8,[⟨iS,r1⟩])]) [1,2] h (ac (c163 k x0.2.2.1 x1 r1 hr2) an) fun a w h => ?_
 refine wp_seq ?_
 refine zs [1,2,10] h an fun a w h => ?_
 refine zi h hF (fun hF => ?_) (fun hF => ?_)
 ·refine zs [4] h an fun a w h => ?_
  cases hF
  exact wp_ret (ret_okR tok h rfl (by kernel_rfl)).1
 ·refine wp_skip ?_
  refine zs [1] h an fun a w h => ?_
  refine wp_seq ?_
  refine zs [1,17] h an fun a w h => ?_
  refine zi h hF (fun hF => ?_) (fun hF => ?_)
  ·refine zs [4] h an fun a w h => ?_
   cases hF
   exact wp_ret (ret_okR tok h rfl (by kernel_rfl)).1
  ·refine wp_skip ?_
   refine zs [4] h an fun a w h => ?_
   cases hF
   exact wp_ret (ret_okR tok h rfl (by kernel_rfl)).1
def f50.l28 (k:Nat) (x0:(List (Int × (Int × ((List (ByteArray × (Int × ByteArray))) × (Bool × (ByteArray × (Int × Int)))))))):Nat → (Int × Int)→Option Int
 | 0,_ => none
 | m28+1,(v47,v48) => if (decide (v48 < (List.length x0:Int))) then (if (0≤v48∧v48 < (List.length x0:Int)) then ((f106 k (List.getD x0 (Int.toNat v48) ((0:Int),((0:Int),(([]:(List (ByteArray × (Int × ByteArray)))),(false,((⟨#[]⟩:ByteArray),((0:Int),(0:Int)))))))) v47).bind fun r52 => (if (decide (r52 < (0:Int))) then (some (-1:Int)) else ((f50.l28 k x0) m28 (r52,(IntKind.i64.wrap (v48 + (1:Int))))))) else none) else (some v47)
def f50 (k:Nat) (x0:(List (Int × (Int × ((List (ByteArray × (Int × ByteArray))) × (Bool × (ByteArray × (Int × Int)))))))) (x1:Int):Option Int:=if (decide (((IntKind.i64.wrap (x1 - (List.length x0:Int))):Int) < (0:Int))) then (some (-1:Int)) else (f50.l28 k x0 k ((IntKind.i64.wrap (x1 - (List.length x0:Int))),(0:Int)))
theorem c50 (k:Nat) (x0:(List (Int × (Int × ((List (ByteArray × (Int × ByteArray))) × (Bool × (ByteArray × (Int × Int)))))))) (x1:Int) (r:Int) (hF:f50 k x0 x1=some r):PCall Try.prog 50 [⟨sh8,x0⟩,⟨iS,x1⟩] [⟨iS,r⟩]:=by
 refine pcall_intro Try.func50 rfl rfl (Nat.le_of_ble_eq_true rfl) ?_
 intro w0 Zi a w h
 rw [f50] at hF
 refine zs [0,1] h an fun a w h => ?_
 refine zs [0,1] h an fun a w h => ?_
 refine wp_seq ?_
 refine zs [0,1,11] h an fun a w h => ?_
 refine zi h hF (fun hF => ?_) (fun hF => ?_)
 ·refine zs [4] h an fun a w h => ?_
  cases hF
  exact wp_ret (ret_okR tok h rfl (by kernel_rfl)).1
 ·refine wp_skip ?_
  refine wp_seq ?_
  refine zs [0,1,5] h an fun a w h => ?_
  refine wp_block ?_
  refine wp_loop_fuel (f50.l28 k x0) (fun ((v47,v48):(Int × Int)) => [(0,.val sh8 x0),(1,.val iS v47),(5,.val iS v48)]) (fun v h => by obtain ⟨v47,v48⟩:=v; rw [f50.l28] at h; cases h) ?_ hF (ar h [0,1,5])
  intro m28 v a w hF h
  obtain ⟨v47,v48⟩:=v
  rw [f50.l28] at hF
  refine wp_seq ?_
  refine zs [0,1,5,15] h an fun a w h => ?_
  refine zi h hF (fun hF => ?_) (fun hF => ?_)
  ·refine wp_skip ?_
   refine wp_seq <| wp_block ?_
   obtain ⟨hc53,hF⟩:=of_if hF
   obtain ⟨r52,hr54,hF⟩:=of_bind hF
   refine zc (orcL [(23,[⟨iS,r52⟩])]) [0,1,5] h (ac hc53 (ac (c106 k (gD x0 (tZ v48) (iO,(iO,(([]:(List (ByteArray × (Int × ByteArray)))),(false,((⟨#[]⟩:ByteArray),(iO,iO))))))) v47 r52 hr54) an)) fun a w h => ?_
   refine zs [0,1,5,25] h an fun a w h => ?_
   refine zi h hF (fun hF => ?_) (fun hF => ?_)
   ·refine zs [4] h an fun a w h => ?_
    cases hF
    exact wp_ret (ret_okR tok h rfl (by kernel_rfl)).1
   ·refine wp_skip ?_
    refine zt [0,1,5] h an fun a w h => ?_
    exact ⟨(r52,(w64 (v48 + (1:Int)))),hF,ar h [0,1,5]⟩
  ·refine wp_exit ?_
   refine zs [4] h an fun a w h => ?_
   cases hF
   exact wp_ret (ret_okR tok h rfl (by kernel_rfl)).1
def f108 (k:Nat) (x0:(Int × (Int × Int))):Option (Int × (Int × Int)):=some (x0.1,(x0.2.1,x0.2.2))
theorem c108 (k:Nat) (x0:(Int × (Int × Int))) (r:(Int × (Int × Int))) (hF:f108 k x0=some r):PCall Try.prog 108 [⟨sh9,x0⟩] [⟨sh9,r⟩]:=by
 refine pcall_intro Try.func108 rfl rfl (Nat.le_of_ble_eq_true rfl) ?_
 intro w0 Zi a w h
 rw [f108] at hF
 refine zs [1,2] h an fun a w h => ?_
 refine zs [1,2,3] h an fun a w h => ?_
 refine zs [1,2,3] h an fun a w h => ?_
 refine zs [1,2,3] h an fun a w h => ?_
 refine zs [2,3] h an fun a w h => ?_
 refine zs [2] h an fun a w h => ?_
 cases hF
 exact wp_ret (ret_okR tok h rfl (by kernel_rfl)).1
def f137 (k:Nat) (x0:(Int × Int)):Option (Int × Int):=some (x0.1,x0.2)
theorem c137 (k:Nat) (x0:(Int × Int)) (r:(Int × Int)) (hF:f137 k x0=some r):PCall Try.prog 137 [⟨sh10,x0⟩] [⟨sh10,r⟩]:=by
 refine pcall_intro Try.func137 rfl rfl (Nat.le_of_ble_eq_true rfl) ?_
 intro w0 Zi a w h
 rw [f137] at hF
 refine zs [1,2] h an fun a w h => ?_
 refine zs [1,2,3] h an fun a w h => ?_
 refine zs [1,2,3] h an fun a w h => ?_
 refine zs [2,3] h an fun a w h => ?_
 refine zs [2] h an fun a w h => ?_
 cases hF
 exact wp_ret (ret_okR tok h rfl (by kernel_rfl)).1
def f205.l34 (k:Nat) (x0:(List (Int × Int))):Nat → ((List (Int × Int)) × Int)→Option (List (Int × Int))
 | 0,_ => none
 | m34+1,(v57,v58) => if (decide (v58 < (List.length x0:Int))) then (if (0≤v58∧v58 < (List.length x0:Int)) then ((f137 k (List.getD x0 (Int.toNat v58) ((0:Int),(0:Int)))).bind fun r63 => (if (0≤v58∧v58 < (List.length v57:Int)) then ((f205.l34 k x0) m34 ((List.set v57 (Int.toNat v58) r63),(IntKind.i64.wrap (v58 + (1:Int))))) else none)) else none) else (some v57)
def f205 (k:Nat) (x0:(List (Int × Int))):Option (List (Int × Int)):=if (0 ≤ (List.length x0:Int)∧Int.toNat (List.length x0:Int)*16≤140737488355328) then (f205.l34 k x0 k ((List.replicate (Int.toNat (List.length x0:Int)) ((0:Int),(0:Int))),(0:Int))) else none
theorem c205 (k:Nat) (x0:(List (Int × Int))) (r:(List (Int × Int))) (hF:f205 k x0=some r):PCall Try.prog 205 [⟨sh0,x0⟩] [⟨sh11,r⟩]:=by
 refine pcall_intro Try.func205 rfl rfl (Nat.le_of_ble_eq_true rfl) ?_
 intro w0 Zi a w h
 rw [f205] at hF
 refine zs [0] h an fun a w h => ?_
 obtain ⟨hc67,hF⟩:=of_if hF
 refine zs [0,3] h (ac hc67 an) fun a w h => ?_
 refine wp_seq ?_
 refine zs [0,3,4] h an fun a w h => ?_
 refine wp_block ?_
 refine wp_loop_fuel (f205.l34 k x0) (fun ((v57,v58):((List (Int × Int)) × Int)) => [(0,.val sh0 x0),(3,.val sh11 v57),(4,.val iS v58)]) (fun v h => by obtain ⟨v57,v58⟩:=v; rw [f205.l34] at h; cases h) ?_ hF (ar h [0,3,4])
 intro m34 v a w hF h
 obtain ⟨v57,v58⟩:=v
 rw [f205.l34] at hF
 refine wp_seq ?_
 refine zs [0,3,4,11] h an fun a w h => ?_
 refine zi h hF (fun hF => ?_) (fun hF => ?_)
 ·refine wp_skip ?_
  refine wp_seq <| wp_block ?_
  obtain ⟨hc64,hF⟩:=of_if hF
  obtain ⟨r63,hr65,hF⟩:=of_bind hF
  obtain ⟨hc66,hF⟩:=of_if hF
  refine zd (orcL [(20,[⟨sh10,r63⟩])]) [0,3,4] h (ac hc64 (ac (c137 k (gD x0 (tZ v58) (iO,iO)) r63 hr65) (ac hc66 an))) fun a w h => ?_
  refine zt [0,3,4] h an fun a w h => ?_
  exact ⟨((List.set v57 (tZ v58) r63),(w64 (v58 + (1:Int)))),hF,ar h [0,3,4]⟩
 ·refine wp_exit ?_
  refine zs [2,3] h an fun a w h => ?_
  cases hF
  exact wp_ret (ret_okR tok h rfl (by kernel_rfl)).1
def f222 (k:Nat) (x0:(ByteArray × ByteArray)):Option (ByteArray × ByteArray):=some (x0.1,x0.2)
theorem c222 (k:Nat) (x0:(ByteArray × ByteArray)) (r:(ByteArray × ByteArray)) (hF:f222 k x0=some r):PCall Try.prog 222 [⟨(.st (.pair .str .str)),x0⟩] [⟨(.st (.pair .str .str)),r⟩]:=by
 refine pcall_intro Try.func222 rfl rfl (Nat.le_of_ble_eq_true rfl) ?_
 intro w0 Zi a w h
 rw [f222] at hF
 refine zs [1,2] h an fun a w h => ?_
 refine zs [1,2,3] h an fun a w h => ?_
 refine zs [1,2,3] h an fun a w h => ?_
 refine zs [2,3] h an fun a w h => ?_
 refine zs [2] h an fun a w h => ?_
 cases hF
 exact wp_ret (ret_okR tok h rfl (by kernel_rfl)).1
def f206.l34 (k:Nat) (x0:(List (ByteArray × ByteArray))):Nat → ((List (ByteArray × ByteArray)) × Int)→Option (List (ByteArray × ByteArray))
 | 0,_ => none
 | m34+1,(v57,v58) => if (decide (v58 < (List.length x0:Int))) then (if (0≤v58∧v58 < (List.length x0:Int)) then ((f222 k (List.getD x0 (Int.toNat v58) ((⟨#[]⟩:ByteArray),(⟨#[]⟩:ByteArray)))).bind fun r63 => (if (0≤v58∧v58 < (List.length v57:Int)) then ((f206.l34 k x0) m34 ((List.set v57 (Int.toNat v58) r63),(IntKind.i64.wrap (v58 + (1:Int))))) else none)) else none) else (some v57)
def f206 (k:Nat) (x0:(List (ByteArray × ByteArray))):Option (List (ByteArray × ByteArray)):=if (0 ≤ (List.length x0:Int)∧Int.toNat (List.length x0:Int)*32≤140737488355328) then (f206.l34 k x0 k ((List.replicate (Int.toNat (List.length x0:Int)) ((⟨#[]⟩:ByteArray),(⟨#[]⟩:ByteArray))),(0:Int))) else none
theorem c206 (k:Nat) (x0:(List (ByteArray × ByteArray))) (r:(List (ByteArray × ByteArray))) (hF:f206 k x0=some r):PCall Try.prog 206 [⟨sh1,x0⟩] [⟨sh12,r⟩]:=by
 refine pcall_intro Try.func206 rfl rfl (Nat.le_of_ble_eq_true rfl) ?_
 intro w0 Zi a w h
 rw [f206] at hF
 refine zs [0] h an fun a w h => ?_
 obtain ⟨hc67,hF⟩:=of_if hF
 refine zs [0,3] h (ac hc67 an) fun a w h => ?_
 refine wp_seq ?_
 refine zs [0,3,4] h an fun a w h => ?_
 refine wp_block ?_
 refine wp_loop_fuel (f206.l34 k x0) (fun ((v57,v58):((List (ByteArray × ByteArray)) × Int)) => [(0,.val sh1 x0),(3,.val sh12 v57),(4,.val iS v58)]) (fun v h => by obtain ⟨v57,v58⟩:=v; rw [f206.l34] at h; cases h) ?_ hF (ar h [0,3,4])
 intro m34 v a w hF h
 obtain ⟨v57,v58⟩:=v
 rw [f206.l34] at hF
 refine wp_seq ?_
 refine zs [0,3,4,11] h an fun a w h => ?_
 refine zi h hF (fun hF => ?_) (fun hF => ?_)
 ·refine wp_skip ?_
  refine wp_seq <| wp_block ?_
  obtain ⟨hc64,hF⟩:=of_if hF
  obtain ⟨r63,hr65,hF⟩:=of_bind hF
  obtain ⟨hc66,hF⟩:=of_if hF
  refine zd (orcL [(20,[⟨(.st (.pair .str .str)),r63⟩])]) [0,3,4] h (ac hc64 (ac (c222 k (gD x0 (tZ v58) ((⟨#[]⟩:ByteArray),(⟨#[]⟩:ByteArray))) r63 hr65) (ac hc66 an))) fun a w h => ?_
  refine zt [0,3,4] h an fun a w h => ?_
  exact ⟨((List.set v57 (tZ v58) r63),(w64 (v58 + (1:Int)))),hF,ar h [0,3,4]⟩
 ·refine wp_exit ?_
  refine zs [2,3] h an fun a w h => ?_
  cases hF
  exact wp_ret (ret_okR tok h rfl (by kernel_rfl)).1
def f166 (k:Nat) (x0:(Int × ((List (Int × Int)) × (List (ByteArray × ByteArray))))):Option (Int × ((List (Int × Int)) × (List (ByteArray × ByteArray)))):=(f205 k x0.2.1).bind fun r1 => ((f206 k x0.2.2).bind fun r2 => (some (x0.1,(r1,r2))))
theorem c166 (k:Nat) (x0:(Int × ((List (Int × Int)) × (List (ByteArray × ByteArray))))) (r:(Int × ((List (Int × Int)) × (List (ByteArray × ByteArray))))) (hF:f166 k x0=some r):PCall Try.prog 166 [⟨sh2,x0⟩] [⟨sh13,r⟩]:=by
 refine pcall_intro Try.func166 rfl rfl (Nat.le_of_ble_eq_true rfl) ?_
 intro w0 Zi a w h
 rw [f166] at hF
 refine zs [1,2] h an fun a w h => ?_
 refine zs [1,2,3] h an fun a w h => ?_
 refine zs [1,2,3] h an fun a w h => ?_
 obtain ⟨r1,hr4,hF⟩:=of_bind hF
 refine zc (orcL [(9,[⟨sh11,r1⟩])]) [1,2,3] h (ac (c205 k x0.2.1 r1 hr4) an) fun a w h => ?_
 obtain ⟨r2,hr3,hF⟩:=of_bind hF
 refine zc (orcL [(13,[⟨sh12,r2⟩])]) [2,3] h (ac (c206 k x0.2.2 r2 hr3) an) fun a w h => ?_
 refine zs [2] h an fun a w h => ?_
 cases hF
 exact wp_ret (ret_okR tok h rfl (by kernel_rfl)).1
def f109.l34 (k:Nat) (x0:(List (Int × ((List (Int × Int)) × (List (ByteArray × ByteArray)))))):Nat → ((List (Int × ((List (Int × Int)) × (List (ByteArray × ByteArray))))) × Int)→Option (List (Int × ((List (Int × Int)) × (List (ByteArray × ByteArray)))))
 | 0,_ => none
 | m34+1,(v57,v58) => if (decide (v58 < (List.length x0:Int))) then (if (0≤v58∧v58 < (List.length x0:Int)) then ((f166 k (List.getD x0 (Int.toNat v58) ((0:Int),(([]:(List (Int × Int))),([]:(List (ByteArray × ByteArray))))))).bind fun r63 => (if (0≤v58∧v58 < (List.length v57:Int)) then ((f109.l34 k x0) m34 ((List.set v57 (Int.toNat v58) r63),(IntKind.i64.wrap (v58 + (1:Int))))) else none)) else none) else (some v57)
def f109 (k:Nat) (x0:(List (Int × ((List (Int × Int)) × (List (ByteArray × ByteArray)))))):Option (List (Int × ((List (Int × Int)) × (List (ByteArray × ByteArray))))):=if (0 ≤ (List.length x0:Int)∧Int.toNat (List.length x0:Int)*56≤140737488355328) then (f109.l34 k x0 k ((List.replicate (Int.toNat (List.length x0:Int)) ((0:Int),(([]:(List (Int × Int))),([]:(List (ByteArray × ByteArray)))))),(0:Int))) else none
theorem c109 (k:Nat) (x0:(List (Int × ((List (Int × Int)) × (List (ByteArray × ByteArray)))))) (r:(List (Int × ((List (Int × Int)) × (List (ByteArray × ByteArray)))))) (hF:f109 k x0=some r):PCall Try.prog 109 [⟨sh3,x0⟩] [⟨sh14,r⟩]:=by
 refine pcall_intro Try.func109 rfl rfl (Nat.le_of_ble_eq_true rfl) ?_
 intro w0 Zi a w h
 rw [f109] at hF
 refine zs [0] h an fun a w h => ?_
 obtain ⟨hc67,hF⟩:=of_if hF
 refine zs [0,3] h (ac hc67 an) fun a w h => ?_
 refine wp_seq ?_
 refine zs [0,3,4] h an fun a w h => ?_
 refine wp_block ?_
 refine wp_loop_fuel (f109.l34 k x0) (fun ((v57,v58):((List (Int × ((List (Int × Int)) × (List (ByteArray × ByteArray))))) × Int)) => [(0,.val sh3 x0),(3,.val sh14 v57),(4,.val iS v58)]) (fun v h => by obtain ⟨v57,v58⟩:=v; rw [f109.l34] at h; cases h) ?_ hF (ar h [0,3,4])
 intro m34 v a w hF h
 obtain ⟨v57,v58⟩:=v
 rw [f109.l34] at hF
 refine wp_seq ?_
 refine zs [0,3,4,11] h an fun a w h => ?_
 refine zi h hF (fun hF => ?_) (fun hF => ?_)
 ·refine wp_skip ?_
  refine wp_seq <| wp_block ?_
  obtain ⟨hc64,hF⟩:=of_if hF
  obtain ⟨r63,hr65,hF⟩:=of_bind hF
  obtain ⟨hc66,hF⟩:=of_if hF
  refine zd (orcL [(20,[⟨sh13,r63⟩])]) [0,3,4] h (ac hc64 (ac (c166 k (gD x0 (tZ v58) (iO,(([]:(List (Int × Int))),([]:(List (ByteArray × ByteArray)))))) r63 hr65) (ac hc66 an))) fun a w h => ?_
  refine zt [0,3,4] h an fun a w h => ?_
  exact ⟨((List.set v57 (tZ v58) r63),(w64 (v58 + (1:Int)))),hF,ar h [0,3,4]⟩
 ·refine wp_exit ?_
  refine zs [2,3] h an fun a w h => ?_
  cases hF
  exact wp_ret (ret_okR tok h rfl (by kernel_rfl)).1
def f52 (k:Nat) (x0:((Int × (Int × Int)) × (List (Int × ((List (Int × Int)) × (List (ByteArray × ByteArray))))))):Option ((Int × (Int × Int)) × (List (Int × ((List (Int × Int)) × (List (ByteArray × ByteArray)))))):=(f108 k x0.1).bind fun r1 => ((f109 k x0.2).bind fun r2 => (some (r1,r2)))
theorem c52 (k:Nat) (x0:((Int × (Int × Int)) × (List (Int × ((List (Int × Int)) × (List (ByteArray × ByteArray))))))) (r:((Int × (Int × Int)) × (List (Int × ((List (Int × Int)) × (List (ByteArray × ByteArray))))))) (hF:f52 k x0=some r):PCall Try.prog 52 [⟨sh4,x0⟩] [⟨sh15,r⟩]:=by
 refine pcall_intro Try.func52 rfl rfl (Nat.le_of_ble_eq_true rfl) ?_
 intro w0 Zi a w h
 rw [f52] at hF
 refine zs [1,2] h an fun a w h => ?_
 refine zs [1,2,3] h an fun a w h => ?_
 obtain ⟨r1,hr4,hF⟩:=of_bind hF
 refine zc (orcL [(6,[⟨sh9,r1⟩])]) [1,2,3] h (ac (c108 k x0.1 r1 hr4) an) fun a w h => ?_
 obtain ⟨r2,hr3,hF⟩:=of_bind hF
 refine zc (orcL [(10,[⟨sh14,r2⟩])]) [2,3] h (ac (c109 k x0.2 r2 hr3) an) fun a w h => ?_
 refine zs [2] h an fun a w h => ?_
 cases hF
 exact wp_ret (ret_okR tok h rfl (by kernel_rfl)).1
def f207 (k:Nat) (x0:(ByteArray × (Int × ByteArray))):Option (ByteArray × (Int × ByteArray)):=some (x0.1,(x0.2.1,x0.2.2))
theorem c207 (k:Nat) (x0:(ByteArray × (Int × ByteArray))) (r:(ByteArray × (Int × ByteArray))) (hF:f207 k x0=some r):PCall Try.prog 207 [⟨sh5,x0⟩] [⟨sh5,r⟩]:=by
 refine pcall_intro Try.func207 rfl rfl (Nat.le_of_ble_eq_true rfl) ?_
 intro w0 Zi a w h
 rw [f207] at hF
 refine zs [1,2] h an fun a w h => ?_
 refine zs [1,2,3] h an fun a w h => ?_
 refine zs [1,2,3] h an fun a w h => ?_
 refine zs [1,2,3] h an fun a w h => ?_
 refine zs [2,3] h an fun a w h => ?_
 refine zs [2] h an fun a w h => ?_
 cases hF
 exact wp_ret (ret_okR tok h rfl (by kernel_rfl)).1
def f167.l34 (k:Nat) (x0:(List (ByteArray × (Int × ByteArray)))):Nat → ((List (ByteArray × (Int × ByteArray))) × Int)→Option (List (ByteArray × (Int × ByteArray)))
 | 0,_ => none
 | m34+1,(v57,v58) => if (decide (v58 < (List.length x0:Int))) then (if (0≤v58∧v58 < (List.length x0:Int)) then ((f207 k (List.getD x0 (Int.toNat v58) ((⟨#[]⟩:ByteArray),((0:Int),(⟨#[]⟩:ByteArray))))).bind fun r63 => (if (0≤v58∧v58 < (List.length v57:Int)) then ((f167.l34 k x0) m34 ((List.set v57 (Int.toNat v58) r63),(IntKind.i64.wrap (v58 + (1:Int))))) else none)) else none) else (some v57)
def f167 (k:Nat) (x0:(List (ByteArray × (Int × ByteArray)))):Option (List (ByteArray × (Int × ByteArray))):=if (0 ≤ (List.length x0:Int)∧Int.toNat (List.length x0:Int)*40≤140737488355328) then (f167.l34 k x0 k ((List.replicate (Int.toNat (List.length x0:Int)) ((⟨#[]⟩:ByteArray),((0:Int),(⟨#[]⟩:ByteArray)))),(0:Int))) else none
theorem c167 (k:Nat) (x0:(List (ByteArray × (Int × ByteArray)))) (r:(List (ByteArray × (Int × ByteArray)))) (hF:f167 k x0=some r):PCall Try.prog 167 [⟨sh6,x0⟩] [⟨sh16,r⟩]:=by
 refine pcall_intro Try.func167 rfl rfl (Nat.le_of_ble_eq_true rfl) ?_
 intro w0 Zi a w h
 rw [f167] at hF
 refine zs [0] h an fun a w h => ?_
 obtain ⟨hc67,hF⟩:=of_if hF
 refine zs [0,3] h (ac hc67 an) fun a w h => ?_
 refine wp_seq ?_
 refine zs [0,3,4] h an fun a w h => ?_
 refine wp_block ?_
 refine wp_loop_fuel (f167.l34 k x0) (fun ((v57,v58):((List (ByteArray × (Int × ByteArray))) × Int)) => [(0,.val sh6 x0),(3,.val sh16 v57),(4,.val iS v58)]) (fun v h => by obtain ⟨v57,v58⟩:=v; rw [f167.l34] at h; cases h) ?_ hF (ar h [0,3,4])
 intro m34 v a w hF h
 obtain ⟨v57,v58⟩:=v
 rw [f167.l34] at hF
 refine wp_seq ?_
 refine zs [0,3,4,11] h an fun a w h => ?_
 refine zi h hF (fun hF => ?_) (fun hF => ?_)
 ·refine wp_skip ?_
  refine wp_seq <| wp_block ?_
  obtain ⟨hc64,hF⟩:=of_if hF
  obtain ⟨r63,hr65,hF⟩:=of_bind hF
  obtain ⟨hc66,hF⟩:=of_if hF
  refine zd (orcL [(20,[⟨sh5,r63⟩])]) [0,3,4] h (ac hc64 (ac (c207 k (gD x0 (tZ v58) ((⟨#[]⟩:ByteArray),(iO,(⟨#[]⟩:ByteArray)))) r63 hr65) (ac hc66 an))) fun a w h => ?_
  refine zt [0,3,4] h an fun a w h => ?_
  exact ⟨((List.set v57 (tZ v58) r63),(w64 (v58 + (1:Int)))),hF,ar h [0,3,4]⟩
 ·refine wp_exit ?_
  refine zs [2,3] h an fun a w h => ?_
  cases hF
  exact wp_ret (ret_okR tok h rfl (by kernel_rfl)).1
def f110 (k:Nat) (x0:(Int × (Int × ((List (ByteArray × (Int × ByteArray))) × (Bool × (ByteArray × (Int × Int))))))):Option (Int × (Int × ((List (ByteArray × (Int × ByteArray))) × (Bool × (ByteArray × (Int × Int)))))):=(f167 k x0.2.2.1).bind fun r1 => (some (x0.1,(x0.2.1,(r1,(x0.2.2.2.1,(x0.2.2.2.2.1,(x0.2.2.2.2.2.1,x0.2.2.2.2.2.2)))))))
theorem c110 (k:Nat) (x0:(Int × (Int × ((List (ByteArray × (Int × ByteArray))) × (Bool × (ByteArray × (Int × Int))))))) (r:(Int × (Int × ((List (ByteArray × (Int × ByteArray))) × (Bool × (ByteArray × (Int × Int))))))) (hF:f110 k x0=some r):PCall Try.prog 110 [⟨sh7,x0⟩] [⟨sh17,r⟩]:=by
 refine pcall_intro Try.func110 rfl rfl (Nat.le_of_ble_eq_true rfl) ?_
 intro w0 Zi a w h
 rw [f110] at hF
 refine zs [1,2] h an fun a w h => ?_
 refine zs [1,2,3] h an fun a w h => ?_
 refine zs [1,2,3] h an fun a w h => ?_
 refine zs [1,2,3] h an fun a w h => ?_
 obtain ⟨r1,hr2,hF⟩:=of_bind hF
 refine zc (orcL [(12,[⟨sh16,r1⟩])]) [1,2,3] h (ac (c167 k x0.2.2.1 r1 hr2) an) fun a w h => ?_
 refine zs [1,2,3] h an fun a w h => ?_
 refine zs [1,2,3] h an fun a w h => ?_
 refine zs [1,2,3] h an fun a w h => ?_
 refine zs [2,3] h an fun a w h => ?_
 refine zs [2] h an fun a w h => ?_
 cases hF
 exact wp_ret (ret_okR tok h rfl (by kernel_rfl)).1
def f53.l34 (k:Nat) (x0:(List (Int × (Int × ((List (ByteArray × (Int × ByteArray))) × (Bool × (ByteArray × (Int × Int)))))))):Nat → ((List (Int × (Int × ((List (ByteArray × (Int × ByteArray))) × (Bool × (ByteArray × (Int × Int))))))) × Int)→Option (List (Int × (Int × ((List (ByteArray × (Int × ByteArray))) × (Bool × (ByteArray × (Int × Int)))))))
 | 0,_ => none
 | m34+1,(v57,v58) => if (decide (v58 < (List.length x0:Int))) then (if (0≤v58∧v58 < (List.length x0:Int)) then ((f110 k (List.getD x0 (Int.toNat v58) ((0:Int),((0:Int),(([]:(List (ByteArray × (Int × ByteArray)))),(false,((⟨#[]⟩:ByteArray),((0:Int),(0:Int))))))))).bind fun r63 => (if (0≤v58∧v58 < (List.length v57:Int)) then ((f53.l34 k x0) m34 ((List.set v57 (Int.toNat v58) r63),(IntKind.i64.wrap (v58 + (1:Int))))) else none)) else none) else (some v57)
def f53 (k:Nat) (x0:(List (Int × (Int × ((List (ByteArray × (Int × ByteArray))) × (Bool × (ByteArray × (Int × Int)))))))):Option (List (Int × (Int × ((List (ByteArray × (Int × ByteArray))) × (Bool × (ByteArray × (Int × Int))))))):=if (0 ≤ (List.length x0:Int)∧Int.toNat (List.length x0:Int)*80≤140737488355328) then (f53.l34 k x0 k ((List.replicate (Int.toNat (List.length x0:Int)) ((0:Int),((0:Int),(([]:(List (ByteArray × (Int × ByteArray)))),(false,((⟨#[]⟩:ByteArray),((0:Int),(0:Int)))))))),(0:Int))) else none
theorem c53 (k:Nat) (x0:(List (Int × (Int × ((List (ByteArray × (Int × ByteArray))) × (Bool × (ByteArray × (Int × Int)))))))) (r:(List (Int × (Int × ((List (ByteArray × (Int × ByteArray))) × (Bool × (ByteArray × (Int × Int)))))))) (hF:f53 k x0=some r):PCall Try.prog 53 [⟨sh8,x0⟩] [⟨sh18,r⟩]:=by
 refine pcall_intro Try.func53 rfl rfl (Nat.le_of_ble_eq_true rfl) ?_
 intro w0 Zi a w h
 rw [f53] at hF
 refine zs [0] h an fun a w h => ?_
 obtain ⟨hc67,hF⟩:=of_if hF
 refine zs [0,3] h (ac hc67 an) fun a w h => ?_
 refine wp_seq ?_
 refine zs [0,3,4] h an fun a w h => ?_
 refine wp_block ?_
 refine wp_loop_fuel (f53.l34 k x0) (fun ((v57,v58):((List (Int × (Int × ((List (ByteArray × (Int × ByteArray))) × (Bool × (ByteArray × (Int × Int))))))) × Int)) => [(0,.val sh8 x0),(3,.val sh18 v57),(4,.val iS v58)]) (fun v h => by obtain ⟨v57,v58⟩:=v; rw [f53.l34] at h; cases h) ?_ hF (ar h [0,3,4])
 intro m34 v a w hF h
 obtain ⟨v57,v58⟩:=v
 rw [f53.l34] at hF
 refine wp_seq ?_
 refine zs [0,3,4,11] h an fun a w h => ?_
 refine zi h hF (fun hF => ?_) (fun hF => ?_)
 ·refine wp_skip ?_
  refine wp_seq <| wp_block ?_
  obtain ⟨hc64,hF⟩:=of_if hF
  obtain ⟨r63,hr65,hF⟩:=of_bind hF
  obtain ⟨hc66,hF⟩:=of_if hF
  refine zd (orcL [(20,[⟨sh17,r63⟩])]) [0,3,4] h (ac hc64 (ac (c110 k (gD x0 (tZ v58) (iO,(iO,(([]:(List (ByteArray × (Int × ByteArray)))),(false,((⟨#[]⟩:ByteArray),(iO,iO))))))) r63 hr65) (ac hc66 an))) fun a w h => ?_
  refine zt [0,3,4] h an fun a w h => ?_
  exact ⟨((List.set v57 (tZ v58) r63),(w64 (v58 + (1:Int)))),hF,ar h [0,3,4]⟩
 ·refine wp_exit ?_
  refine zs [2,3] h an fun a w h => ?_
  cases hF
  exact wp_ret (ret_okR tok h rfl (by kernel_rfl)).1
def f204.l18 (k:Nat) (x0:(List (ByteArray × ByteArray))) (x1:ByteArray):Nat→Int→Option ByteArray
 | 0,_ => none
 | m18+1,v30 => if (decide (v30 < (List.length x0:Int))) then (if (0≤v30∧v30 < (List.length x0:Int)) then (if (ByteArray.toList (List.getD x0 (Int.toNat v30) ((⟨#[]⟩:ByteArray),(⟨#[]⟩:ByteArray))).1 == ByteArray.toList x1) then (if (0≤v30∧v30 < (List.length x0:Int)) then (some (List.getD x0 (Int.toNat v30) ((⟨#[]⟩:ByteArray),(⟨#[]⟩:ByteArray))).2) else none) else ((f204.l18 k x0 x1) m18 (IntKind.i64.wrap (v30 + (1:Int))))) else none) else (some (⟨#[]⟩:ByteArray))
def f204 (k:Nat) (x0:(List (ByteArray × ByteArray))) (x1:ByteArray):Option ByteArray:=f204.l18 k x0 x1 k (0:Int)
theorem c204 (k:Nat) (x0:(List (ByteArray × ByteArray))) (x1:ByteArray) (r:ByteArray) (hF:f204 k x0 x1=some r):PCall Try.prog 204 [⟨sh19,x0⟩,⟨.str,x1⟩] [⟨.str,r⟩]:=by
 refine pcall_intro Try.func204 rfl rfl (Nat.le_of_ble_eq_true rfl) ?_
 intro w0 Zi a w h
 rw [f204] at hF
 refine zs [0,1] h an fun a w h => ?_
 refine wp_seq ?_
 refine zs [0,1,5] h an fun a w h => ?_
 refine wp_block ?_
 refine wp_loop_fuel (f204.l18 k x0 x1) (fun v30 => [(0,.val sh19 x0),(1,.val .str x1),(5,.val iS v30)]) (fun v h => by rw [f204.l18] at h; cases h) ?_ hF (ar h [0,1,5])
 intro m18 v30 a w hF h
 rw [f204.l18] at hF
 refine wp_seq ?_
 refine zs [0,1,5,9] h an fun a w h => ?_
 refine zi h hF (fun hF => ?_) (fun hF => ?_)
 ·refine wp_skip ?_
  refine wp_seq <| wp_block ?_
  obtain ⟨hc34,hF⟩:=of_if hF
  refine zs [0,1,5,18] h (ac hc34 an) fun a w h => ?_
  refine zi h hF (fun hF => ?_) (fun hF => ?_)
  ·obtain ⟨hc33,hF⟩:=of_if hF
   refine zs [4] h (ac hc33 an) fun a w h => ?_
   cases hF
   exact wp_ret (ret_okR tok h rfl (by kernel_rfl)).1
  ·refine wp_skip ?_
   refine zt [0,1,5] h an fun a w h => ?_
   exact ⟨(w64 (v30 + (1:Int))),hF,ar h [0,1,5]⟩
 ·refine wp_exit ?_
  refine zs [4] h an fun a w h => ?_
  cases hF
  exact wp_ret (ret_okR tok h rfl (by kernel_rfl)).1
def f164.j379 (k:Nat) (v345:Int) (q207:Int→Option Bool):Unit→Option Bool
 | _ => q207 (IntKind.i64.wrap (v345 + (1:Int)))
def f164.l396 (k:Nat) (x1:(List (ByteArray × ByteArray))) (x0:(Int × (Int × ((List (ByteArray × (Int × ByteArray))) × (Bool × (ByteArray × (Int × Int))))))) (v345:Int) (r380:ByteArray) (q379:Unit→Option Bool):Nat → (Bool × Int)→Option Bool
 | 0,_ => none
 | m396+1,(v407,v408) => if (decide (v408 < (List.length x1:Int))) then (if ((v407=false) → (0≤v408∧v408 < (List.length x1:Int))) then ((f164.l396 k x1 x0 v345 r380 q379) m396 ((bif v407 then true else (ByteArray.toList (List.getD x1 (Int.toNat v408) ((⟨#[]⟩:ByteArray),(⟨#[]⟩:ByteArray))).1 == ByteArray.toList (List.getD x0.2.2.1 (Int.toNat v345) ((⟨#[]⟩:ByteArray),((0:Int),(⟨#[]⟩:ByteArray)))).1)),(IntKind.i64.wrap (v408 + (1:Int))))) else none) else (if (((List.getD x0.2.2.1 (Int.toNat v345) ((⟨#[]⟩:ByteArray),((0:Int),(⟨#[]⟩:ByteArray)))).2.1:Int) == (1:Int)) then (if (!(ByteArray.toList r380 == ByteArray.toList (List.getD x0.2.2.1 (Int.toNat v345) ((⟨#[]⟩:ByteArray),((0:Int),(⟨#[]⟩:ByteArray)))).2.2)) then (some false) else (q379 ())) else (if (((List.getD x0.2.2.1 (Int.toNat v345) ((⟨#[]⟩:ByteArray),((0:Int),(⟨#[]⟩:ByteArray)))).2.1:Int) == (2:Int)) then (if (ByteArray.toList r380 == ByteArray.toList (List.getD x0.2.2.1 (Int.toNat v345) ((⟨#[]⟩:ByteArray),((0:Int),(⟨#[]⟩:ByteArray)))).2.2) then (some false) else (q379 ())) else (if (((List.getD x0.2.2.1 (Int.toNat v345) ((⟨#[]⟩:ByteArray),((0:Int),(⟨#[]⟩:ByteArray)))).2.1:Int) == (3:Int)) then (if (!v407) then (some false) else (q379 ())) else (if (((List.getD x0.2.2.1 (Int.toNat v345) ((⟨#[]⟩:ByteArray),((0:Int),(⟨#[]⟩:ByteArray)))).2.1:Int) == (4:Int)) then (if v407 then (some false) else (q379 ())) else (some false)))))
def f164.l207 (k:Nat) (x0:(Int × (Int × ((List (ByteArray × (Int × ByteArray))) × (Bool × (ByteArray × (Int × Int))))))) (x1:(List (ByteArray × ByteArray))):Nat→Int→Option Bool
 | 0,_ => none
 | m207+1,v345 => if (decide (v345 < (List.length x0.2.2.1:Int))) then (if (0≤v345∧v345 < (List.length x0.2.2.1:Int)) then ((f204 k x1 (List.getD x0.2.2.1 (Int.toNat v345) ((⟨#[]⟩:ByteArray),((0:Int),(⟨#[]⟩:ByteArray)))).1).bind fun r380 => (f164.l396 k x1 x0 v345 r380 (f164.j379 k v345 ((f164.l207 k x0 x1) m207)) k (false,(0:Int)))) else none) else (some true)
def f164 (k:Nat) (x0:(Int × (Int × ((List (ByteArray × (Int × ByteArray))) × (Bool × (ByteArray × (Int × Int))))))) (x1:(List (ByteArray × ByteArray))) (x2:Int):Option Bool:=if (bif (decide (x2 < x0.1)) then true else (decide (x2 > x0.2.1))) then (some false) else (f164.l207 k x0 x1 k (0:Int))
theorem c164 (k:Nat) (x0:(Int × (Int × ((List (ByteArray × (Int × ByteArray))) × (Bool × (ByteArray × (Int × Int))))))) (x1:(List (ByteArray × ByteArray))) (x2:Int) (r:Bool) (hF:f164 k x0 x1 x2=some r):PCall Try.prog 164 [⟨sh22,x0⟩,⟨sh19,x1⟩,⟨iS,x2⟩] [⟨.bool,r⟩]:=by
 refine pcall_intro Try.func164 rfl rfl (Nat.le_of_ble_eq_true rfl) ?_
 intro w0 Zi a w h
 rw [f164] at hF
 refine zs [1,2,3] h an fun a w h => ?_
 refine wp_seq ?_
 refine zs [1,3,21] h an fun a w h => ?_
 refine zi h hF (fun hF => ?_) (fun hF => ?_)
 ·refine zs [6] h an fun a w h => ?_
  cases hF
  exact wp_ret (ret_okR tok h rfl (by kernel_rfl)).1
 ·refine wp_skip ?_
  refine wp_seq ?_
  refine zs [1,3,7] h an fun a w h => ?_
  refine wp_block ?_
  refine wp_loop_fuel (f164.l207 k x0 x1) (fun v345 => [(1,.val sh19 x1),(3,.val sh20 (some x0)),(7,.val iS v345)]) (fun v h => by rw [f164.l207] at h; cases h) ?_ hF (ar h [1,3,7])
  intro m207 v345 a w hF h
  rw [f164.l207] at hF
  refine wp_seq ?_
  refine zs [1,3,7,26] h an fun a w h => ?_
  refine zi h hF (fun hF => ?_) (fun hF => ?_)
  ·refine wp_skip ?_
   refine wp_mid (fun a w => ∃ v:Unit,f164.j379 k v345 ((f164.l207 k x0 x1) m207) v=some r∧Rel w0 (fun _ => False) Zi Try.f164.ntmps ((fun (_:Unit) => ([(1,.val sh19 x1),(3,.val sh20 (some x0)),(7,.val iS v345)]:SS)) v) a w) ?_ ?_
   ·
    refine wp_block ?_
    obtain ⟨hc412,hF⟩:=of_if hF
    refine zs [1,3,7,8] h (ac hc412 an) fun a w h => ?_
    obtain ⟨r380,hr411,hF⟩:=of_bind hF
    refine zc (orcL [(37,[⟨.str,r380⟩])]) [1,3,7,8,9] h (ac (c204 k x1 (gD x0.2.2.1 (tZ v345) ((⟨#[]⟩:ByteArray),(iO,(⟨#[]⟩:ByteArray)))).1 r380 hr411) an) fun a w h => ?_
    refine zs [1,3,7,8,9,10] h an fun a w h => ?_
    refine wp_seq ?_
    refine zs [1,3,7,8,9,10,11] h an fun a w h => ?_
    refine wp_block ?_
    refine wp_loop_fuel (f164.l396 k x1 x0 v345 r380 (f164.j379 k v345 ((f164.l207 k x0 x1) m207))) (fun ((v407,v408):(Bool × Int)) => [(1,.val sh19 x1),(3,.val sh20 (some x0)),(7,.val iS v345),(8,.val sh21 (some (gD x0.2.2.1 (tZ v345) ((⟨#[]⟩:ByteArray),(iO,(⟨#[]⟩:ByteArray)))))),(9,.val .str r380),(10,.val .bool v407),(11,.val iS v408)]) (fun v h => by obtain ⟨v407,v408⟩:=v; rw [f164.l396] at h; cases h) ?_ hF (ar h [1,3,7,8,9,10,11])
    intro m396 v a w hF h
    obtain ⟨v407,v408⟩:=v
    rw [f164.l396] at hF
    refine wp_seq ?_
    refine zs [1,3,7,8,9,10,11,41] h an fun a w h => ?_
    refine zi h hF (fun hF => ?_) (fun hF => ?_)
    ·refine wp_skip ?_
     refine wp_seq <| wp_block ?_
     obtain ⟨hc410,hF⟩:=of_if hF
     refine wp_regy tok (orc:=o0) (l:=[1,3,7,8,9,10,11]) ([],[],[],[]) 12 nw h (by kernel_rfl) (by kernel_rfl) (ac hc410 an) fun a w h => ?_
     refine zt [1,3,7,8,9,10,11] h an fun a w h => ?_
     exact ⟨((bif v407 then true else (ByteArray.toList (gD x1 (tZ v408) ((⟨#[]⟩:ByteArray),(⟨#[]⟩:ByteArray))).1 == ByteArray.toList (gD x0.2.2.1 (tZ v345) ((⟨#[]⟩:ByteArray),(iO,(⟨#[]⟩:ByteArray)))).1)),(w64 (v408 + (1:Int)))),hF,ar h [1,3,7,8,9,10,11]⟩
    ·refine wp_exit ?_
     refine zs [1,3,7,8,9,10,56] h an fun a w h => ?_
     refine wp_block ?_
     refine zs [1,3,7,8,9,10,56,57] h an fun a w h => ?_
     refine zi h hF (fun hF => ?_) (fun hF => ?_)
     ·refine zs [1,3,7,62] h an fun a w h => ?_
      refine zi h hF (fun hF => ?_) (fun hF => ?_)
      ·refine zs [6] h an fun a w h => ?_
       cases hF
       exact wp_ret (ret_okR tok h rfl (by kernel_rfl)).1
      ·refine wp_skip ?_
       exact ⟨(),hF,ar h [1,3,7]⟩
     ·refine zs [1,3,7,8,9,10,56,63] h an fun a w h => ?_
      refine zi h hF (fun hF => ?_) (fun hF => ?_)
      ·refine zs [1,3,7,68] h an fun a w h => ?_
       refine zi h hF (fun hF => ?_) (fun hF => ?_)
       ·refine zs [6] h an fun a w h => ?_
        cases hF
        exact wp_ret (ret_okR tok h rfl (by kernel_rfl)).1
       ·refine wp_skip ?_
        exact ⟨(),hF,ar h [1,3,7]⟩
      ·refine zs [1,3,7,10,56,69] h an fun a w h => ?_
       refine zi h hF (fun hF => ?_) (fun hF => ?_)
       ·refine zs [1,3,7,72] h an fun a w h => ?_
        refine zi h hF (fun hF => ?_) (fun hF => ?_)
        ·refine zs [6] h an fun a w h => ?_
         cases hF
         exact wp_ret (ret_okR tok h rfl (by kernel_rfl)).1
        ·refine wp_skip ?_
         exact ⟨(),hF,ar h [1,3,7]⟩
       ·refine zs [1,3,7,10,73] h an fun a w h => ?_
        refine zi h hF (fun hF => ?_) (fun hF => ?_)
        ·refine zs [1,3,7,75] h an fun a w h => ?_
         refine zi h hF (fun hF => ?_) (fun hF => ?_)
         ·refine zs [6] h an fun a w h => ?_
          cases hF
          exact wp_ret (ret_okR tok h rfl (by kernel_rfl)).1
         ·refine wp_skip ?_
          exact ⟨(),hF,ar h [1,3,7]⟩
        ·refine zs [6] h an fun a w h => ?_
         cases hF
         exact wp_ret (ret_okR tok h rfl (by kernel_rfl)).1
   ·rintro a w ⟨v,hF,h⟩
    obtain ⟨⟩:=v
    rw [f164.j379] at hF
    refine zt [1,3,7] h an fun a w h => ?_
    exact ⟨(w64 (v345 + (1:Int))),hF,ar h [1,3,7]⟩
  ·refine wp_exit ?_
   refine zs [6] h an fun a w h => ?_
   cases hF
   exact wp_ret (ret_okR tok h rfl (by kernel_rfl)).1
def f165 (k:Nat) (x0:(Int × (Int × ((List (ByteArray × (Int × ByteArray))) × (Bool × (ByteArray × (Int × Int))))))):Option (Int × (Int × ((List (ByteArray × (Int × ByteArray))) × (Bool × (ByteArray × (Int × Int)))))):=if ((List.length ([]:List (ByteArray × (Int × ByteArray)))+List.length x0.2.2.1)*40≤140737488355328) then (some (x0.1,(x0.2.1,((([]:List (ByteArray × (Int × ByteArray))) ++ x0.2.2.1),x0.2.2.2)))) else none
theorem c165 (k:Nat) (x0:(Int × (Int × ((List (ByteArray × (Int × ByteArray))) × (Bool × (ByteArray × (Int × Int))))))) (r:(Int × (Int × ((List (ByteArray × (Int × ByteArray))) × (Bool × (ByteArray × (Int × Int))))))) (hF:f165 k x0=some r):PCall Try.prog 165 [⟨sh22,x0⟩] [⟨sh17,r⟩]:=by
 refine pcall_intro Try.func165 rfl rfl (Nat.le_of_ble_eq_true rfl) ?_
 intro w0 Zi a w h
 rw [f165] at hF
 refine zs [1,2] h an fun a w h => ?_
 obtain ⟨hc1,hF⟩:=of_if hF
 refine zs [1,2] h (ac hc1 an) fun a w h => ?_
 refine zs [2] h an fun a w h => ?_
 cases hF
 exact wp_ret (ret_okR tok h rfl (by kernel_rfl)).1
def f107.l48 (k:Nat) (x0:(List (Int × (Int × ((List (ByteArray × (Int × ByteArray))) × (Bool × (ByteArray × (Int × Int)))))))) (x1:(List (ByteArray × ByteArray))) (x2:Int):Nat→Int→Option ((Int × (Int × ((List (ByteArray × (Int × ByteArray))) × (Bool × (ByteArray × (Int × Int)))))) × Bool)
 | 0,_ => none
 | m48+1,v80 => if (decide (v80 ≥ (0:Int))) then (if (0≤v80∧v80 < (List.length x0:Int)) then ((f164 k (List.getD x0 (Int.toNat v80) ((0:Int),((0:Int),(([]:(List (ByteArray × (Int × ByteArray)))),(false,((⟨#[]⟩:ByteArray),((0:Int),(0:Int)))))))) x1 x2).bind fun r88 => (if r88 then (if (0≤v80∧v80 < (List.length x0:Int)) then (if (List.getD x0 (Int.toNat v80) ((0:Int),((0:Int),(([]:(List (ByteArray × (Int × ByteArray)))),(false,((⟨#[]⟩:ByteArray),((0:Int),(0:Int)))))))).2.2.2.1 then (some (((0:Int),((0:Int),(([]:(List (ByteArray × (Int × ByteArray)))),(false,((⟨#[]⟩:ByteArray),((0:Int),(0:Int))))))),false)) else (if (0≤v80∧v80 < (List.length x0:Int)) then ((f165 k (List.getD x0 (Int.toNat v80) ((0:Int),((0:Int),(([]:(List (ByteArray × (Int × ByteArray)))),(false,((⟨#[]⟩:ByteArray),((0:Int),(0:Int))))))))).bind fun r89 => (some (r89,true))) else none)) else none) else ((f107.l48 k x0 x1 x2) m48 (IntKind.i64.wrap (v80 - (1:Int)))))) else none) else (some (((0:Int),((0:Int),(([]:(List (ByteArray × (Int × ByteArray)))),(false,((⟨#[]⟩:ByteArray),((0:Int),(0:Int))))))),false))
def f107 (k:Nat) (x0:(List (Int × (Int × ((List (ByteArray × (Int × ByteArray))) × (Bool × (ByteArray × (Int × Int)))))))) (x1:(List (ByteArray × ByteArray))) (x2:Int):Option ((Int × (Int × ((List (ByteArray × (Int × ByteArray))) × (Bool × (ByteArray × (Int × Int)))))) × Bool):=if (decide (((List.length x0:Int):Int) > (100:Int))) then (some (((0:Int),((0:Int),(([]:(List (ByteArray × (Int × ByteArray)))),(false,((⟨#[]⟩:ByteArray),((0:Int),(0:Int))))))),false)) else (f107.l48 k x0 x1 x2 k (IntKind.i64.wrap ((List.length x0:Int) - (1:Int))))
theorem c107 (k:Nat) (x0:(List (Int × (Int × ((List (ByteArray × (Int × ByteArray))) × (Bool × (ByteArray × (Int × Int)))))))) (x1:(List (ByteArray × ByteArray))) (x2:Int) (r:((Int × (Int × ((List (ByteArray × (Int × ByteArray))) × (Bool × (ByteArray × (Int × Int)))))) × Bool)) (hF:f107 k x0 x1 x2=some r):PCall Try.prog 107 [⟨sh23,x0⟩,⟨sh19,x1⟩,⟨iS,x2⟩] [⟨sh17,r.1⟩,⟨.bool,r.2⟩]:=by
 refine pcall_intro Try.func107 rfl rfl (Nat.le_of_ble_eq_true rfl) ?_
 intro w0 Zi a w h
 rw [f107] at hF
 refine zs [0,1,2,6] h an fun a w h => ?_
 refine wp_seq ?_
 refine zs [0,1,2,6,11] h an fun a w h => ?_
 refine zi h hF (fun hF => ?_) (fun hF => ?_)
 ·refine zs [6,7] h an fun a w h => ?_
  cases hF
  exact wp_ret (ret_okR tok h rfl (by kernel_rfl)).1
 ·refine wp_skip ?_
  refine wp_seq ?_
  refine zs [0,1,2,6,8] h an fun a w h => ?_
  refine wp_block ?_
  refine wp_loop_fuel (f107.l48 k x0 x1 x2) (fun v80 => [(0,.val sh23 x0),(1,.val sh19 x1),(2,.val iS x2),(6,.val sh24 (some (iO,(iO,(([]:(List (ByteArray × (Int × ByteArray)))),(false,((⟨#[]⟩:ByteArray),(iO,iO)))))))),(8,.val iS v80)]) (fun v h => by rw [f107.l48] at h; cases h) ?_ hF (ar h [0,1,2,6,8])
  intro m48 v80 a w hF h
  rw [f107.l48] at hF
  refine wp_seq ?_
  refine zs [0,1,2,6,8,17] h an fun a w h => ?_
  refine zi h hF (fun hF => ?_) (fun hF => ?_)
  ·refine wp_skip ?_
   refine wp_seq <| wp_block ?_
   obtain ⟨hc93,hF⟩:=of_if hF
   obtain ⟨r88,hr94,hF⟩:=of_bind hF
   refine zc (orcL [(26,[⟨.bool,r88⟩])]) [0,1,2,6,8,26] h (ac hc93 (ac (c164 k (gD x0 (tZ v80) (iO,(iO,(([]:(List (ByteArray × (Int × ByteArray)))),(false,((⟨#[]⟩:ByteArray),(iO,iO))))))) x1 x2 r88 hr94) an)) fun a w h => ?_
   refine zi h hF (fun hF => ?_) (fun hF => ?_)
   ·refine wp_seq ?_
    obtain ⟨hc92,hF⟩:=of_if hF
    refine zs [0,6,8,31] h (ac hc92 an) fun a w h => ?_
    refine zi h hF (fun hF => ?_) (fun hF => ?_)
    ·refine zs [6,7] h an fun a w h => ?_
     cases hF
     exact wp_ret (ret_okR tok h rfl (by kernel_rfl)).1
    ·refine wp_skip ?_
     obtain ⟨hc90,hF⟩:=of_if hF
     obtain ⟨r89,hr91,hF⟩:=of_bind hF
     refine zc (orcL [(37,[⟨sh17,r89⟩])]) [6,7] h (ac hc90 (ac (c165 k (gD x0 (tZ v80) (iO,(iO,(([]:(List (ByteArray × (Int × ByteArray)))),(false,((⟨#[]⟩:ByteArray),(iO,iO))))))) r89 hr91) an)) fun a w h => ?_
     cases hF
     exact wp_ret (ret_okR tok h rfl (by kernel_rfl)).1
   ·refine wp_skip ?_
    refine zt [0,1,2,6,8] h an fun a w h => ?_
    exact ⟨(w64 (v80 - (1:Int))),hF,ar h [0,1,2,6,8]⟩
  ·refine wp_exit ?_
   refine zs [6,7] h an fun a w h => ?_
   cases hF
   exact wp_ret (ret_okR tok h rfl (by kernel_rfl)).1
def f51.j327 (k:Nat) (v298:Int) (q178:((List (Int × ((List (Int × Int)) × (ByteArray × (Int × Int))))) × Int)→Option (List (Int × ((List (Int × Int)) × (ByteArray × (Int × Int)))))):(List (Int × ((List (Int × Int)) × (ByteArray × (Int × Int)))))→Option (List (Int × ((List (Int × Int)) × (ByteArray × (Int × Int)))))
 | v326 => q178 (v326,(IntKind.i64.wrap (v298 + (1:Int))))
def f51.l337 (k:Nat) (v297:(List (Int × ((List (Int × Int)) × (ByteArray × (Int × Int)))))) (r328:((Int × (Int × ((List (ByteArray × (Int × ByteArray))) × (Bool × (ByteArray × (Int × Int)))))) × Bool)) (x0:((Int × (Int × Int)) × (List (Int × ((List (Int × Int)) × (List (ByteArray × ByteArray))))))) (v298:Int) (q327:(List (Int × ((List (Int × Int)) × (ByteArray × (Int × Int)))))→Option (List (Int × ((List (Int × Int)) × (ByteArray × (Int × Int)))))):Nat→Int→Option (List (Int × ((List (Int × Int)) × (ByteArray × (Int × Int)))))
 | 0,_ => none
 | m337+1,v343 => if (((decide (v343 > (0:Int)))=true) → (0 ≤ (IntKind.i64.wrap (v343 - (1:Int))) ∧ (IntKind.i64.wrap (v343 - (1:Int))) < (List.length v297:Int))) then (if (bif (decide (v343 > (0:Int))) then (decide (((List.getD v297 (Int.toNat (IntKind.i64.wrap (v343 - (1:Int)))) ((0:Int),(([]:(List (Int × Int))),((⟨#[]⟩:ByteArray),((0:Int),(0:Int)))))).2.2.2.2:Int) > r328.1.2.2.2.2.2.2)) else false) then ((f51.l337 k v297 r328 x0 v298 q327) m337 (IntKind.i64.wrap (v343 - (1:Int)))) else (if ((List.length ([]:List (Int × Int))+List.length (List.getD x0.2 (Int.toNat v298) ((0:Int),(([]:(List (Int × Int))),([]:(List (ByteArray × ByteArray)))))).2.1)*16≤140737488355328) then (if (True ∧ ((0:Int)≤v343)∧0 ≤ (Int.toNat v343) ∧ (Int.toNat v343) ≤ (List.length v297)) then (if ((List.length ([]:List (Int × ((List (Int × Int)) × (ByteArray × (Int × Int)))))+List.length (List.drop 0 (List.take (Int.toNat v343) v297)))*64≤140737488355328) then (if ((List.length (([]:List (Int × ((List (Int × Int)) × (ByteArray × (Int × Int))))) ++ (List.drop 0 (List.take (Int.toNat v343) v297)))+List.length [((List.getD x0.2 (Int.toNat v298) ((0:Int),(([]:(List (Int × Int))),([]:(List (ByteArray × ByteArray)))))).1,((([]:List (Int × Int)) ++ (List.getD x0.2 (Int.toNat v298) ((0:Int),(([]:(List (Int × Int))),([]:(List (ByteArray × ByteArray)))))).2.1),(r328.1.2.2.2.2.1,(r328.1.2.2.2.2.2.1,r328.1.2.2.2.2.2.2))))])*64≤140737488355328) then (if (((0:Int)≤v343)∧True ∧ (Int.toNat v343) ≤ (List.length v297) ∧ (List.length v297) ≤ (List.length v297)) then (if ((List.length ((([]:List (Int × ((List (Int × Int)) × (ByteArray × (Int × Int))))) ++ (List.drop 0 (List.take (Int.toNat v343) v297))) ++ [((List.getD x0.2 (Int.toNat v298) ((0:Int),(([]:(List (Int × Int))),([]:(List (ByteArray × ByteArray)))))).1,((([]:List (Int × Int)) ++ (List.getD x0.2 (Int.toNat v298) ((0:Int),(([]:(List (Int × Int))),([]:(List (ByteArray × ByteArray)))))).2.1),(r328.1.2.2.2.2.1,(r328.1.2.2.2.2.2.1,r328.1.2.2.2.2.2.2))))])+List.length (List.drop (Int.toNat v343) (List.take (List.length v297) v297)))*64≤140737488355328) then ((some ((((([]:List (Int × ((List (Int × Int)) × (ByteArray × (Int × Int))))) ++ (List.drop 0 (List.take (Int.toNat v343) v297))) ++ [((List.getD x0.2 (Int.toNat v298) ((0:Int),(([]:(List (Int × Int))),([]:(List (ByteArray × ByteArray)))))).1,((([]:List (Int × Int)) ++ (List.getD x0.2 (Int.toNat v298) ((0:Int),(([]:(List (Int × Int))),([]:(List (ByteArray × ByteArray)))))).2.1),(r328.1.2.2.2.2.1,(r328.1.2.2.2.2.2.1,r328.1.2.2.2.2.2.2))))]) ++ (List.drop (Int.toNat v343) (List.take (List.length v297) v297))):(List (Int × ((List (Int × Int)) × (ByteArray × (Int × Int))))))).bind fun v344 => (q327 v344)) else none) else none) else none) else none) else none) else none)) else none
def f51.l178 (k:Nat) (x0:((Int × (Int × Int)) × (List (Int × ((List (Int × Int)) × (List (ByteArray × ByteArray))))))) (x1:(List (Int × (Int × ((List (ByteArray × (Int × ByteArray))) × (Bool × (ByteArray × (Int × Int)))))))):Nat → ((List (Int × ((List (Int × Int)) × (ByteArray × (Int × Int))))) × Int)→Option (List (Int × ((List (Int × Int)) × (ByteArray × (Int × Int)))))
 | 0,_ => none
 | m178+1,(v297,v298) => if (decide (v298 < (List.length x0.2:Int))) then (if (0≤v298∧v298 < (List.length x0.2:Int)) then ((f107 k x1 (List.getD x0.2 (Int.toNat v298) ((0:Int),(([]:(List (Int × Int))),([]:(List (ByteArray × ByteArray)))))).2.2 x0.1.1).bind fun r328 => (if (!r328.2) then (f51.j327 k v298 ((f51.l178 k x0 x1) m178) v297) else (f51.l337 k v297 r328 x0 v298 (f51.j327 k v298 ((f51.l178 k x0 x1) m178)) k (List.length v297:Int)))) else none) else (some v297)
def f51 (k:Nat) (x0:((Int × (Int × Int)) × (List (Int × ((List (Int × Int)) × (List (ByteArray × ByteArray))))))) (x1:(List (Int × (Int × ((List (ByteArray × (Int × ByteArray))) × (Bool × (ByteArray × (Int × Int)))))))):Option (List (Int × ((List (Int × Int)) × (ByteArray × (Int × Int))))):=if (bif (decide (((List.length x0.2:Int):Int) > (2000:Int))) then true else (decide (((List.length x1:Int):Int) > (100:Int)))) then (some ([]:List (Int × ((List (Int × Int)) × (ByteArray × (Int × Int)))))) else (f51.l178 k x0 x1 k (([]:List (Int × ((List (Int × Int)) × (ByteArray × (Int × Int))))),(0:Int)))
theorem c51 (k:Nat) (x0:((Int × (Int × Int)) × (List (Int × ((List (Int × Int)) × (List (ByteArray × ByteArray))))))) (x1:(List (Int × (Int × ((List (ByteArray × (Int × ByteArray))) × (Bool × (ByteArray × (Int × Int)))))))) (r:(List (Int × ((List (Int × Int)) × (ByteArray × (Int × Int)))))) (hF:f51 k x0 x1=some r):PCall Try.prog 51 [⟨sh31,x0⟩,⟨sh23,x1⟩] [⟨sh26,r⟩]:=by
 refine pcall_intro Try.func51 rfl rfl (Nat.le_of_ble_eq_true rfl) ?_
 intro w0 Zi a w h
 rw [f51] at hF
 refine zs [1,2] h an fun a w h => ?_
 refine wp_seqX_seq (sxE_ok [0] (sxA_ok tok (orc:=o0) (spA:=[]) (sp:=[]))) h (by kernel_rfl) an fun a w h => ?_
 refine wp_seq ?_
 refine zs [1,2,5,21] h an fun a w h => ?_
 refine zi h hF (fun hF => ?_) (fun hF => ?_)
 ·refine zs [4,5] h an fun a w h => ?_
  cases hF
  exact wp_ret (ret_okR tok h rfl (by kernel_rfl)).1
 ·refine wp_skip ?_
  refine wp_seq ?_
  refine zs [1,2,5,6] h an fun a w h => ?_
  refine wp_block ?_
  refine wp_loop_fuel (f51.l178 k x0 x1) (fun ((v297,v298):((List (Int × ((List (Int × Int)) × (ByteArray × (Int × Int))))) × Int)) => [(1,.val sh23 x1),(2,.val sh25 (some x0)),(5,.val sh26 v297),(6,.val iS v298)]) (fun v h => by obtain ⟨v297,v298⟩:=v; rw [f51.l178] at h; cases h) ?_ hF (ar h [1,2,5,6])
  intro m178 v a w hF h
  obtain ⟨v297,v298⟩:=v
  rw [f51.l178] at hF
  refine wp_seq ?_
  refine zs [1,2,5,6,27] h an fun a w h => ?_
  refine zi h hF (fun hF => ?_) (fun hF => ?_)
  ·refine wp_skip ?_
   refine wp_mid (fun a w => ∃ v:(List (Int × ((List (Int × Int)) × (ByteArray × (Int × Int))))),f51.j327 k v298 ((f51.l178 k x0 x1) m178) v=some r∧Rel w0 (fun _ => False) Zi Try.f51.ntmps ((fun (v326:(List (Int × ((List (Int × Int)) × (ByteArray × (Int × Int)))))) => ([(1,.val sh23 x1),(2,.val sh25 (some x0)),(5,.val sh26 v326),(6,.val iS v298)]:SS)) v) a w) ?_ ?_
   ·
    refine wp_block ?_
    obtain ⟨hc354,hF⟩:=of_if hF
    refine zs [1,2,5,6,7] h (ac hc354 an) fun a w h => ?_
    obtain ⟨r328,hr353,hF⟩:=of_bind hF
    refine zc (orcL [(42,[⟨sh17,r328.1⟩,⟨.bool,r328.2⟩]),(35,[⟨.pt false 4294967292 .unit,some ()⟩])]) [1,2,5,6,7,8,9] h (ac (c107 k x1 (gD x0.2 (tZ v298) (iO,(([]:(List (Int × Int))),([]:(List (ByteArray × ByteArray)))))).2.2 x0.1.1 r328 hr353) an) fun a w h => ?_
    refine wp_seq ?_
    refine zs [1,2,5,6,7,8,46] h an fun a w h => ?_
    refine zi h hF (fun hF => ?_) (fun hF => ?_)
    ·refine wp_exit ?_
     exact ⟨v297,hF,ar h [1,2,5,6]⟩
    ·refine wp_skip ?_
     refine zs [1,2,5,6,7,8,10] h an fun a w h => ?_
     refine wp_seq <| wp_block ?_
     refine wp_loop_fuel (f51.l337 k v297 r328 x0 v298 (f51.j327 k v298 ((f51.l178 k x0 x1) m178))) (fun v343 => [(1,.val sh23 x1),(2,.val sh25 (some x0)),(5,.val sh26 v297),(6,.val iS v298),(7,.val sh27 (some (gD x0.2 (tZ v298) (iO,(([]:(List (Int × Int))),([]:(List (ByteArray × ByteArray)))))))),(8,.val sh24 (some r328.1)),(10,.val iS v343)]) (fun v h => by rw [f51.l337] at h; cases h) ?_ hF (ar h [1,2,5,6,7,8,10])
     intro m337 v343 a w hF h
     rw [f51.l337] at hF
     refine wp_seq ?_
     obtain ⟨hc352,hF⟩:=of_if hF
     refine wp_regy_seq tok (orc:=o0) (l:=[1,2,5,6,7,8,10,61]) ([],[],[],[]) 13 nw h (by kernel_rfl) (by kernel_rfl) (ac hc352 an) fun a w h => ?_
     refine zi h hF (fun hF => ?_) (fun hF => ?_)
     ·refine wp_skip ?_
      refine wp_block ?_
      refine zt [1,2,5,6,7,8,10] h an fun a w h => ?_
      exact ⟨(w64 (v343 - (1:Int))),hF,ar h [1,2,5,6,7,8,10]⟩
     ·refine wp_exit ?_
      obtain ⟨hc351,hF⟩:=of_if hF
      refine wp_regy_seq tok (orc:=o0) (l:=[1,2,5,6,10,11]) ([],[(5,[66]),(12,[69])],[],[(0,[7]),(1,[7,64]),(6,[8]),(7,[8,70]),(8,[8]),(9,[8,72]),(10,[8]),(11,[8,74]),(13,[])]) 14 nw h (by kernel_rfl) (by kernel_rfl) (ac hc351 an) fun a w h => ?_
      obtain ⟨hc346,hF⟩:=of_if hF
      obtain ⟨hc347,hF⟩:=of_if hF
      obtain ⟨hc348,hF⟩:=of_if hF
      obtain ⟨hc349,hF⟩:=of_if hF
      obtain ⟨hc350,hF⟩:=of_if hF
      replace h:=Rel.freezeS (fz:=[5,11]) (.inr fun i h => h) h (by kernel_rfl)
      refine wp_regX (sxE_ok [0] (sxA_ok tok (orc:=o0) (spA:=[]) (sp:=[]))) [((1,.val sh23 x1),none,none),((2,.val sh25 (some x0)),none,none),((5,.val sh28 v297),none,some 12),((5,.val sh26 (((([]:List (Int × ((List (Int × Int)) × (ByteArray × (Int × Int))))) ++ (List.drop 0 (List.take (tZ v343) v297))) ++ [((gD x0.2 (tZ v298) (iO,(([]:(List (Int × Int))),([]:(List (ByteArray × ByteArray)))))).1,((([]:List (Int × Int)) ++ (gD x0.2 (tZ v298) (iO,(([]:(List (Int × Int))),([]:(List (ByteArray × ByteArray)))))).2.1),(r328.1.2.2.2.2.1,(r328.1.2.2.2.2.2.1,r328.1.2.2.2.2.2.2))))]) ++ (List.drop (tZ v343) (List.take (List.length v297) v297)))),some 12,none),((6,.val iS v298),none,none),((10,.val iS v343),none,some 12),((11,.val sh29 (some ((gD x0.2 (tZ v298) (iO,(([]:(List (Int × Int))),([]:(List (ByteArray × ByteArray)))))).1,((([]:List (Int × Int)) ++ (gD x0.2 (tZ v298) (iO,(([]:(List (Int × Int))),([]:(List (ByteArray × ByteArray)))))).2.1),(r328.1.2.2.2.2.1,(r328.1.2.2.2.2.2.1,r328.1.2.2.2.2.2.2)))))),none,some 12),((77,.val sh26 ([]:List (Int × ((List (Int × Int)) × (ByteArray × (Int × Int)))))),some 0,some 4),((78,.val sh28 v297),some 1,some 12),((79,.val iS v343),some 2,some 12),((80,.val sh28 (List.drop 0 (List.take (tZ v343) v297))),some 3,some 12),((81,.val sh26 (([]:List (Int × ((List (Int × Int)) × (ByteArray × (Int × Int))))) ++ (List.drop 0 (List.take (tZ v343) v297)))),some 4,some 7),((82,.val sh30 ((gD x0.2 (tZ v298) (iO,(([]:(List (Int × Int))),([]:(List (ByteArray × ByteArray)))))).1,((([]:List (Int × Int)) ++ (gD x0.2 (tZ v298) (iO,(([]:(List (Int × Int))),([]:(List (ByteArray × ByteArray)))))).2.1),(r328.1.2.2.2.2.1,(r328.1.2.2.2.2.2.1,r328.1.2.2.2.2.2.2))))),some 5,some 12),((83,.val sh26 [((gD x0.2 (tZ v298) (iO,(([]:(List (Int × Int))),([]:(List (ByteArray × ByteArray)))))).1,((([]:List (Int × Int)) ++ (gD x0.2 (tZ v298) (iO,(([]:(List (Int × Int))),([]:(List (ByteArray × ByteArray)))))).2.1),(r328.1.2.2.2.2.1,(r328.1.2.2.2.2.2.1,r328.1.2.2.2.2.2.2))))]),some 6,some 12),((84,.val sh26 ((([]:List (Int × ((List (Int × Int)) × (ByteArray × (Int × Int))))) ++ (List.drop 0 (List.take (tZ v343) v297))) ++ [((gD x0.2 (tZ v298) (iO,(([]:(List (Int × Int))),([]:(List (ByteArray × ByteArray)))))).1,((([]:List (Int × Int)) ++ (gD x0.2 (tZ v298) (iO,(([]:(List (Int × Int))),([]:(List (ByteArray × ByteArray)))))).2.1),(r328.1.2.2.2.2.1,(r328.1.2.2.2.2.2.1,r328.1.2.2.2.2.2.2))))])),some 7,some 11),((85,.val sh28 v297),some 8,some 12),((86,.val iS v343),some 9,some 12),((87,.val sh28 (List.drop (tZ v343) (List.take (List.length v297) v297))),some 10,some 12),((88,.val sh26 (((([]:List (Int × ((List (Int × Int)) × (ByteArray × (Int × Int))))) ++ (List.drop 0 (List.take (tZ v343) v297))) ++ [((gD x0.2 (tZ v298) (iO,(([]:(List (Int × Int))),([]:(List (ByteArray × ByteArray)))))).1,((([]:List (Int × Int)) ++ (gD x0.2 (tZ v298) (iO,(([]:(List (Int × Int))),([]:(List (ByteArray × ByteArray)))))).2.1),(r328.1.2.2.2.2.1,(r328.1.2.2.2.2.2.1,r328.1.2.2.2.2.2.2))))]) ++ (List.drop (tZ v343) (List.take (List.length v297) v297)))),some 11,some 12)] [] [0,2,6,262,774,775,782,806,1798,783,807,1799,814,1806,870,1830,799,815,1807,871,1831,878,1838,1894,831,1823,879,1839,1895,1902,895,1855,1903,1023,1919,2047,4095,8191] 8191 [(3,0,1),(4,1,1),(7,2,1),(10,3,1),(11,4,1)] h (by kernel_rfl) (by kernel_rfl) (by kernel_rfl) (ac hc346 (ac hc347 (ac hc348 (ac hc349 (ac hc350 an))))) (fun _ _ _ _ _ h => h) fun a w h => ?_
      obtain ⟨v344,hv345,hF⟩:=of_bind hF
      replace h:=h.cast (S':=[(1,.val sh23 x1),(2,.val sh25 (some x0)),(5,.val sh26 v344),(6,.val iS v298)]) (by cases hv345; kernel_rfl)
      exact ⟨v344,hF,ar h [1,2,5,6]⟩
   ·rintro a w ⟨v326,hF,h⟩
    rw [f51.j327] at hF
    refine zt [1,2,5,6] h an fun a w h => ?_
    exact ⟨(v326,(w64 (v298 + (1:Int)))),hF,ar h [1,2,5,6]⟩
  ·refine wp_exit ?_
   refine zs [4,5] h an fun a w h => ?_
   cases hF
   exact wp_ret (ret_okR tok h rfl (by kernel_rfl)).1
def f209.l12 (k:Nat) (x0:(List (ByteArray × ByteArray))) (x1:ByteArray):Nat→Int→Option Int
 | 0,_ => none
 | m12+1,v20 => if (decide (v20 < (List.length x0:Int))) then (if (0≤v20∧v20 < (List.length x0:Int)) then (if (ByteArray.toList (List.getD x0 (Int.toNat v20) ((⟨#[]⟩:ByteArray),(⟨#[]⟩:ByteArray))).1 == ByteArray.toList x1) then (some v20) else ((f209.l12 k x0 x1) m12 (IntKind.i64.wrap (v20 + (1:Int))))) else none) else (some (-1:Int))
def f209 (k:Nat) (x0:(List (ByteArray × ByteArray))) (x1:ByteArray):Option Int:=f209.l12 k x0 x1 k (0:Int)
theorem c209 (k:Nat) (x0:(List (ByteArray × ByteArray))) (x1:ByteArray) (r:Int) (hF:f209 k x0 x1=some r):PCall Try.prog 209 [⟨sh19,x0⟩,⟨.str,x1⟩] [⟨iS,r⟩]:=by
 refine pcall_intro Try.func209 rfl rfl (Nat.le_of_ble_eq_true rfl) ?_
 intro w0 Zi a w h
 rw [f209] at hF
 refine zs [0,1] h an fun a w h => ?_
 refine wp_seq ?_
 refine zs [1,7,8,9] h an fun a w h => ?_
 refine wp_block ?_
 refine wp_loop_fuel (f209.l12 k x0 x1) (fun v20 => [(1,.val .str x1),(7,.val sh19 x0),(8,.val iS (List.length x0:Int)),(9,.val iS v20)]) (fun v h => by rw [f209.l12] at h; cases h) ?_ hF (ar h [1,7,8,9])
 intro m12 v20 a w hF h
 rw [f209.l12] at hF
 refine zs [1,7,8,9,10] h an fun a w h => ?_
 refine wp_seq <| zi h hF (fun hF => ?_) (fun hF => ?_)
 ·refine wp_skip ?_
  refine wp_seq <| wp_block ?_
  obtain ⟨hc22,hF⟩:=of_if hF
  refine zs [1,5,6,7,8,9] h (ac hc22 an) fun a w h => ?_
  refine zs [1,5,7,8,9,17] h an fun a w h => ?_
  refine zi h hF (fun hF => ?_) (fun hF => ?_)
  ·refine zs [4] h an fun a w h => ?_
   cases hF
   exact wp_ret (ret_okR tok h rfl (by kernel_rfl)).1
  ·refine wp_skip ?_
   refine zt [1,7,8,9] h an fun a w h => ?_
   exact ⟨(w64 (v20 + (1:Int))),hF,ar h [1,7,8,9]⟩
 ·refine wp_exit ?_
  refine zs [4] h an fun a w h => ?_
  cases hF
  exact wp_ret (ret_okR tok h rfl (by kernel_rfl)).1
def f208 (k:Nat) (x0:(List (ByteArray × ByteArray))) (x1:ByteArray):Option ByteArray:=(f209 k x0 x1).bind fun r1 => (if (decide (r1 ≥ (0:Int))) then (if (0≤r1∧r1 < (List.length x0:Int)) then (some (List.getD x0 (Int.toNat r1) ((⟨#[]⟩:ByteArray),(⟨#[]⟩:ByteArray))).2) else none) else (some (⟨#[]⟩:ByteArray)))
theorem c208 (k:Nat) (x0:(List (ByteArray × ByteArray))) (x1:ByteArray) (r:ByteArray) (hF:f208 k x0 x1=some r):PCall Try.prog 208 [⟨sh19,x0⟩,⟨.str,x1⟩] [⟨.str,r⟩]:=by
 refine pcall_intro Try.func208 rfl rfl (Nat.le_of_ble_eq_true rfl) ?_
 intro w0 Zi a w h
 rw [f208] at hF
 refine zs [0,1] h an fun a w h => ?_
 refine wp_seq ?_
 obtain ⟨r1,hr4,hF⟩:=of_bind hF
 refine zc (orcL [(8,[⟨iS,r1⟩])]) [0,5] h (ac (c209 k x0 x1 r1 hr4) an) fun a w h => ?_
 refine zs [0,5,10] h an fun a w h => ?_
 refine zi h hF (fun hF => ?_) (fun hF => ?_)
 ·obtain ⟨hc3,hF⟩:=of_if hF
  refine zs [4] h (ac hc3 an) fun a w h => ?_
  cases hF
  exact wp_ret (ret_okR tok h rfl (by kernel_rfl)).1
 ·refine wp_skip ?_
  refine zs [4] h an fun a w h => ?_
  cases hF
  exact wp_ret (ret_okR tok h rfl (by kernel_rfl)).1
def f168.j229 (k:Nat) (v200:Int) (q120:Int→Option Bool):Bool→Option Bool
 | v228 => if (!v228) then (some false) else (q120 (IntKind.i64.wrap (v200 + (1:Int))))
def f168.l120 (k:Nat) (x0:(Int × (Int × ((List (ByteArray × (Int × ByteArray))) × (Bool × (ByteArray × (Int × Int))))))) (x1:(List (ByteArray × ByteArray))):Nat→Int→Option Bool
 | 0,_ => none
 | m120+1,v200 => if (decide (v200 < (List.length x0.2.2.1:Int))) then (if (0≤v200∧v200 < (List.length x0.2.2.1:Int)) then (if (((List.getD x0.2.2.1 (Int.toNat v200) ((⟨#[]⟩:ByteArray),((0:Int),(⟨#[]⟩:ByteArray)))).2.1:Int) == (1:Int)) then ((f208 k x1 (List.getD x0.2.2.1 (Int.toNat v200) ((⟨#[]⟩:ByteArray),((0:Int),(⟨#[]⟩:ByteArray)))).1).bind fun r230 => (f168.j229 k v200 ((f168.l120 k x0 x1) m120) (ByteArray.toList r230 == ByteArray.toList (List.getD x0.2.2.1 (Int.toNat v200) ((⟨#[]⟩:ByteArray),((0:Int),(⟨#[]⟩:ByteArray)))).2.2))) else (if (((List.getD x0.2.2.1 (Int.toNat v200) ((⟨#[]⟩:ByteArray),((0:Int),(⟨#[]⟩:ByteArray)))).2.1:Int) == (2:Int)) then ((f208 k x1 (List.getD x0.2.2.1 (Int.toNat v200) ((⟨#[]⟩:ByteArray),((0:Int),(⟨#[]⟩:ByteArray)))).1).bind fun r232 => (f168.j229 k v200 ((f168.l120 k x0 x1) m120) (!(ByteArray.toList r232 == ByteArray.toList (List.getD x0.2.2.1 (Int.toNat v200) ((⟨#[]⟩:ByteArray),((0:Int),(⟨#[]⟩:ByteArray)))).2.2)))) else (if (((List.getD x0.2.2.1 (Int.toNat v200) ((⟨#[]⟩:ByteArray),((0:Int),(⟨#[]⟩:ByteArray)))).2.1:Int) == (3:Int)) then ((f209 k x1 (List.getD x0.2.2.1 (Int.toNat v200) ((⟨#[]⟩:ByteArray),((0:Int),(⟨#[]⟩:ByteArray)))).1).bind fun r234 => (f168.j229 k v200 ((f168.l120 k x0 x1) m120) (decide (r234 ≥ (0:Int))))) else (if (((List.getD x0.2.2.1 (Int.toNat v200) ((⟨#[]⟩:ByteArray),((0:Int),(⟨#[]⟩:ByteArray)))).2.1:Int) == (4:Int)) then ((f209 k x1 (List.getD x0.2.2.1 (Int.toNat v200) ((⟨#[]⟩:ByteArray),((0:Int),(⟨#[]⟩:ByteArray)))).1).bind fun r236 => (f168.j229 k v200 ((f168.l120 k x0 x1) m120) (decide (r236 < (0:Int))))) else (f168.j229 k v200 ((f168.l120 k x0 x1) m120) false))))) else none) else (some true)
def f168 (k:Nat) (x0:(Int × (Int × ((List (ByteArray × (Int × ByteArray))) × (Bool × (ByteArray × (Int × Int))))))) (x1:(List (ByteArray × ByteArray))) (x2:Int):Option Bool:=if (bif (decide (x2 < x0.1)) then true else (decide (x2 > x0.2.1))) then (some false) else (f168.l120 k x0 x1 k (0:Int))
theorem c168 (k:Nat) (x0:(Int × (Int × ((List (ByteArray × (Int × ByteArray))) × (Bool × (ByteArray × (Int × Int))))))) (x1:(List (ByteArray × ByteArray))) (x2:Int) (r:Bool) (hF:f168 k x0 x1 x2=some r):PCall Try.prog 168 [⟨sh22,x0⟩,⟨sh19,x1⟩,⟨iS,x2⟩] [⟨.bool,r⟩]:=by
 refine pcall_intro Try.func168 rfl rfl (Nat.le_of_ble_eq_true rfl) ?_
 intro w0 Zi a w h
 rw [f168] at hF
 refine zs [1,2,3] h an fun a w h => ?_
 refine wp_seq ?_
 refine zs [1,3,19] h an fun a w h => ?_
 refine zi h hF (fun hF => ?_) (fun hF => ?_)
 ·refine zs [6] h an fun a w h => ?_
  cases hF
  exact wp_ret (ret_okR tok h rfl (by kernel_rfl)).1
 ·refine wp_skip ?_
  refine wp_seq ?_
  refine zs [1,21,22,23] h an fun a w h => ?_
  refine wp_block ?_
  refine wp_loop_fuel (f168.l120 k x0 x1) (fun v200 => [(1,.val sh19 x1),(21,.val sh32 x0.2.2.1),(22,.val iS (List.length x0.2.2.1:Int)),(23,.val iS v200)]) (fun v h => by rw [f168.l120] at h; cases h) ?_ hF (ar h [1,21,22,23])
  intro m120 v200 a w hF h
  rw [f168.l120] at hF
  refine zs [1,21,22,23,24] h an fun a w h => ?_
  refine wp_seq <| zi h hF (fun hF => ?_) (fun hF => ?_)
  ·refine wp_skip ?_
   refine wp_seq <| wp_block ?_
   obtain ⟨hc238,hF⟩:=of_if hF
   refine zs [1,8,21,22,23] h (ac hc238 an) fun a w h => ?_
   refine zs [1,8,9,21,22,23] h an fun a w h => ?_
   refine wp_seq ?_
   refine zs [1,8,9,21,22,23,28] h an fun a w h => ?_
   refine wp_midT (fun a w => ∃ v:Bool,f168.j229 k v200 ((f168.l120 k x0 x1) m120) v=some r∧Rel w0 (fun _ => False) Zi Try.f168.ntmps ((fun (v228:Bool) => ([(1,.val sh19 x1),(9,.val .bool v228),(21,.val sh32 x0.2.2.1),(22,.val iS (List.length x0.2.2.1:Int)),(23,.val iS v200)]:SS)) v) a w) ?_ ?_
   ·
    refine wp_block ?_
    refine zs [1,8,9,21,22,23,28,29] h an fun a w h => ?_
    refine zi h hF (fun hF => ?_) (fun hF => ?_)
    ·obtain ⟨r230,hr231,hF⟩:=of_bind hF
     refine wp_regy tok (orc:=orcL [(34,[⟨.str,r230⟩])]) (l:=[1,9,21,22,23]) ([],[],[],[]) 8 nw h (by kernel_rfl) (by kernel_rfl) (ac (c208 k x1 (gD x0.2.2.1 (tZ v200) ((⟨#[]⟩:ByteArray),(iO,(⟨#[]⟩:ByteArray)))).1 r230 hr231) an) fun a w h => ?_
     exact ⟨(ByteArray.toList r230 == ByteArray.toList (gD x0.2.2.1 (tZ v200) ((⟨#[]⟩:ByteArray),(iO,(⟨#[]⟩:ByteArray)))).2.2),hF,ar h [1,9,21,22,23]⟩
    ·refine zs [1,8,9,21,22,23,28,38] h an fun a w h => ?_
     refine zi h hF (fun hF => ?_) (fun hF => ?_)
     ·obtain ⟨r232,hr233,hF⟩:=of_bind hF
      refine wp_regy tok (orc:=orcL [(43,[⟨.str,r232⟩])]) (l:=[1,9,21,22,23]) ([],[],[],[]) 8 nw h (by kernel_rfl) (by kernel_rfl) (ac (c208 k x1 (gD x0.2.2.1 (tZ v200) ((⟨#[]⟩:ByteArray),(iO,(⟨#[]⟩:ByteArray)))).1 r232 hr233) an) fun a w h => ?_
      exact ⟨(!(ByteArray.toList r232 == ByteArray.toList (gD x0.2.2.1 (tZ v200) ((⟨#[]⟩:ByteArray),(iO,(⟨#[]⟩:ByteArray)))).2.2)),hF,ar h [1,9,21,22,23]⟩
     ·refine zs [1,8,9,21,22,23,28,47] h an fun a w h => ?_
      refine zi h hF (fun hF => ?_) (fun hF => ?_)
      ·obtain ⟨r234,hr235,hF⟩:=of_bind hF
       refine zd (orcL [(52,[⟨iS,r234⟩])]) [1,9,21,22,23] h (ac (c209 k x1 (gD x0.2.2.1 (tZ v200) ((⟨#[]⟩:ByteArray),(iO,(⟨#[]⟩:ByteArray)))).1 r234 hr235) an) fun a w h => ?_
       exact ⟨(decide (r234 ≥ iO)),hF,ar h [1,9,21,22,23]⟩
      ·refine zs [1,8,9,21,22,23,54] h an fun a w h => ?_
       refine zi h hF (fun hF => ?_) (fun hF => ?_)
       ·obtain ⟨r236,hr237,hF⟩:=of_bind hF
        refine zd (orcL [(59,[⟨iS,r236⟩])]) [1,9,21,22,23] h (ac (c209 k x1 (gD x0.2.2.1 (tZ v200) ((⟨#[]⟩:ByteArray),(iO,(⟨#[]⟩:ByteArray)))).1 r236 hr237) an) fun a w h => ?_
        exact ⟨(decide (r236 < iO)),hF,ar h [1,9,21,22,23]⟩
       ·refine wp_skip ?_
        exact ⟨false,hF,ar h [1,9,21,22,23]⟩
   ·rintro a w ⟨v228,hF,h⟩
    rw [f168.j229] at hF
    refine zs [1,21,22,23,62] h an fun a w h => ?_
    refine zi h hF (fun hF => ?_) (fun hF => ?_)
    ·refine zs [6] h an fun a w h => ?_
     cases hF
     exact wp_ret (ret_okR tok h rfl (by kernel_rfl)).1
    ·refine wp_skip ?_
     refine zt [1,21,22,23] h an fun a w h => ?_
     exact ⟨(w64 (v200 + (1:Int))),hF,ar h [1,21,22,23]⟩
  ·refine wp_exit ?_
   refine zs [6] h an fun a w h => ?_
   cases hF
   exact wp_ret (ret_okR tok h rfl (by kernel_rfl)).1
def f111.l42 (k:Nat) (x0:(List (Int × (Int × ((List (ByteArray × (Int × ByteArray))) × (Bool × (ByteArray × (Int × Int)))))))) (x1:(List (ByteArray × ByteArray))) (x2:Int):Nat→Int→Option ((Int × (Int × ((List (ByteArray × (Int × ByteArray))) × (Bool × (ByteArray × (Int × Int)))))) × Bool)
 | 0,_ => none
 | m42+1,v70 => if (decide (v70 ≥ (0:Int))) then (if (0≤v70∧v70 < (List.length x0:Int)) then ((f168 k (List.getD x0 (Int.toNat v70) ((0:Int),((0:Int),(([]:(List (ByteArray × (Int × ByteArray)))),(false,((⟨#[]⟩:ByteArray),((0:Int),(0:Int)))))))) x1 x2).bind fun r77 => (if r77 then (if (0≤v70∧v70 < (List.length x0:Int)) then (if (List.getD x0 (Int.toNat v70) ((0:Int),((0:Int),(([]:(List (ByteArray × (Int × ByteArray)))),(false,((⟨#[]⟩:ByteArray),((0:Int),(0:Int)))))))).2.2.2.1 then (some (((0:Int),((0:Int),(([]:(List (ByteArray × (Int × ByteArray)))),(false,((⟨#[]⟩:ByteArray),((0:Int),(0:Int))))))),false)) else (if (0≤v70∧v70 < (List.length x0:Int)) then (if ((List.length ([]:(List (ByteArray × (Int × ByteArray))))+List.length (List.getD x0 (Int.toNat v70) ((0:Int),((0:Int),(([]:(List (ByteArray × (Int × ByteArray)))),(false,((⟨#[]⟩:ByteArray),((0:Int),(0:Int)))))))).2.2.1)*40≤140737488355328) then (some (((List.getD x0 (Int.toNat v70) ((0:Int),((0:Int),(([]:(List (ByteArray × (Int × ByteArray)))),(false,((⟨#[]⟩:ByteArray),((0:Int),(0:Int)))))))).1,((List.getD x0 (Int.toNat v70) ((0:Int),((0:Int),(([]:(List (ByteArray × (Int × ByteArray)))),(false,((⟨#[]⟩:ByteArray),((0:Int),(0:Int)))))))).2.1,((([]:(List (ByteArray × (Int × ByteArray)))) ++ (List.getD x0 (Int.toNat v70) ((0:Int),((0:Int),(([]:(List (ByteArray × (Int × ByteArray)))),(false,((⟨#[]⟩:ByteArray),((0:Int),(0:Int)))))))).2.2.1),(List.getD x0 (Int.toNat v70) ((0:Int),((0:Int),(([]:(List (ByteArray × (Int × ByteArray)))),(false,((⟨#[]⟩:ByteArray),((0:Int),(0:Int)))))))).2.2.2))),true)) else none) else none)) else none) else ((f111.l42 k x0 x1 x2) m42 (IntKind.i64.wrap (v70 - (1:Int)))))) else none) else (some (((0:Int),((0:Int),(([]:(List (ByteArray × (Int × ByteArray)))),(false,((⟨#[]⟩:ByteArray),((0:Int),(0:Int))))))),false))
def f111 (k:Nat) (x0:(List (Int × (Int × ((List (ByteArray × (Int × ByteArray))) × (Bool × (ByteArray × (Int × Int)))))))) (x1:(List (ByteArray × ByteArray))) (x2:Int):Option ((Int × (Int × ((List (ByteArray × (Int × ByteArray))) × (Bool × (ByteArray × (Int × Int)))))) × Bool):=if (decide (((List.length x0:Int):Int) > (100:Int))) then (some (((0:Int),((0:Int),(([]:(List (ByteArray × (Int × ByteArray)))),(false,((⟨#[]⟩:ByteArray),((0:Int),(0:Int))))))),false)) else (f111.l42 k x0 x1 x2 k (IntKind.i64.wrap ((List.length x0:Int) - (1:Int))))
theorem c111 (k:Nat) (x0:(List (Int × (Int × ((List (ByteArray × (Int × ByteArray))) × (Bool × (ByteArray × (Int × Int)))))))) (x1:(List (ByteArray × ByteArray))) (x2:Int) (r:((Int × (Int × ((List (ByteArray × (Int × ByteArray))) × (Bool × (ByteArray × (Int × Int)))))) × Bool)) (hF:f111 k x0 x1 x2=some r):PCall Try.prog 111 [⟨sh23,x0⟩,⟨sh19,x1⟩,⟨iS,x2⟩] [⟨sh17,r.1⟩,⟨.bool,r.2⟩]:=by
 refine pcall_intro Try.func111 rfl rfl (Nat.le_of_ble_eq_true rfl) ?_
 intro w0 Zi a w h
 rw [f111] at hF
 refine zs [0,1,2,6] h an fun a w h => ?_
 refine wp_seq ?_
 refine zs [0,1,2,6,12] h an fun a w h => ?_
 refine zi h hF (fun hF => ?_) (fun hF => ?_)
 ·refine zs [6,7] h an fun a w h => ?_
  cases hF
  exact wp_ret (ret_okR tok h rfl (by kernel_rfl)).1
 ·refine wp_skip ?_
  refine wp_seq ?_
  refine zs [0,1,2,6,8] h an fun a w h => ?_
  refine wp_block ?_
  refine wp_loop_fuel (f111.l42 k x0 x1 x2) (fun v70 => [(0,.val sh23 x0),(1,.val sh19 x1),(2,.val iS x2),(6,.val sh24 (some (iO,(iO,(([]:(List (ByteArray × (Int × ByteArray)))),(false,((⟨#[]⟩:ByteArray),(iO,iO)))))))),(8,.val iS v70)]) (fun v h => by rw [f111.l42] at h; cases h) ?_ hF (ar h [0,1,2,6,8])
  intro m42 v70 a w hF h
  rw [f111.l42] at hF
  refine wp_seq ?_
  refine zs [0,1,2,6,8,18] h an fun a w h => ?_
  refine zi h hF (fun hF => ?_) (fun hF => ?_)
  ·refine wp_skip ?_
   refine wp_seq <| wp_block ?_
   obtain ⟨hc81,hF⟩:=of_if hF
   obtain ⟨r77,hr82,hF⟩:=of_bind hF
   refine zc (orcL [(27,[⟨.bool,r77⟩])]) [0,1,2,6,8,27] h (ac hc81 (ac (c168 k (gD x0 (tZ v70) (iO,(iO,(([]:(List (ByteArray × (Int × ByteArray)))),(false,((⟨#[]⟩:ByteArray),(iO,iO))))))) x1 x2 r77 hr82) an)) fun a w h => ?_
   refine zi h hF (fun hF => ?_) (fun hF => ?_)
   ·refine wp_seq ?_
    obtain ⟨hc80,hF⟩:=of_if hF
    refine zs [0,6,8,32] h (ac hc80 an) fun a w h => ?_
    refine zi h hF (fun hF => ?_) (fun hF => ?_)
    ·refine zs [6,7] h an fun a w h => ?_
     cases hF
     exact wp_ret (ret_okR tok h rfl (by kernel_rfl)).1
    ·refine wp_skip ?_
     obtain ⟨hc79,hF⟩:=of_if hF
     refine zs [6,9] h (ac hc79 an) fun a w h => ?_
     obtain ⟨hc78,hF⟩:=of_if hF
     refine zs [6,9] h (ac hc78 an) fun a w h => ?_
     refine zs [6,7] h an fun a w h => ?_
     cases hF
     exact wp_ret (ret_okR tok h rfl (by kernel_rfl)).1
   ·refine wp_skip ?_
    refine zt [0,1,2,6,8] h an fun a w h => ?_
    exact ⟨(w64 (v70 - (1:Int))),hF,ar h [0,1,2,6,8]⟩
  ·refine wp_exit ?_
   refine zs [6,7] h an fun a w h => ?_
   cases hF
   exact wp_ret (ret_okR tok h rfl (by kernel_rfl)).1
def f112 (k:Nat) (x0:Int) (x1:Int) (x2_0:(List (Int × ((List (Int × Int)) × (ByteArray × (Int × Int)))))):Option Bool:=if (0≤x0∧x0 < (List.length x2_0:Int)) then (if (0≤x1∧x1 < (List.length x2_0:Int)) then (some (decide (((List.getD x2_0 (Int.toNat x0) ((0:Int),(([]:(List (Int × Int))),((⟨#[]⟩:ByteArray),((0:Int),(0:Int)))))).2.2.2.2:Int) < (List.getD x2_0 (Int.toNat x1) ((0:Int),(([]:(List (Int × Int))),((⟨#[]⟩:ByteArray),((0:Int),(0:Int)))))).2.2.2.2))) else none) else none
theorem c112 (k:Nat) (x0:Int) (x1:Int) (x2_0:(List (Int × ((List (Int × Int)) × (ByteArray × (Int × Int)))))) (r:Bool) (hF:f112 k x0 x1 x2_0=some r):PCall Try.prog 112 [⟨iS,x0⟩,⟨iS,x1⟩,⟨sh38,(some x2_0)⟩] [⟨.bool,r⟩]:=by
 refine pcall_intro Try.func112 rfl rfl (Nat.le_of_ble_eq_true rfl) ?_
 intro w0 Zi a w h
 rw [f112] at hF
 refine zs [0,1,2] h an fun a w h => ?_
 obtain ⟨hc1,hF⟩:=of_if hF
 obtain ⟨hc2,hF⟩:=of_if hF
 refine wp_regy_seq tok (orc:=o0) (l:=[5]) ([],[],[],[]) 12 nw h (by kernel_rfl) (by kernel_rfl) (ac hc1 (ac hc2 an)) fun a w h => ?_
 cases hF
 exact wp_ret (ret_okR tok h rfl (by kernel_rfl)).1
def H112:Prop:=∀ (k:Nat),LessOk (α:=(Int × ((List (Int × Int)) × (ByteArray × (Int × Int))))) (Sh.dflt sh37) (fun (ys:List (Int × ((List (Int × Int)) × (ByteArray × (Int × Int))))) (i j:Int) => f112 k i j ys)
def f54.j85 (k:Nat) (v78:Int) (q46:((List (Int × ((List (Int × Int)) × (ByteArray × (Int × Int))))) × Int)→Option (List (Int × ((List (Int × Int)) × (ByteArray × (Int × Int)))))):(List (Int × ((List (Int × Int)) × (ByteArray × (Int × Int)))))→Option (List (Int × ((List (Int × Int)) × (ByteArray × (Int × Int)))))
 | v84 => q46 (v84,(IntKind.i64.wrap (v78 + (1:Int))))
def f54.l46 (k:Nat) (x0:((Int × (Int × Int)) × (List (Int × ((List (Int × Int)) × (List (ByteArray × ByteArray))))))) (x1:(List (Int × (Int × ((List (ByteArray × (Int × ByteArray))) × (Bool × (ByteArray × (Int × Int)))))))):Nat → ((List (Int × ((List (Int × Int)) × (ByteArray × (Int × Int))))) × Int)→Option (List (Int × ((List (Int × Int)) × (ByteArray × (Int × Int)))))
 | 0,_ => none
 | m46+1,(v77,v78) => if (decide (v78 < (List.length x0.2:Int))) then (if (0≤v78∧v78 < (List.length x0.2:Int)) then ((f111 k x1 (List.getD x0.2 (Int.toNat v78) ((0:Int),(([]:(List (Int × Int))),([]:(List (ByteArray × ByteArray)))))).2.2 x0.1.1).bind fun r86 => (if r86.2 then (if ((List.length ([]:(List (Int × Int)))+List.length (List.getD x0.2 (Int.toNat v78) ((0:Int),(([]:(List (Int × Int))),([]:(List (ByteArray × ByteArray)))))).2.1)*16≤140737488355328) then (if ((List.length v77+List.length [((List.getD x0.2 (Int.toNat v78) ((0:Int),(([]:(List (Int × Int))),([]:(List (ByteArray × ByteArray)))))).1,((([]:(List (Int × Int))) ++ (List.getD x0.2 (Int.toNat v78) ((0:Int),(([]:(List (Int × Int))),([]:(List (ByteArray × ByteArray)))))).2.1),(r86.1.2.2.2.2.1,(r86.1.2.2.2.2.2.1,r86.1.2.2.2.2.2.2))))])*64≤140737488355328) then (f54.j85 k v78 ((f54.l46 k x0 x1) m46) (v77 ++ [((List.getD x0.2 (Int.toNat v78) ((0:Int),(([]:(List (Int × Int))),([]:(List (ByteArray × ByteArray)))))).1,((([]:(List (Int × Int))) ++ (List.getD x0.2 (Int.toNat v78) ((0:Int),(([]:(List (Int × Int))),([]:(List (ByteArray × ByteArray)))))).2.1),(r86.1.2.2.2.2.1,(r86.1.2.2.2.2.2.1,r86.1.2.2.2.2.2.2))))])) else none) else none) else (f54.j85 k v78 ((f54.l46 k x0 x1) m46) v77))) else none) else (if (List.length v77 < 2305843009213693952) then (some (sortR (α:=(Int × ((List (Int × Int)) × (ByteArray × (Int × Int))))) Go.Proofs.Ytnpaokckkbhdjaa.S.stbR (Sh.dflt sh37) (ofLess (fun (ys:List (Int × ((List (Int × Int)) × (ByteArray × (Int × Int))))) (i j:Int) => f112 k i j ys)) v77)) else none)
def f54 (k:Nat) (x0:((Int × (Int × Int)) × (List (Int × ((List (Int × Int)) × (List (ByteArray × ByteArray))))))) (x1:(List (Int × (Int × ((List (ByteArray × (Int × ByteArray))) × (Bool × (ByteArray × (Int × Int)))))))):Option (List (Int × ((List (Int × Int)) × (ByteArray × (Int × Int))))):=if (bif (decide (((List.length x0.2:Int):Int) > (2000:Int))) then true else (decide (((List.length x1:Int):Int) > (100:Int)))) then (some ([]:(List (Int × ((List (Int × Int)) × (ByteArray × (Int × Int))))))) else (f54.l46 k x0 x1 k (([]:(List (Int × ((List (Int × Int)) × (ByteArray × (Int × Int)))))),(0:Int)))
theorem c54 (k:Nat) (x0:((Int × (Int × Int)) × (List (Int × ((List (Int × Int)) × (List (ByteArray × ByteArray))))))) (x1:(List (Int × (Int × ((List (ByteArray × (Int × ByteArray))) × (Bool × (ByteArray × (Int × Int)))))))) (h112:H112) (r:(List (Int × ((List (Int × Int)) × (ByteArray × (Int × Int)))))) (hF:f54 k x0 x1=some r):PCall Try.prog 54 [⟨sh31,x0⟩,⟨sh23,x1⟩] [⟨sh35,r⟩]:=by
 refine pcall_intro Try.func54 rfl rfl (Nat.le_of_ble_eq_true rfl) ?_
 intro w0 Zi a w h
 rw [f54] at hF
 refine zs [1,2] h an fun a w h => ?_
 refine wp_seq ?_
 refine zs [1,2,18] h an fun a w h => ?_
 refine zi h hF (fun hF => ?_) (fun hF => ?_)
 ·refine zs [4] h an fun a w h => ?_
  cases hF
  exact wp_ret (ret_okR tok h rfl (by kernel_rfl)).1
 ·refine wp_skip ?_
  refine zs [1,2,5] h an fun a w h => ?_
  refine wp_seq ?_
  refine zs [1,2,5,20,21,22] h an fun a w h => ?_
  refine wp_block ?_
  refine wp_loop_fuel (f54.l46 k x0 x1) (fun ((v77,v78):((List (Int × ((List (Int × Int)) × (ByteArray × (Int × Int))))) × Int)) => [(1,.val sh23 x1),(2,.val sh25 (some x0)),(5,.val sh33 (some v77)),(20,.val sh34 x0.2),(21,.val iS (List.length x0.2:Int)),(22,.val iS v78)]) (fun v h => by obtain ⟨v77,v78⟩:=v; rw [f54.l46] at h; cases h) ?_ hF (ar h [1,2,5,20,21,22])
  intro m46 v a w hF h
  obtain ⟨v77,v78⟩:=v
  rw [f54.l46] at hF
  refine zs [1,2,5,20,21,22,23] h an fun a w h => ?_
  refine wp_seq <| zi h hF (fun hF => ?_) (fun hF => ?_)
  ·refine wp_skip ?_
   refine wp_mid (fun a w => ∃ v:(List (Int × ((List (Int × Int)) × (ByteArray × (Int × Int))))),f54.j85 k v78 ((f54.l46 k x0 x1) m46) v=some r∧Rel w0 (fun _ => False) Zi Try.f54.ntmps ((fun (v84:(List (Int × ((List (Int × Int)) × (ByteArray × (Int × Int)))))) => ([(1,.val sh23 x1),(2,.val sh25 (some x0)),(5,.val sh33 (some v84)),(20,.val sh34 x0.2),(21,.val iS (List.length x0.2:Int)),(22,.val iS v78)]:SS)) v) a w) ?_ ?_
   ·
    refine wp_block ?_
    obtain ⟨hc90,hF⟩:=of_if hF
    refine zs [1,2,5,7,20,21,22] h (ac hc90 an) fun a w h => ?_
    obtain ⟨r86,hr89,hF⟩:=of_bind hF
    refine zc (orcL [(33,[⟨sh17,r86.1⟩,⟨.bool,r86.2⟩]),(26,[⟨.pt false 4294967292 .unit,some ()⟩])]) [1,2,5,7,8,9,20,21,22] h (ac (c111 k x1 (gD x0.2 (tZ v78) (iO,(([]:(List (Int × Int))),([]:(List (ByteArray × ByteArray)))))).2.2 x0.1.1 r86 hr89) an) fun a w h => ?_
    refine zs [1,2,5,7,8,20,21,22,36] h an fun a w h => ?_
    refine zi h hF (fun hF => ?_) (fun hF => ?_)
    ·obtain ⟨hc87,hF⟩:=of_if hF
     obtain ⟨hc88,hF⟩:=of_if hF
     refine wp_regX (sxH_ok [0] (sxA_ok tok (orc:=o0) (spA:=[]) (sp:=[]))) [((1,.val sh23 x1),none,none),((2,.val sh25 (some x0)),none,none),((5,.val sh33 (some v77)),none,some 0),((5,.val (.pt true 86 .any) (some ())),some 0,some 15),((5,.val sh33 (some (v77 ++ [((gD x0.2 (tZ v78) (iO,(([]:(List (Int × Int))),([]:(List (ByteArray × ByteArray)))))).1,((([]:(List (Int × Int))) ++ (gD x0.2 (tZ v78) (iO,(([]:(List (Int × Int))),([]:(List (ByteArray × ByteArray)))))).2.1),(r86.1.2.2.2.2.1,(r86.1.2.2.2.2.2.1,r86.1.2.2.2.2.2.2))))]))),some 15,none),((7,.val sh27 (some (gD x0.2 (tZ v78) (iO,(([]:(List (Int × Int))),([]:(List (ByteArray × ByteArray)))))))),none,some 15),((8,.val sh24 (some r86.1)),none,some 15),((20,.val sh34 x0.2),none,none),((21,.val iS (List.length x0.2:Int)),none,none),((22,.val iS v78),none,none),((36,.val .bool r86.2),none,some 15),((37,.val sh35 v77),some 0,some 14),((38,.addr 7 [.der,.fst]),some 1,some 15),((39,.val iS (gD x0.2 (tZ v78) (iO,(([]:(List (Int × Int))),([]:(List (ByteArray × ByteArray)))))).1),some 2,some 15),((40,.addr 7 [.der,.snd,.fst]),some 3,some 15),((41,.val sh36 (gD x0.2 (tZ v78) (iO,(([]:(List (Int × Int))),([]:(List (ByteArray × ByteArray)))))).2.1),some 4,some 15),((42,.val sh11 (([]:(List (Int × Int))) ++ (gD x0.2 (tZ v78) (iO,(([]:(List (Int × Int))),([]:(List (ByteArray × ByteArray)))))).2.1)),some 5,some 12),((43,.addr 8 [.der,.snd,.snd,.snd,.snd,.fst]),some 6,some 15),((44,.val .str r86.1.2.2.2.2.1),some 7,some 15),((45,.addr 8 [.der,.snd,.snd,.snd,.snd,.snd,.fst]),some 8,some 15),((46,.val iS r86.1.2.2.2.2.2.1),some 9,some 15),((47,.addr 8 [.der,.snd,.snd,.snd,.snd,.snd,.snd]),some 10,some 15),((48,.val iS r86.1.2.2.2.2.2.2),some 11,some 15),((49,.val sh37 ((gD x0.2 (tZ v78) (iO,(([]:(List (Int × Int))),([]:(List (ByteArray × ByteArray)))))).1,((([]:(List (Int × Int))) ++ (gD x0.2 (tZ v78) (iO,(([]:(List (Int × Int))),([]:(List (ByteArray × ByteArray)))))).2.1),(r86.1.2.2.2.2.1,(r86.1.2.2.2.2.2.1,r86.1.2.2.2.2.2.2))))),some 12,some 13),((50,.val sh35 [((gD x0.2 (tZ v78) (iO,(([]:(List (Int × Int))),([]:(List (ByteArray × ByteArray)))))).1,((([]:(List (Int × Int))) ++ (gD x0.2 (tZ v78) (iO,(([]:(List (Int × Int))),([]:(List (ByteArray × ByteArray)))))).2.1),(r86.1.2.2.2.2.1,(r86.1.2.2.2.2.2.1,r86.1.2.2.2.2.2.2))))]),some 13,some 14),((51,.val sh35 (v77 ++ [((gD x0.2 (tZ v78) (iO,(([]:(List (Int × Int))),([]:(List (ByteArray × ByteArray)))))).1,((([]:(List (Int × Int))) ++ (gD x0.2 (tZ v78) (iO,(([]:(List (Int × Int))),([]:(List (ByteArray × ByteArray)))))).2.1),(r86.1.2.2.2.2.1,(r86.1.2.2.2.2.2.1,r86.1.2.2.2.2.2.2))))])),some 14,some 15)] [] [0,2,10,74,330,1354,1355,1358,1370,1482,1866,3402,1359,1371,1483,1867,3403,1374,1486,1870,3406,1402,1498,1882,3418,1994,3530,3914,1375,1487,1871,3407,1403,1499,1883,3419,1995,3531,3915,1406,1502,1886,3422,1998,3534,3918,1530,1914,3450,2010,3546,3930,4042,1407,1503,1887,3423,1999,3535,3919,1531,1915,3451,2011,3547,3931,4043,1534,1918,3454,2014,3550,3934,4046,2042,3578,3962,4058,1535,1919,3455,2015,3551,3935,4047,2043,3579,3963,4059,2046,3582,3966,4062,4090,2047,3583,3967,4063,4091,4094,4095,8190,8191,16382,16383,32767,65535] 65535 [(5,0,1),(14,1,1)] h (by kernel_rfl) (by kernel_rfl) (by kernel_rfl) (ac hc87 (ac hc88 an)) (fun _ _ _ _ _ h => h) fun a w h => ?_
     exact ⟨(v77 ++ [((gD x0.2 (tZ v78) (iO,(([]:(List (Int × Int))),([]:(List (ByteArray × ByteArray)))))).1,((([]:(List (Int × Int))) ++ (gD x0.2 (tZ v78) (iO,(([]:(List (Int × Int))),([]:(List (ByteArray × ByteArray)))))).2.1),(r86.1.2.2.2.2.1,(r86.1.2.2.2.2.2.1,r86.1.2.2.2.2.2.2))))]),hF,ar h [1,2,5,20,21,22]⟩
    ·refine wp_skip ?_
     exact ⟨v77,hF,ar h [1,2,5,20,21,22]⟩
   ·rintro a w ⟨v84,hF,h⟩
    rw [f54.j85] at hF
    refine zt [1,2,5,20,21,22] h an fun a w h => ?_
    exact ⟨(v84,(w64 (v78 + (1:Int)))),hF,ar h [1,2,5,20,21,22]⟩
  ·refine wp_exit ?_
   obtain ⟨hc91,hF⟩:=of_if hF
   refine wp_sort_seq tok (fs:=96) (te:=158) (g:=112) (e:=sh37) (res:=Go.Proofs.Ytnpaokckkbhdjaa.S.stbR) (cap:=#[.tmp 5]) (cl:=[5]) (f:=(fun (ys:List (Int × ((List (Int × Int)) × (ByteArray × (Int × Int))))) (i j:Int) => f112 k i j ys)) Go.Proofs.Ytnpaokckkbhdjaa.S.sc96_86 h rfl rfl rfl rfl rfl rfl rfl rfl rfl rfl rfl rfl rfl rfl (by kernel_rfl) (by kernel_rfl) (by kernel_rfl) rfl (by kernel_rfl) (by kernel_rfl) hc91 ⟨_,Try.func96,rfl,rfl⟩ ⟨_,Try.func112,rfl,rfl⟩ (h112 k) (fun ys => ⟨[(5,[])],[⟨sh38,(some ys)⟩],by kernel_rfl,by kernel_rfl,fun i j r hr => c112 k i j ys r hr⟩) fun a w h => ?_
   replace h:=h.only [5] (by kernel_rfl)
   refine zs [4,5] h an fun a w h => ?_
   cases hF
   exact wp_ret (ret_okR tok h rfl (by kernel_rfl)).1
def f143 (k:Nat) (x0:(Int × Int)) (x1:(Int × Int)):Option Bool:=if (x0.1 != x1.1) then (some false) else (if (x0.2 != x1.2) then (some false) else (some true))
theorem c143 (k:Nat) (x0:(Int × Int)) (x1:(Int × Int)) (r:Bool) (hF:f143 k x0 x1=some r):PCall Try.prog 143 [⟨sh10,x0⟩,⟨sh10,x1⟩] [⟨.bool,r⟩]:=by
 refine pcall_intro Try.func143 rfl rfl (Nat.le_of_ble_eq_true rfl) ?_
 intro w0 Zi a w h
 rw [f143] at hF
 refine zs [2,3] h an fun a w h => ?_
 refine wp_seq ?_
 refine zs [2,3,9] h an fun a w h => ?_
 refine zi h hF (fun hF => ?_) (fun hF => ?_)
 ·refine zs [4] h an fun a w h => ?_
  cases hF
  exact wp_ret (ret_okR tok h rfl (by kernel_rfl)).1
 ·refine wp_skip ?_
  refine wp_seq ?_
  refine zs [14] h an fun a w h => ?_
  refine zi h hF (fun hF => ?_) (fun hF => ?_)
  ·refine zs [4] h an fun a w h => ?_
   cases hF
   exact wp_ret (ret_okR tok h rfl (by kernel_rfl)).1
  ·refine wp_skip ?_
   refine zs [4] h an fun a w h => ?_
   cases hF
   exact wp_ret (ret_okR tok h rfl (by kernel_rfl)).1
def f169.l30 (k:Nat) (x0:(List (Int × Int))) (x1:(List (Int × Int))):Nat→Int→Option Bool
 | 0,_ => none
 | m30+1,v50 => if (decide (v50 < (List.length x0:Int))) then (if (0≤v50∧v50 < (List.length x0:Int)) then (if (0≤v50∧v50 < (List.length x1:Int)) then ((f143 k (List.getD x0 (Int.toNat v50) ((0:Int),(0:Int))) (List.getD x1 (Int.toNat v50) ((0:Int),(0:Int)))).bind fun r55 => (if (!r55) then (some false) else ((f169.l30 k x0 x1) m30 (IntKind.i64.wrap (v50 + (1:Int)))))) else none) else none) else (some true)
def f169 (k:Nat) (x0:(List (Int × Int))) (x1:(List (Int × Int))):Option Bool:=if (((List.length x0:Int):Int) != (List.length x1:Int)) then (some false) else (f169.l30 k x0 x1 k (0:Int))
theorem c169 (k:Nat) (x0:(List (Int × Int))) (x1:(List (Int × Int))) (r:Bool) (hF:f169 k x0 x1=some r):PCall Try.prog 169 [⟨sh36,x0⟩,⟨sh36,x1⟩] [⟨.bool,r⟩]:=by
 refine pcall_intro Try.func169 rfl rfl (Nat.le_of_ble_eq_true rfl) ?_
 intro w0 Zi a w h
 rw [f169] at hF
 refine zs [0,1] h an fun a w h => ?_
 refine wp_seq ?_
 refine zs [0,1,10] h an fun a w h => ?_
 refine zi h hF (fun hF => ?_) (fun hF => ?_)
 ·refine zs [4] h an fun a w h => ?_
  cases hF
  exact wp_ret (ret_okR tok h rfl (by kernel_rfl)).1
 ·refine wp_skip ?_
  refine wp_seq ?_
  refine zs [0,1,5] h an fun a w h => ?_
  refine wp_block ?_
  refine wp_loop_fuel (f169.l30 k x0 x1) (fun v50 => [(0,.val sh36 x0),(1,.val sh36 x1),(5,.val iS v50)]) (fun v h => by rw [f169.l30] at h; cases h) ?_ hF (ar h [0,1,5])
  intro m30 v50 a w hF h
  rw [f169.l30] at hF
  refine wp_seq ?_
  refine zs [0,1,5,14] h an fun a w h => ?_
  refine zi h hF (fun hF => ?_) (fun hF => ?_)
  ·refine wp_skip ?_
   refine wp_seq <| wp_block ?_
   obtain ⟨hc56,hF⟩:=of_if hF
   obtain ⟨hc57,hF⟩:=of_if hF
   obtain ⟨r55,hr58,hF⟩:=of_bind hF
   refine wp_regy_seq tok (orc:=orcL [(25,[⟨.bool,r55⟩])]) (l:=[0,1,5,26]) ([],[],[],[]) 10 nw h (by kernel_rfl) (by kernel_rfl) (ac hc56 (ac hc57 (ac (c143 k (gD x0 (tZ v50) (iO,iO)) (gD x1 (tZ v50) (iO,iO)) r55 hr58) an))) fun a w h => ?_
   refine zi h hF (fun hF => ?_) (fun hF => ?_)
   ·refine zs [4] h an fun a w h => ?_
    cases hF
    exact wp_ret (ret_okR tok h rfl (by kernel_rfl)).1
   ·refine wp_skip ?_
    refine zt [0,1,5] h an fun a w h => ?_
    exact ⟨(w64 (v50 + (1:Int))),hF,ar h [0,1,5]⟩
  ·refine wp_exit ?_
   refine zs [4] h an fun a w h => ?_
   cases hF
   exact wp_ret (ret_okR tok h rfl (by kernel_rfl)).1
def f113 (k:Nat) (x0:(Int × ((List (Int × Int)) × (ByteArray × (Int × Int))))) (x1:(Int × ((List (Int × Int)) × (ByteArray × (Int × Int))))):Option Bool:=if (x0.1 != x1.1) then (some false) else ((f169 k x0.2.1 x1.2.1).bind fun r1 => (if (!r1) then (some false) else (if (!(ByteArray.toList x0.2.2.1 == ByteArray.toList x1.2.2.1)) then (some false) else (if (x0.2.2.2.1 != x1.2.2.2.1) then (some false) else (if (x0.2.2.2.2 != x1.2.2.2.2) then (some false) else (some true))))))
theorem c113 (k:Nat) (x0:(Int × ((List (Int × Int)) × (ByteArray × (Int × Int))))) (x1:(Int × ((List (Int × Int)) × (ByteArray × (Int × Int))))) (r:Bool) (hF:f113 k x0 x1=some r):PCall Try.prog 113 [⟨sh30,x0⟩,⟨sh30,x1⟩] [⟨.bool,r⟩]:=by
 refine pcall_intro Try.func113 rfl rfl (Nat.le_of_ble_eq_true rfl) ?_
 intro w0 Zi a w h
 rw [f113] at hF
 refine zs [2,3] h an fun a w h => ?_
 refine wp_seq ?_
 refine zs [2,3,9] h an fun a w h => ?_
 refine zi h hF (fun hF => ?_) (fun hF => ?_)
 ·refine zs [4] h an fun a w h => ?_
  cases hF
  exact wp_ret (ret_okR tok h rfl (by kernel_rfl)).1
 ·refine wp_skip ?_
  refine wp_seq ?_
  obtain ⟨r1,hr2,hF⟩:=of_bind hF
  refine zc (orcL [(14,[⟨.bool,r1⟩])]) [2,3,15] h (ac (c169 k x0.2.1 x1.2.1 r1 hr2) an) fun a w h => ?_
  refine zi h hF (fun hF => ?_) (fun hF => ?_)
  ·refine zs [4] h an fun a w h => ?_
   cases hF
   exact wp_ret (ret_okR tok h rfl (by kernel_rfl)).1
  ·refine wp_skip ?_
   refine wp_seq ?_
   refine zs [2,3,20] h an fun a w h => ?_
   refine zi h hF (fun hF => ?_) (fun hF => ?_)
   ·refine zs [4] h an fun a w h => ?_
    cases hF
    exact wp_ret (ret_okR tok h rfl (by kernel_rfl)).1
   ·refine wp_skip ?_
    refine wp_seq ?_
    refine zs [2,3,25] h an fun a w h => ?_
    refine zi h hF (fun hF => ?_) (fun hF => ?_)
    ·refine zs [4] h an fun a w h => ?_
     cases hF
     exact wp_ret (ret_okR tok h rfl (by kernel_rfl)).1
    ·refine wp_skip ?_
     refine wp_seq ?_
     refine zs [30] h an fun a w h => ?_
     refine zi h hF (fun hF => ?_) (fun hF => ?_)
     ·refine zs [4] h an fun a w h => ?_
      cases hF
      exact wp_ret (ret_okR tok h rfl (by kernel_rfl)).1
     ·refine wp_skip ?_
      refine zs [4] h an fun a w h => ?_
      cases hF
      exact wp_ret (ret_okR tok h rfl (by kernel_rfl)).1
def f55.l30 (k:Nat) (x0:(List (Int × ((List (Int × Int)) × (ByteArray × (Int × Int)))))) (x1:(List (Int × ((List (Int × Int)) × (ByteArray × (Int × Int)))))):Nat→Int→Option Bool
 | 0,_ => none
 | m30+1,v50 => if (decide (v50 < (List.length x0:Int))) then (if (0≤v50∧v50 < (List.length x0:Int)) then (if (0≤v50∧v50 < (List.length x1:Int)) then ((f113 k (List.getD x0 (Int.toNat v50) ((0:Int),(([]:(List (Int × Int))),((⟨#[]⟩:ByteArray),((0:Int),(0:Int)))))) (List.getD x1 (Int.toNat v50) ((0:Int),(([]:(List (Int × Int))),((⟨#[]⟩:ByteArray),((0:Int),(0:Int))))))).bind fun r55 => (if (!r55) then (some false) else ((f55.l30 k x0 x1) m30 (IntKind.i64.wrap (v50 + (1:Int)))))) else none) else none) else (some true)
def f55 (k:Nat) (x0:(List (Int × ((List (Int × Int)) × (ByteArray × (Int × Int)))))) (x1:(List (Int × ((List (Int × Int)) × (ByteArray × (Int × Int)))))):Option Bool:=if (((List.length x0:Int):Int) != (List.length x1:Int)) then (some false) else (f55.l30 k x0 x1 k (0:Int))
theorem c55 (k:Nat) (x0:(List (Int × ((List (Int × Int)) × (ByteArray × (Int × Int)))))) (x1:(List (Int × ((List (Int × Int)) × (ByteArray × (Int × Int)))))) (r:Bool) (hF:f55 k x0 x1=some r):PCall Try.prog 55 [⟨sh28,x0⟩,⟨sh28,x1⟩] [⟨.bool,r⟩]:=by
 refine pcall_intro Try.func55 rfl rfl (Nat.le_of_ble_eq_true rfl) ?_
 intro w0 Zi a w h
 rw [f55] at hF
 refine zs [0,1] h an fun a w h => ?_
 refine wp_seq ?_
 refine zs [0,1,10] h an fun a w h => ?_
 refine zi h hF (fun hF => ?_) (fun hF => ?_)
 ·refine zs [4] h an fun a w h => ?_
  cases hF
  exact wp_ret (ret_okR tok h rfl (by kernel_rfl)).1
 ·refine wp_skip ?_
  refine wp_seq ?_
  refine zs [0,1,5] h an fun a w h => ?_
  refine wp_block ?_
  refine wp_loop_fuel (f55.l30 k x0 x1) (fun v50 => [(0,.val sh28 x0),(1,.val sh28 x1),(5,.val iS v50)]) (fun v h => by rw [f55.l30] at h; cases h) ?_ hF (ar h [0,1,5])
  intro m30 v50 a w hF h
  rw [f55.l30] at hF
  refine wp_seq ?_
  refine zs [0,1,5,14] h an fun a w h => ?_
  refine zi h hF (fun hF => ?_) (fun hF => ?_)
  ·refine wp_skip ?_
   refine wp_seq <| wp_block ?_
   obtain ⟨hc56,hF⟩:=of_if hF
   obtain ⟨hc57,hF⟩:=of_if hF
   obtain ⟨r55,hr58,hF⟩:=of_bind hF
   refine wp_regy_seq tok (orc:=orcL [(25,[⟨.bool,r55⟩])]) (l:=[0,1,5,26]) ([],[],[],[]) 10 nw h (by kernel_rfl) (by kernel_rfl) (ac hc56 (ac hc57 (ac (c113 k (gD x0 (tZ v50) (iO,(([]:(List (Int × Int))),((⟨#[]⟩:ByteArray),(iO,iO))))) (gD x1 (tZ v50) (iO,(([]:(List (Int × Int))),((⟨#[]⟩:ByteArray),(iO,iO))))) r55 hr58) an))) fun a w h => ?_
   refine zi h hF (fun hF => ?_) (fun hF => ?_)
   ·refine zs [4] h an fun a w h => ?_
    cases hF
    exact wp_ret (ret_okR tok h rfl (by kernel_rfl)).1
   ·refine wp_skip ?_
    refine zt [0,1,5] h an fun a w h => ?_
    exact ⟨(w64 (v50 + (1:Int))),hF,ar h [0,1,5]⟩
  ·refine wp_exit ?_
   refine zs [4] h an fun a w h => ?_
   cases hF
   exact wp_ret (ret_okR tok h rfl (by kernel_rfl)).1
def f114 (k:Nat) (x0:(Int × (Int × Int))) (x1:(Int × (Int × Int))):Option Bool:=if (x0.1 != x1.1) then (some false) else (if (x0.2.1 != x1.2.1) then (some false) else (if (x0.2.2 != x1.2.2) then (some false) else (some true)))
theorem c114 (k:Nat) (x0:(Int × (Int × Int))) (x1:(Int × (Int × Int))) (r:Bool) (hF:f114 k x0 x1=some r):PCall Try.prog 114 [⟨sh9,x0⟩,⟨sh9,x1⟩] [⟨.bool,r⟩]:=by
 refine pcall_intro Try.func114 rfl rfl (Nat.le_of_ble_eq_true rfl) ?_
 intro w0 Zi a w h
 rw [f114] at hF
 refine zs [2,3] h an fun a w h => ?_
 refine wp_seq ?_
 refine zs [2,3,9] h an fun a w h => ?_
 refine zi h hF (fun hF => ?_) (fun hF => ?_)
 ·refine zs [4] h an fun a w h => ?_
  cases hF
  exact wp_ret (ret_okR tok h rfl (by kernel_rfl)).1
 ·refine wp_skip ?_
  refine wp_seq ?_
  refine zs [2,3,14] h an fun a w h => ?_
  refine zi h hF (fun hF => ?_) (fun hF => ?_)
  ·refine zs [4] h an fun a w h => ?_
   cases hF
   exact wp_ret (ret_okR tok h rfl (by kernel_rfl)).1
  ·refine wp_skip ?_
   refine wp_seq ?_
   refine zs [19] h an fun a w h => ?_
   refine zi h hF (fun hF => ?_) (fun hF => ?_)
   ·refine zs [4] h an fun a w h => ?_
    cases hF
    exact wp_ret (ret_okR tok h rfl (by kernel_rfl)).1
   ·refine wp_skip ?_
    refine zs [4] h an fun a w h => ?_
    cases hF
    exact wp_ret (ret_okR tok h rfl (by kernel_rfl)).1
def f223 (k:Nat) (x0:(ByteArray × ByteArray)) (x1:(ByteArray × ByteArray)):Option Bool:=if (!(ByteArray.toList x0.1 == ByteArray.toList x1.1)) then (some false) else (if (!(ByteArray.toList x0.2 == ByteArray.toList x1.2)) then (some false) else (some true))
theorem c223 (k:Nat) (x0:(ByteArray × ByteArray)) (x1:(ByteArray × ByteArray)) (r:Bool) (hF:f223 k x0 x1=some r):PCall Try.prog 223 [⟨(.st (.pair .str .str)),x0⟩,⟨(.st (.pair .str .str)),x1⟩] [⟨.bool,r⟩]:=by
 refine pcall_intro Try.func223 rfl rfl (Nat.le_of_ble_eq_true rfl) ?_
 intro w0 Zi a w h
 rw [f223] at hF
 refine zs [2,3] h an fun a w h => ?_
 refine wp_seq ?_
 refine zs [2,3,9] h an fun a w h => ?_
 refine zi h hF (fun hF => ?_) (fun hF => ?_)
 ·refine zs [4] h an fun a w h => ?_
  cases hF
  exact wp_ret (ret_okR tok h rfl (by kernel_rfl)).1
 ·refine wp_skip ?_
  refine wp_seq ?_
  refine zs [14] h an fun a w h => ?_
  refine zi h hF (fun hF => ?_) (fun hF => ?_)
  ·refine zs [4] h an fun a w h => ?_
   cases hF
   exact wp_ret (ret_okR tok h rfl (by kernel_rfl)).1
  ·refine wp_skip ?_
   refine zs [4] h an fun a w h => ?_
   cases hF
   exact wp_ret (ret_okR tok h rfl (by kernel_rfl)).1
def f210.l30 (k:Nat) (x0:(List (ByteArray × ByteArray))) (x1:(List (ByteArray × ByteArray))):Nat→Int→Option Bool
 | 0,_ => none
 | m30+1,v50 => if (decide (v50 < (List.length x0:Int))) then (if (0≤v50∧v50 < (List.length x0:Int)) then (if (0≤v50∧v50 < (List.length x1:Int)) then ((f223 k (List.getD x0 (Int.toNat v50) ((⟨#[]⟩:ByteArray),(⟨#[]⟩:ByteArray))) (List.getD x1 (Int.toNat v50) ((⟨#[]⟩:ByteArray),(⟨#[]⟩:ByteArray)))).bind fun r55 => (if (!r55) then (some false) else ((f210.l30 k x0 x1) m30 (IntKind.i64.wrap (v50 + (1:Int)))))) else none) else none) else (some true)
def f210 (k:Nat) (x0:(List (ByteArray × ByteArray))) (x1:(List (ByteArray × ByteArray))):Option Bool:=if (((List.length x0:Int):Int) != (List.length x1:Int)) then (some false) else (f210.l30 k x0 x1 k (0:Int))
theorem c210 (k:Nat) (x0:(List (ByteArray × ByteArray))) (x1:(List (ByteArray × ByteArray))) (r:Bool) (hF:f210 k x0 x1=some r):PCall Try.prog 210 [⟨sh19,x0⟩,⟨sh19,x1⟩] [⟨.bool,r⟩]:=by
 refine pcall_intro Try.func210 rfl rfl (Nat.le_of_ble_eq_true rfl) ?_
 intro w0 Zi a w h
 rw [f210] at hF
 refine zs [0,1] h an fun a w h => ?_
 refine wp_seq ?_
 refine zs [0,1,10] h an fun a w h => ?_
 refine zi h hF (fun hF => ?_) (fun hF => ?_)
 ·refine zs [4] h an fun a w h => ?_
  cases hF
  exact wp_ret (ret_okR tok h rfl (by kernel_rfl)).1
 ·refine wp_skip ?_
  refine wp_seq ?_
  refine zs [0,1,5] h an fun a w h => ?_
  refine wp_block ?_
  refine wp_loop_fuel (f210.l30 k x0 x1) (fun v50 => [(0,.val sh19 x0),(1,.val sh19 x1),(5,.val iS v50)]) (fun v h => by rw [f210.l30] at h; cases h) ?_ hF (ar h [0,1,5])
  intro m30 v50 a w hF h
  rw [f210.l30] at hF
  refine wp_seq ?_
  refine zs [0,1,5,14] h an fun a w h => ?_
  refine zi h hF (fun hF => ?_) (fun hF => ?_)
  ·refine wp_skip ?_
   refine wp_seq <| wp_block ?_
   obtain ⟨hc56,hF⟩:=of_if hF
   obtain ⟨hc57,hF⟩:=of_if hF
   obtain ⟨r55,hr58,hF⟩:=of_bind hF
   refine wp_regy_seq tok (orc:=orcL [(25,[⟨.bool,r55⟩])]) (l:=[0,1,5,26]) ([],[],[],[]) 10 nw h (by kernel_rfl) (by kernel_rfl) (ac hc56 (ac hc57 (ac (c223 k (gD x0 (tZ v50) ((⟨#[]⟩:ByteArray),(⟨#[]⟩:ByteArray))) (gD x1 (tZ v50) ((⟨#[]⟩:ByteArray),(⟨#[]⟩:ByteArray))) r55 hr58) an))) fun a w h => ?_
   refine zi h hF (fun hF => ?_) (fun hF => ?_)
   ·refine zs [4] h an fun a w h => ?_
    cases hF
    exact wp_ret (ret_okR tok h rfl (by kernel_rfl)).1
   ·refine wp_skip ?_
    refine zt [0,1,5] h an fun a w h => ?_
    exact ⟨(w64 (v50 + (1:Int))),hF,ar h [0,1,5]⟩
  ·refine wp_exit ?_
   refine zs [4] h an fun a w h => ?_
   cases hF
   exact wp_ret (ret_okR tok h rfl (by kernel_rfl)).1
def f170 (k:Nat) (x0:(Int × ((List (Int × Int)) × (List (ByteArray × ByteArray))))) (x1:(Int × ((List (Int × Int)) × (List (ByteArray × ByteArray))))):Option Bool:=if (x0.1 != x1.1) then (some false) else ((f169 k x0.2.1 x1.2.1).bind fun r1 => (if (!r1) then (some false) else ((f210 k x0.2.2 x1.2.2).bind fun r2 => (if (!r2) then (some false) else (some true)))))
theorem c170 (k:Nat) (x0:(Int × ((List (Int × Int)) × (List (ByteArray × ByteArray))))) (x1:(Int × ((List (Int × Int)) × (List (ByteArray × ByteArray))))) (r:Bool) (hF:f170 k x0 x1=some r):PCall Try.prog 170 [⟨sh39,x0⟩,⟨sh39,x1⟩] [⟨.bool,r⟩]:=by
 refine pcall_intro Try.func170 rfl rfl (Nat.le_of_ble_eq_true rfl) ?_
 intro w0 Zi a w h
 rw [f170] at hF
 refine zs [2,3] h an fun a w h => ?_
 refine wp_seq ?_
 refine zs [2,3,9] h an fun a w h => ?_
 refine zi h hF (fun hF => ?_) (fun hF => ?_)
 ·refine zs [4] h an fun a w h => ?_
  cases hF
  exact wp_ret (ret_okR tok h rfl (by kernel_rfl)).1
 ·refine wp_skip ?_
  refine wp_seq ?_
  obtain ⟨r1,hr4,hF⟩:=of_bind hF
  refine zc (orcL [(14,[⟨.bool,r1⟩])]) [2,3,15] h (ac (c169 k x0.2.1 x1.2.1 r1 hr4) an) fun a w h => ?_
  refine zi h hF (fun hF => ?_) (fun hF => ?_)
  ·refine zs [4] h an fun a w h => ?_
   cases hF
   exact wp_ret (ret_okR tok h rfl (by kernel_rfl)).1
  ·refine wp_skip ?_
   refine wp_seq ?_
   obtain ⟨r2,hr3,hF⟩:=of_bind hF
   refine zc (orcL [(20,[⟨.bool,r2⟩])]) [21] h (ac (c210 k x0.2.2 x1.2.2 r2 hr3) an) fun a w h => ?_
   refine zi h hF (fun hF => ?_) (fun hF => ?_)
   ·refine zs [4] h an fun a w h => ?_
    cases hF
    exact wp_ret (ret_okR tok h rfl (by kernel_rfl)).1
   ·refine wp_skip ?_
    refine zs [4] h an fun a w h => ?_
    cases hF
    exact wp_ret (ret_okR tok h rfl (by kernel_rfl)).1
def f115.l30 (k:Nat) (x0:(List (Int × ((List (Int × Int)) × (List (ByteArray × ByteArray)))))) (x1:(List (Int × ((List (Int × Int)) × (List (ByteArray × ByteArray)))))):Nat→Int→Option Bool
 | 0,_ => none
 | m30+1,v50 => if (decide (v50 < (List.length x0:Int))) then (if (0≤v50∧v50 < (List.length x0:Int)) then (if (0≤v50∧v50 < (List.length x1:Int)) then ((f170 k (List.getD x0 (Int.toNat v50) ((0:Int),(([]:(List (Int × Int))),([]:(List (ByteArray × ByteArray)))))) (List.getD x1 (Int.toNat v50) ((0:Int),(([]:(List (Int × Int))),([]:(List (ByteArray × ByteArray))))))).bind fun r55 => (if (!r55) then (some false) else ((f115.l30 k x0 x1) m30 (IntKind.i64.wrap (v50 + (1:Int)))))) else none) else none) else (some true)
def f115 (k:Nat) (x0:(List (Int × ((List (Int × Int)) × (List (ByteArray × ByteArray)))))) (x1:(List (Int × ((List (Int × Int)) × (List (ByteArray × ByteArray)))))):Option Bool:=if (((List.length x0:Int):Int) != (List.length x1:Int)) then (some false) else (f115.l30 k x0 x1 k (0:Int))
theorem c115 (k:Nat) (x0:(List (Int × ((List (Int × Int)) × (List (ByteArray × ByteArray)))))) (x1:(List (Int × ((List (Int × Int)) × (List (ByteArray × ByteArray)))))) (r:Bool) (hF:f115 k x0 x1=some r):PCall Try.prog 115 [⟨sh34,x0⟩,⟨sh34,x1⟩] [⟨.bool,r⟩]:=by
 refine pcall_intro Try.func115 rfl rfl (Nat.le_of_ble_eq_true rfl) ?_
 intro w0 Zi a w h
 rw [f115] at hF
 refine zs [0,1] h an fun a w h => ?_
 refine wp_seq ?_
 refine zs [0,1,10] h an fun a w h => ?_
 refine zi h hF (fun hF => ?_) (fun hF => ?_)
 ·refine zs [4] h an fun a w h => ?_
  cases hF
  exact wp_ret (ret_okR tok h rfl (by kernel_rfl)).1
 ·refine wp_skip ?_
  refine wp_seq ?_
  refine zs [0,1,5] h an fun a w h => ?_
  refine wp_block ?_
  refine wp_loop_fuel (f115.l30 k x0 x1) (fun v50 => [(0,.val sh34 x0),(1,.val sh34 x1),(5,.val iS v50)]) (fun v h => by rw [f115.l30] at h; cases h) ?_ hF (ar h [0,1,5])
  intro m30 v50 a w hF h
  rw [f115.l30] at hF
  refine wp_seq ?_
  refine zs [0,1,5,14] h an fun a w h => ?_
  refine zi h hF (fun hF => ?_) (fun hF => ?_)
  ·refine wp_skip ?_
   refine wp_seq <| wp_block ?_
   obtain ⟨hc56,hF⟩:=of_if hF
   obtain ⟨hc57,hF⟩:=of_if hF
   obtain ⟨r55,hr58,hF⟩:=of_bind hF
   refine wp_regy_seq tok (orc:=orcL [(25,[⟨.bool,r55⟩])]) (l:=[0,1,5,26]) ([],[],[],[]) 10 nw h (by kernel_rfl) (by kernel_rfl) (ac hc56 (ac hc57 (ac (c170 k (gD x0 (tZ v50) (iO,(([]:(List (Int × Int))),([]:(List (ByteArray × ByteArray)))))) (gD x1 (tZ v50) (iO,(([]:(List (Int × Int))),([]:(List (ByteArray × ByteArray)))))) r55 hr58) an))) fun a w h => ?_
   refine zi h hF (fun hF => ?_) (fun hF => ?_)
   ·refine zs [4] h an fun a w h => ?_
    cases hF
    exact wp_ret (ret_okR tok h rfl (by kernel_rfl)).1
   ·refine wp_skip ?_
    refine zt [0,1,5] h an fun a w h => ?_
    exact ⟨(w64 (v50 + (1:Int))),hF,ar h [0,1,5]⟩
  ·refine wp_exit ?_
   refine zs [4] h an fun a w h => ?_
   cases hF
   exact wp_ret (ret_okR tok h rfl (by kernel_rfl)).1
def f56 (k:Nat) (x0:((Int × (Int × Int)) × (List (Int × ((List (Int × Int)) × (List (ByteArray × ByteArray))))))) (x1:((Int × (Int × Int)) × (List (Int × ((List (Int × Int)) × (List (ByteArray × ByteArray))))))):Option Bool:=(f114 k x0.1 x1.1).bind fun r1 => (if (!r1) then (some false) else ((f115 k x0.2 x1.2).bind fun r2 => (if (!r2) then (some false) else (some true))))
theorem c56 (k:Nat) (x0:((Int × (Int × Int)) × (List (Int × ((List (Int × Int)) × (List (ByteArray × ByteArray))))))) (x1:((Int × (Int × Int)) × (List (Int × ((List (Int × Int)) × (List (ByteArray × ByteArray))))))) (r:Bool) (hF:f56 k x0 x1=some r):PCall Try.prog 56 [⟨sh31,x0⟩,⟨sh31,x1⟩] [⟨.bool,r⟩]:=by
 refine pcall_intro Try.func56 rfl rfl (Nat.le_of_ble_eq_true rfl) ?_
 intro w0 Zi a w h
 rw [f56] at hF
 refine zs [2,3] h an fun a w h => ?_
 refine wp_seq ?_
 obtain ⟨r1,hr4,hF⟩:=of_bind hF
 refine zc (orcL [(9,[⟨.bool,r1⟩])]) [2,3,10] h (ac (c114 k x0.1 x1.1 r1 hr4) an) fun a w h => ?_
 refine zi h hF (fun hF => ?_) (fun hF => ?_)
 ·refine zs [4] h an fun a w h => ?_
  cases hF
  exact wp_ret (ret_okR tok h rfl (by kernel_rfl)).1
 ·refine wp_skip ?_
  refine wp_seq ?_
  obtain ⟨r2,hr3,hF⟩:=of_bind hF
  refine zc (orcL [(15,[⟨.bool,r2⟩])]) [16] h (ac (c115 k x0.2 x1.2 r2 hr3) an) fun a w h => ?_
  refine zi h hF (fun hF => ?_) (fun hF => ?_)
  ·refine zs [4] h an fun a w h => ?_
   cases hF
   exact wp_ret (ret_okR tok h rfl (by kernel_rfl)).1
  ·refine wp_skip ?_
   refine zs [4] h an fun a w h => ?_
   cases hF
   exact wp_ret (ret_okR tok h rfl (by kernel_rfl)).1
def f211 (k:Nat) (x0:(ByteArray × (Int × ByteArray))) (x1:(ByteArray × (Int × ByteArray))):Option Bool:=if (!(ByteArray.toList x0.1 == ByteArray.toList x1.1)) then (some false) else (if (x0.2.1 != x1.2.1) then (some false) else (if (!(ByteArray.toList x0.2.2 == ByteArray.toList x1.2.2)) then (some false) else (some true)))
theorem c211 (k:Nat) (x0:(ByteArray × (Int × ByteArray))) (x1:(ByteArray × (Int × ByteArray))) (r:Bool) (hF:f211 k x0 x1=some r):PCall Try.prog 211 [⟨sh5,x0⟩,⟨sh5,x1⟩] [⟨.bool,r⟩]:=by
 refine pcall_intro Try.func211 rfl rfl (Nat.le_of_ble_eq_true rfl) ?_
 intro w0 Zi a w h
 rw [f211] at hF
 refine zs [2,3] h an fun a w h => ?_
 refine wp_seq ?_
 refine zs [2,3,9] h an fun a w h => ?_
 refine zi h hF (fun hF => ?_) (fun hF => ?_)
 ·refine zs [4] h an fun a w h => ?_
  cases hF
  exact wp_ret (ret_okR tok h rfl (by kernel_rfl)).1
 ·refine wp_skip ?_
  refine wp_seq ?_
  refine zs [2,3,14] h an fun a w h => ?_
  refine zi h hF (fun hF => ?_) (fun hF => ?_)
  ·refine zs [4] h an fun a w h => ?_
   cases hF
   exact wp_ret (ret_okR tok h rfl (by kernel_rfl)).1
  ·refine wp_skip ?_
   refine wp_seq ?_
   refine zs [19] h an fun a w h => ?_
   refine zi h hF (fun hF => ?_) (fun hF => ?_)
   ·refine zs [4] h an fun a w h => ?_
    cases hF
    exact wp_ret (ret_okR tok h rfl (by kernel_rfl)).1
   ·refine wp_skip ?_
    refine zs [4] h an fun a w h => ?_
    cases hF
    exact wp_ret (ret_okR tok h rfl (by kernel_rfl)).1
def f171.l30 (k:Nat) (x0:(List (ByteArray × (Int × ByteArray)))) (x1:(List (ByteArray × (Int × ByteArray)))):Nat→Int→Option Bool
 | 0,_ => none
 | m30+1,v50 => if (decide (v50 < (List.length x0:Int))) then (if (0≤v50∧v50 < (List.length x0:Int)) then (if (0≤v50∧v50 < (List.length x1:Int)) then ((f211 k (List.getD x0 (Int.toNat v50) ((⟨#[]⟩:ByteArray),((0:Int),(⟨#[]⟩:ByteArray)))) (List.getD x1 (Int.toNat v50) ((⟨#[]⟩:ByteArray),((0:Int),(⟨#[]⟩:ByteArray))))).bind fun r55 => (if (!r55) then (some false) else ((f171.l30 k x0 x1) m30 (IntKind.i64.wrap (v50 + (1:Int)))))) else none) else none) else (some true)
def f171 (k:Nat) (x0:(List (ByteArray × (Int × ByteArray)))) (x1:(List (ByteArray × (Int × ByteArray)))):Option Bool:=if (((List.length x0:Int):Int) != (List.length x1:Int)) then (some false) else (f171.l30 k x0 x1 k (0:Int))
theorem c171 (k:Nat) (x0:(List (ByteArray × (Int × ByteArray)))) (x1:(List (ByteArray × (Int × ByteArray)))) (r:Bool) (hF:f171 k x0 x1=some r):PCall Try.prog 171 [⟨sh32,x0⟩,⟨sh32,x1⟩] [⟨.bool,r⟩]:=by
 refine pcall_intro Try.func171 rfl rfl (Nat.le_of_ble_eq_true rfl) ?_
 intro w0 Zi a w h
 rw [f171] at hF
 refine zs [0,1] h an fun a w h => ?_
 refine wp_seq ?_
 refine zs [0,1,10] h an fun a w h => ?_
 refine zi h hF (fun hF => ?_) (fun hF => ?_)
 ·refine zs [4] h an fun a w h => ?_
  cases hF
  exact wp_ret (ret_okR tok h rfl (by kernel_rfl)).1
 ·refine wp_skip ?_
  refine wp_seq ?_
  refine zs [0,1,5] h an fun a w h => ?_
  refine wp_block ?_
  refine wp_loop_fuel (f171.l30 k x0 x1) (fun v50 => [(0,.val sh32 x0),(1,.val sh32 x1),(5,.val iS v50)]) (fun v h => by rw [f171.l30] at h; cases h) ?_ hF (ar h [0,1,5])
  intro m30 v50 a w hF h
  rw [f171.l30] at hF
  refine wp_seq ?_
  refine zs [0,1,5,14] h an fun a w h => ?_
  refine zi h hF (fun hF => ?_) (fun hF => ?_)
  ·refine wp_skip ?_
   refine wp_seq <| wp_block ?_
   obtain ⟨hc56,hF⟩:=of_if hF
   obtain ⟨hc57,hF⟩:=of_if hF
   obtain ⟨r55,hr58,hF⟩:=of_bind hF
   refine wp_regy_seq tok (orc:=orcL [(25,[⟨.bool,r55⟩])]) (l:=[0,1,5,26]) ([],[],[],[]) 10 nw h (by kernel_rfl) (by kernel_rfl) (ac hc56 (ac hc57 (ac (c211 k (gD x0 (tZ v50) ((⟨#[]⟩:ByteArray),(iO,(⟨#[]⟩:ByteArray)))) (gD x1 (tZ v50) ((⟨#[]⟩:ByteArray),(iO,(⟨#[]⟩:ByteArray)))) r55 hr58) an))) fun a w h => ?_
   refine zi h hF (fun hF => ?_) (fun hF => ?_)
   ·refine zs [4] h an fun a w h => ?_
    cases hF
    exact wp_ret (ret_okR tok h rfl (by kernel_rfl)).1
   ·refine wp_skip ?_
    refine zt [0,1,5] h an fun a w h => ?_
    exact ⟨(w64 (v50 + (1:Int))),hF,ar h [0,1,5]⟩
  ·refine wp_exit ?_
   refine zs [4] h an fun a w h => ?_
   cases hF
   exact wp_ret (ret_okR tok h rfl (by kernel_rfl)).1
def f116 (k:Nat) (x0:(Int × (Int × ((List (ByteArray × (Int × ByteArray))) × (Bool × (ByteArray × (Int × Int))))))) (x1:(Int × (Int × ((List (ByteArray × (Int × ByteArray))) × (Bool × (ByteArray × (Int × Int))))))):Option Bool:=if (x0.1 != x1.1) then (some false) else (if (x0.2.1 != x1.2.1) then (some false) else ((f171 k x0.2.2.1 x1.2.2.1).bind fun r1 => (if (!r1) then (some false) else (if (!((x0.2.2.2.1:Bool) == x1.2.2.2.1)) then (some false) else (if (!(ByteArray.toList x0.2.2.2.2.1 == ByteArray.toList x1.2.2.2.2.1)) then (some false) else (if (x0.2.2.2.2.2.1 != x1.2.2.2.2.2.1) then (some false) else (if (x0.2.2.2.2.2.2 != x1.2.2.2.2.2.2) then (some false) else (some true))))))))
theorem c116 (k:Nat) (x0:(Int × (Int × ((List (ByteArray × (Int × ByteArray))) × (Bool × (ByteArray × (Int × Int))))))) (x1:(Int × (Int × ((List (ByteArray × (Int × ByteArray))) × (Bool × (ByteArray × (Int × Int))))))) (r:Bool) (hF:f116 k x0 x1=some r):PCall Try.prog 116 [⟨sh22,x0⟩,⟨sh22,x1⟩] [⟨.bool,r⟩]:=by
 refine pcall_intro Try.func116 rfl rfl (Nat.le_of_ble_eq_true rfl) ?_
 intro w0 Zi a w h
 rw [f116] at hF
 refine zs [2,3] h an fun a w h => ?_
 refine wp_seq ?_
 refine zs [2,3,9] h an fun a w h => ?_
 refine zi h hF (fun hF => ?_) (fun hF => ?_)
 ·refine zs [4] h an fun a w h => ?_
  cases hF
  exact wp_ret (ret_okR tok h rfl (by kernel_rfl)).1
 ·refine wp_skip ?_
  refine wp_seq ?_
  refine zs [2,3,14] h an fun a w h => ?_
  refine zi h hF (fun hF => ?_) (fun hF => ?_)
  ·refine zs [4] h an fun a w h => ?_
   cases hF
   exact wp_ret (ret_okR tok h rfl (by kernel_rfl)).1
  ·refine wp_skip ?_
   refine wp_seq ?_
   obtain ⟨r1,hr2,hF⟩:=of_bind hF
   refine zc (orcL [(19,[⟨.bool,r1⟩])]) [2,3,20] h (ac (c171 k x0.2.2.1 x1.2.2.1 r1 hr2) an) fun a w h => ?_
   refine zi h hF (fun hF => ?_) (fun hF => ?_)
   ·refine zs [4] h an fun a w h => ?_
    cases hF
    exact wp_ret (ret_okR tok h rfl (by kernel_rfl)).1
   ·refine wp_skip ?_
    refine wp_seq ?_
    refine zs [2,3,25] h an fun a w h => ?_
    refine zi h hF (fun hF => ?_) (fun hF => ?_)
    ·refine zs [4] h an fun a w h => ?_
     cases hF
     exact wp_ret (ret_okR tok h rfl (by kernel_rfl)).1
    ·refine wp_skip ?_
     refine wp_seq ?_
     refine zs [2,3,30] h an fun a w h => ?_
     refine zi h hF (fun hF => ?_) (fun hF => ?_)
     ·refine zs [4] h an fun a w h => ?_
      cases hF
      exact wp_ret (ret_okR tok h rfl (by kernel_rfl)).1
     ·refine wp_skip ?_
      refine wp_seq ?_
      refine zs [2,3,35] h an fun a w h => ?_
      refine zi h hF (fun hF => ?_) (fun hF => ?_)
      ·refine zs [4] h an fun a w h => ?_
       cases hF
       exact wp_ret (ret_okR tok h rfl (by kernel_rfl)).1
      ·refine wp_skip ?_
       refine wp_seq ?_
       refine zs [40] h an fun a w h => ?_
       refine zi h hF (fun hF => ?_) (fun hF => ?_)
       ·refine zs [4] h an fun a w h => ?_
        cases hF
        exact wp_ret (ret_okR tok h rfl (by kernel_rfl)).1
       ·refine wp_skip ?_
        refine zs [4] h an fun a w h => ?_
        cases hF
        exact wp_ret (ret_okR tok h rfl (by kernel_rfl)).1
def f57.l30 (k:Nat) (x0:(List (Int × (Int × ((List (ByteArray × (Int × ByteArray))) × (Bool × (ByteArray × (Int × Int)))))))) (x1:(List (Int × (Int × ((List (ByteArray × (Int × ByteArray))) × (Bool × (ByteArray × (Int × Int)))))))):Nat→Int→Option Bool
 | 0,_ => none
 | m30+1,v50 => if (decide (v50 < (List.length x0:Int))) then (if (0≤v50∧v50 < (List.length x0:Int)) then (if (0≤v50∧v50 < (List.length x1:Int)) then ((f116 k (List.getD x0 (Int.toNat v50) ((0:Int),((0:Int),(([]:(List (ByteArray × (Int × ByteArray)))),(false,((⟨#[]⟩:ByteArray),((0:Int),(0:Int)))))))) (List.getD x1 (Int.toNat v50) ((0:Int),((0:Int),(([]:(List (ByteArray × (Int × ByteArray)))),(false,((⟨#[]⟩:ByteArray),((0:Int),(0:Int))))))))).bind fun r55 => (if (!r55) then (some false) else ((f57.l30 k x0 x1) m30 (IntKind.i64.wrap (v50 + (1:Int)))))) else none) else none) else (some true)
def f57 (k:Nat) (x0:(List (Int × (Int × ((List (ByteArray × (Int × ByteArray))) × (Bool × (ByteArray × (Int × Int)))))))) (x1:(List (Int × (Int × ((List (ByteArray × (Int × ByteArray))) × (Bool × (ByteArray × (Int × Int)))))))):Option Bool:=if (((List.length x0:Int):Int) != (List.length x1:Int)) then (some false) else (f57.l30 k x0 x1 k (0:Int))
theorem c57 (k:Nat) (x0:(List (Int × (Int × ((List (ByteArray × (Int × ByteArray))) × (Bool × (ByteArray × (Int × Int)))))))) (x1:(List (Int × (Int × ((List (ByteArray × (Int × ByteArray))) × (Bool × (ByteArray × (Int × Int)))))))) (r:Bool) (hF:f57 k x0 x1=some r):PCall Try.prog 57 [⟨sh23,x0⟩,⟨sh23,x1⟩] [⟨.bool,r⟩]:=by
 refine pcall_intro Try.func57 rfl rfl (Nat.le_of_ble_eq_true rfl) ?_
 intro w0 Zi a w h
 rw [f57] at hF
 refine zs [0,1] h an fun a w h => ?_
 refine wp_seq ?_
 refine zs [0,1,10] h an fun a w h => ?_
 refine zi h hF (fun hF => ?_) (fun hF => ?_)
 ·refine zs [4] h an fun a w h => ?_
  cases hF
  exact wp_ret (ret_okR tok h rfl (by kernel_rfl)).1
 ·refine wp_skip ?_
  refine wp_seq ?_
  refine zs [0,1,5] h an fun a w h => ?_
  refine wp_block ?_
  refine wp_loop_fuel (f57.l30 k x0 x1) (fun v50 => [(0,.val sh23 x0),(1,.val sh23 x1),(5,.val iS v50)]) (fun v h => by rw [f57.l30] at h; cases h) ?_ hF (ar h [0,1,5])
  intro m30 v50 a w hF h
  rw [f57.l30] at hF
  refine wp_seq ?_
  refine zs [0,1,5,14] h an fun a w h => ?_
  refine zi h hF (fun hF => ?_) (fun hF => ?_)
  ·refine wp_skip ?_
   refine wp_seq <| wp_block ?_
   obtain ⟨hc56,hF⟩:=of_if hF
   obtain ⟨hc57,hF⟩:=of_if hF
   obtain ⟨r55,hr58,hF⟩:=of_bind hF
   refine wp_regy_seq tok (orc:=orcL [(25,[⟨.bool,r55⟩])]) (l:=[0,1,5,26]) ([],[],[],[]) 10 nw h (by kernel_rfl) (by kernel_rfl) (ac hc56 (ac hc57 (ac (c116 k (gD x0 (tZ v50) (iO,(iO,(([]:(List (ByteArray × (Int × ByteArray)))),(false,((⟨#[]⟩:ByteArray),(iO,iO))))))) (gD x1 (tZ v50) (iO,(iO,(([]:(List (ByteArray × (Int × ByteArray)))),(false,((⟨#[]⟩:ByteArray),(iO,iO))))))) r55 hr58) an))) fun a w h => ?_
   refine zi h hF (fun hF => ?_) (fun hF => ?_)
   ·refine zs [4] h an fun a w h => ?_
    cases hF
    exact wp_ret (ret_okR tok h rfl (by kernel_rfl)).1
   ·refine wp_skip ?_
    refine zt [0,1,5] h an fun a w h => ?_
    exact ⟨(w64 (v50 + (1:Int))),hF,ar h [0,1,5]⟩
  ·refine wp_exit ?_
   refine zs [4] h an fun a w h => ?_
   cases hF
   exact wp_ret (ret_okR tok h rfl (by kernel_rfl)).1
def f120.l26 (k:Nat):Nat → ((List (Int × Int)) × Int × Int)→Option (Int × (List (Int × Int)))
 | 0,_ => none
 | m26+1,(v44,v45,v46) => if (decide (v46 < (List.length v44:Int))) then (if (0≤v46∧v46 < (List.length v44:Int)) then (if (0≤v46∧v46 < (List.length (List.set v44 (Int.toNat v46) (v45,(List.getD v44 (Int.toNat v46) ((0:Int),(0:Int))).2)):Int)) then ((f120.l26 k) m26 ((List.set (List.set v44 (Int.toNat v46) (v45,(List.getD v44 (Int.toNat v46) ((0:Int),(0:Int))).2)) (Int.toNat v46) ((List.getD (List.set v44 (Int.toNat v46) (v45,(List.getD v44 (Int.toNat v46) ((0:Int),(0:Int))).2)) (Int.toNat v46) ((0:Int),(0:Int))).1,(IntKind.i64.wrap (v45 + (1:Int))))),(IntKind.i64.wrap ((IntKind.i64.wrap (v45 + (1:Int))) + (1:Int))),(IntKind.i64.wrap (v46 + (1:Int))))) else none) else none) else (some (v45,v44))
def f120 (k:Nat) (x0:(List (Int × Int))) (x1:Int):Option (Int × (List (Int × Int))):=f120.l26 k k (x0,x1,(0:Int))
theorem c120 (k:Nat) (x0:(List (Int × Int))) (x1:Int) (r:(Int × (List (Int × Int)))) (hF:f120 k x0 x1=some r):PMut Try.prog 120 [⟨sh11,x0⟩,⟨iS,x1⟩] [⟨iS,r.1⟩] (List.set [⟨sh11,x0⟩,⟨iS,x1⟩] 0 ⟨sh11,r.2⟩):=by
 refine pmut_intro (j:=0) (fin:=⟨sh11,r.2⟩) Try.func120 rfl rfl (Nat.le_of_ble_eq_true rfl) (Nat.le_of_ble_eq_true rfl) (by kernel_rfl) ?_
 intro w0 Zi f0 v0 a w h
 rw [f120] at hF
 refine wp_reg_seq tok (orc:=o0) (fz:=[]) (l:=[0,1]) (.inl rfl) h (by kernel_rfl) an fun a w h => ?_
 refine wp_seq ?_
 refine wp_reg_seq tok (orc:=o0) (fz:=[]) (l:=[0,1,5]) (.inl rfl) h (by kernel_rfl) an fun a w h => ?_
 refine wp_block ?_
 refine wp_loop_fuel (f120.l26 k) (fun ((v44,v45,v46):((List (Int × Int)) × Int × Int)) => [(0,.val sh11 v44),(1,.val iS v45),(5,.val iS v46)]) (fun v h => by obtain ⟨v44,v45,v46⟩:=v; rw [f120.l26] at h; cases h) ?_ hF (h.arrive (fz:=[]) (l:=[0,1,5]) (.inl rfl) (by kernel_rfl))
 intro m26 v a w hF h
 obtain ⟨v44,v45,v46⟩:=v
 rw [f120.l26] at hF
 refine wp_seq ?_
 refine wp_reg_seq tok (orc:=o0) (fz:=[]) (l:=[0,1,5,9]) (.inl rfl) h (by kernel_rfl) an fun a w h => ?_
 refine zi h hF (fun hF => ?_) (fun hF => ?_)
 ·refine wp_skip ?_
  refine wp_seq <| wp_block ?_
  obtain ⟨hc50,hF⟩:=of_if hF
  refine wp_reg_seq tok (orc:=o0) (fz:=[]) (l:=[0,1,5]) (.inl rfl) h (by kernel_rfl) (ac hc50 an) fun a w h => ?_
  refine wp_reg_seq tok (orc:=o0) (fz:=[]) (l:=[0,1,5]) (.inl rfl) h (by kernel_rfl) an fun a w h => ?_
  obtain ⟨hc49,hF⟩:=of_if hF
  refine wp_reg_seq tok (orc:=o0) (fz:=[]) (l:=[0,1,5]) (.inl rfl) h (by kernel_rfl) (ac hc49 an) fun a w h => ?_
  refine wp_reg tok (orc:=o0) (fz:=[]) (l:=[0,1,5]) (.inl rfl) h (by kernel_rfl) an fun a w h => ?_
  refine wp_reg tok (orc:=o0) (fz:=[]) (l:=[0,1,5]) (.inl rfl) h (by kernel_rfl) an fun a w h => ?_
  exact ⟨((List.set (List.set v44 (tZ v46) (v45,(gD v44 (tZ v46) (iO,iO)).2)) (tZ v46) ((gD (List.set v44 (tZ v46) (v45,(gD v44 (tZ v46) (iO,iO)).2)) (tZ v46) (iO,iO)).1,(w64 (v45 + (1:Int))))),(w64 ((w64 (v45 + (1:Int))) + (1:Int))),(w64 (v46 + (1:Int)))),hF,h.arrive (fz:=[]) (l:=[0,1,5]) (.inl rfl) (by kernel_rfl)⟩
 ·refine wp_exit ?_
  refine wp_reg_seq tok (orc:=o0) (fz:=[]) (l:=[0,4]) (.inl rfl) h (by kernel_rfl) an fun a w h => ?_
  cases hF
  exact wp_ret (retM_ok tok h rfl (by kernel_rfl) (by kernel_rfl)).1
def f119.l19 (k:Nat):Nat → (Int × ByteArray)→Option ByteArray
 | 0,_ => none
 | m19+1,(v32,v33) => if (decide (v32 > (0:Int))) then (if (((10:Int):Int)≠0) then (if (ByteArray.size (strOfNums [(IntKind.u8.wrap (IntKind.i64.wrap ((48:Int) + (Int.tmod v32 (10:Int)))))])+ByteArray.size v33≤9223372036854775807) then (if (((10:Int):Int)≠0) then ((f119.l19 k) m19 ((IntKind.i64.wrap (Int.tdiv v32 (10:Int))),((strOfNums [(IntKind.u8.wrap (IntKind.i64.wrap ((48:Int) + (Int.tmod v32 (10:Int)))))]) ++ v33))) else none) else none) else none) else (if (ByteArray.size (⟨#[109]⟩:ByteArray)+ByteArray.size v33≤9223372036854775807) then (some ((⟨#[109]⟩:ByteArray) ++ v33)) else none)
def f119 (k:Nat) (x0:Int):Option ByteArray:=if (decide (x0 ≤ (0:Int))) then (some (⟨#[109,48]⟩:ByteArray)) else (f119.l19 k k (x0,(⟨#[]⟩:ByteArray)))
theorem c119 (k:Nat) (x0:Int) (r:ByteArray) (hF:f119 k x0=some r):PCall Try.prog 119 [⟨iS,x0⟩] [⟨.str,r⟩]:=by
 refine pcall_intro Try.func119 rfl rfl (Nat.le_of_ble_eq_true rfl) ?_
 intro w0 Zi a w h
 rw [f119] at hF
 refine zs [0] h an fun a w h => ?_
 refine wp_seq ?_
 refine zs [0,5] h an fun a w h => ?_
 refine zi h hF (fun hF => ?_) (fun hF => ?_)
 ·refine zs [2] h an fun a w h => ?_
  cases hF
  exact wp_ret (ret_okR tok h rfl (by kernel_rfl)).1
 ·refine wp_skip ?_
  refine zs [0,3] h an fun a w h => ?_
  refine wp_seq <| wp_block ?_
  refine wp_loop_fuel (f119.l19 k) (fun ((v32,v33):(Int × ByteArray)) => [(0,.val iS v32),(3,.val .str v33)]) (fun v h => by obtain ⟨v32,v33⟩:=v; rw [f119.l19] at h; cases h) ?_ hF (ar h [0,3])
  intro m19 v a w hF h
  obtain ⟨v32,v33⟩:=v
  rw [f119.l19] at hF
  refine wp_seq ?_
  refine zs [0,3,7] h an fun a w h => ?_
  refine zi h hF (fun hF => ?_) (fun hF => ?_)
  ·refine wp_skip ?_
   refine wp_block ?_
   obtain ⟨hc35,hF⟩:=of_if hF
   obtain ⟨hc36,hF⟩:=of_if hF
   refine zs [0,3] h (ac hc35 (ac hc36 an)) fun a w h => ?_
   obtain ⟨hc34,hF⟩:=of_if hF
   refine zt [0,3] h (ac hc34 an) fun a w h => ?_
   exact ⟨((w64 (Int.tdiv v32 (10:Int))),((strOfNums [(IntKind.u8.wrap (w64 ((48:Int) + (Int.tmod v32 (10:Int)))))]) ++ v33)),hF,ar h [0,3]⟩
  ·refine wp_exit ?_
   obtain ⟨hc37,hF⟩:=of_if hF
   refine zs [2] h (ac hc37 an) fun a w h => ?_
   cases hF
   exact wp_ret (ret_okR tok h rfl (by kernel_rfl)).1
def f172.l50 (k:Nat):Nat → ((List (ByteArray × ByteArray)) × Int × Int)→Option (Int × (List (ByteArray × ByteArray)))
 | 0,_ => none
 | m50+1,(v84,v85,v86) => if (decide (v86 < (List.length v84:Int))) then ((f119 k v85).bind fun r93 => (if (0≤v86∧v86 < (List.length v84:Int)) then ((f119 k (IntKind.i64.wrap (v85 + (1:Int)))).bind fun r94 => (if (0≤v86∧v86 < (List.length (List.set v84 (Int.toNat v86) (r93,(List.getD v84 (Int.toNat v86) ((⟨#[]⟩:ByteArray),(⟨#[]⟩:ByteArray))).2)):Int)) then ((f172.l50 k) m50 ((List.set (List.set v84 (Int.toNat v86) (r93,(List.getD v84 (Int.toNat v86) ((⟨#[]⟩:ByteArray),(⟨#[]⟩:ByteArray))).2)) (Int.toNat v86) ((List.getD (List.set v84 (Int.toNat v86) (r93,(List.getD v84 (Int.toNat v86) ((⟨#[]⟩:ByteArray),(⟨#[]⟩:ByteArray))).2)) (Int.toNat v86) ((⟨#[]⟩:ByteArray),(⟨#[]⟩:ByteArray))).1,r94)),(IntKind.i64.wrap ((IntKind.i64.wrap (v85 + (1:Int))) + (1:Int))),(IntKind.i64.wrap (v86 + (1:Int))))) else none)) else none)) else (some (v85,v84))
def f172 (k:Nat) (x0:(List (ByteArray × ByteArray))) (x1:Int):Option (Int × (List (ByteArray × ByteArray))):=f172.l50 k k (x0,x1,(0:Int))
theorem c172 (k:Nat) (x0:(List (ByteArray × ByteArray))) (x1:Int) (r:(Int × (List (ByteArray × ByteArray)))) (hF:f172 k x0 x1=some r):PMut Try.prog 172 [⟨sh12,x0⟩,⟨iS,x1⟩] [⟨iS,r.1⟩] (List.set [⟨sh12,x0⟩,⟨iS,x1⟩] 0 ⟨sh12,r.2⟩):=by
 refine pmut_intro (j:=0) (fin:=⟨sh12,r.2⟩) Try.func172 rfl rfl (Nat.le_of_ble_eq_true rfl) (Nat.le_of_ble_eq_true rfl) (by kernel_rfl) ?_
 intro w0 Zi f0 v0 a w h
 rw [f172] at hF
 refine wp_reg_seq tok (orc:=o0) (fz:=[]) (l:=[0,1]) (.inl rfl) h (by kernel_rfl) an fun a w h => ?_
 refine wp_seq ?_
 refine wp_reg_seq tok (orc:=o0) (fz:=[]) (l:=[0,1,5]) (.inl rfl) h (by kernel_rfl) an fun a w h => ?_
 refine wp_block ?_
 refine wp_loop_fuel (f172.l50 k) (fun ((v84,v85,v86):((List (ByteArray × ByteArray)) × Int × Int)) => [(0,.val sh12 v84),(1,.val iS v85),(5,.val iS v86)]) (fun v h => by obtain ⟨v84,v85,v86⟩:=v; rw [f172.l50] at h; cases h) ?_ hF (h.arrive (fz:=[]) (l:=[0,1,5]) (.inl rfl) (by kernel_rfl))
 intro m50 v a w hF h
 obtain ⟨v84,v85,v86⟩:=v
 rw [f172.l50] at hF
 refine wp_seq ?_
 refine wp_reg_seq tok (orc:=o0) (fz:=[]) (l:=[0,1,5,9]) (.inl rfl) h (by kernel_rfl) an fun a w h => ?_
 refine zi h hF (fun hF => ?_) (fun hF => ?_)
 ·refine wp_skip ?_
  refine wp_seq <| wp_block ?_
  obtain ⟨r93,hr97,hF⟩:=of_bind hF
  obtain ⟨hc98,hF⟩:=of_if hF
  refine wp_reg_seq tok (orc:=orcL [(15,[⟨.str,r93⟩])]) (fz:=[]) (l:=[0,1,5]) (.inl rfl) h (by kernel_rfl) (ac (c119 k v85 r93 hr97) (ac hc98 an)) fun a w h => ?_
  refine wp_reg_seq tok (orc:=o0) (fz:=[]) (l:=[0,1,5]) (.inl rfl) h (by kernel_rfl) an fun a w h => ?_
  obtain ⟨r94,hr95,hF⟩:=of_bind hF
  obtain ⟨hc96,hF⟩:=of_if hF
  refine wp_reg_seq tok (orc:=orcL [(23,[⟨.str,r94⟩])]) (fz:=[]) (l:=[0,1,5]) (.inl rfl) h (by kernel_rfl) (ac (c119 k (w64 (v85 + (1:Int))) r94 hr95) (ac hc96 an)) fun a w h => ?_
  refine wp_reg tok (orc:=o0) (fz:=[]) (l:=[0,1,5]) (.inl rfl) h (by kernel_rfl) an fun a w h => ?_
  refine wp_reg tok (orc:=o0) (fz:=[]) (l:=[0,1,5]) (.inl rfl) h (by kernel_rfl) an fun a w h => ?_
  exact ⟨((List.set (List.set v84 (tZ v86) (r93,(gD v84 (tZ v86) ((⟨#[]⟩:ByteArray),(⟨#[]⟩:ByteArray))).2)) (tZ v86) ((gD (List.set v84 (tZ v86) (r93,(gD v84 (tZ v86) ((⟨#[]⟩:ByteArray),(⟨#[]⟩:ByteArray))).2)) (tZ v86) ((⟨#[]⟩:ByteArray),(⟨#[]⟩:ByteArray))).1,r94)),(w64 ((w64 (v85 + (1:Int))) + (1:Int))),(w64 (v86 + (1:Int)))),hF,h.arrive (fz:=[]) (l:=[0,1,5]) (.inl rfl) (by kernel_rfl)⟩
 ·refine wp_exit ?_
  refine wp_reg_seq tok (orc:=o0) (fz:=[]) (l:=[0,4]) (.inl rfl) h (by kernel_rfl) an fun a w h => ?_
  cases hF
  exact wp_ret (retM_ok tok h rfl (by kernel_rfl) (by kernel_rfl)).1
def f117.l68 (k:Nat):Nat → ((List (Int × ((List (Int × Int)) × (List (ByteArray × ByteArray))))) × Int × Int)→Option (Int × (List (Int × ((List (Int × Int)) × (List (ByteArray × ByteArray))))))
 | 0,_ => none
 | m68+1,(v114,v115,v116) => if (decide (v116 < (List.length v114:Int))) then (if (0≤v116∧v116 < (List.length v114:Int)) then (if (0≤v116∧v116 < (List.length (List.set v114 (Int.toNat v116) (v115,(List.getD v114 (Int.toNat v116) ((0:Int),(([]:(List (Int × Int))),([]:(List (ByteArray × ByteArray)))))).2)):Int)) then ((f120 k (List.getD (List.set v114 (Int.toNat v116) (v115,(List.getD v114 (Int.toNat v116) ((0:Int),(([]:(List (Int × Int))),([]:(List (ByteArray × ByteArray)))))).2)) (Int.toNat v116) ((0:Int),(([]:(List (Int × Int))),([]:(List (ByteArray × ByteArray)))))).2.1 (IntKind.i64.wrap (v115 + (1:Int)))).bind fun r126 => ((some ((List.set (List.set v114 (Int.toNat v116) (v115,(List.getD v114 (Int.toNat v116) ((0:Int),(([]:(List (Int × Int))),([]:(List (ByteArray × ByteArray)))))).2)) (Int.toNat v116) ((List.getD (List.set v114 (Int.toNat v116) (v115,(List.getD v114 (Int.toNat v116) ((0:Int),(([]:(List (Int × Int))),([]:(List (ByteArray × ByteArray)))))).2)) (Int.toNat v116) ((0:Int),(([]:(List (Int × Int))),([]:(List (ByteArray × ByteArray)))))).1,(r126.2,(List.getD (List.set v114 (Int.toNat v116) (v115,(List.getD v114 (Int.toNat v116) ((0:Int),(([]:(List (Int × Int))),([]:(List (ByteArray × ByteArray)))))).2)) (Int.toNat v116) ((0:Int),(([]:(List (Int × Int))),([]:(List (ByteArray × ByteArray)))))).2.2))):(List (Int × ((List (Int × Int)) × (List (ByteArray × ByteArray))))))).bind fun v127 => (if (0≤v116∧v116 < (List.length v127:Int)) then ((f172 k (List.getD v127 (Int.toNat v116) ((0:Int),(([]:(List (Int × Int))),([]:(List (ByteArray × ByteArray)))))).2.2 r126.1).bind fun r128 => ((f117.l68 k) m68 ((List.set v127 (Int.toNat v116) ((List.getD v127 (Int.toNat v116) ((0:Int),(([]:(List (Int × Int))),([]:(List (ByteArray × ByteArray)))))).1,((List.getD v127 (Int.toNat v116) ((0:Int),(([]:(List (Int × Int))),([]:(List (ByteArray × ByteArray)))))).2.1,r128.2))),r128.1,(IntKind.i64.wrap (v116 + (1:Int)))))) else none))) else none) else none) else (some (v115,v114))
def f117 (k:Nat) (x0:(List (Int × ((List (Int × Int)) × (List (ByteArray × ByteArray)))))) (x1:Int):Option (Int × (List (Int × ((List (Int × Int)) × (List (ByteArray × ByteArray)))))):=f117.l68 k k (x0,x1,(0:Int))
theorem c117 (k:Nat) (x0:(List (Int × ((List (Int × Int)) × (List (ByteArray × ByteArray)))))) (x1:Int) (r:(Int × (List (Int × ((List (Int × Int)) × (List (ByteArray × ByteArray))))))) (hF:f117 k x0 x1=some r):PMut Try.prog 117 [⟨sh14,x0⟩,⟨iS,x1⟩] [⟨iS,r.1⟩] (List.set [⟨sh14,x0⟩,⟨iS,x1⟩] 0 ⟨sh14,r.2⟩):=by
 refine pmut_intro (j:=0) (fin:=⟨sh14,r.2⟩) Try.func117 rfl rfl (Nat.le_of_ble_eq_true rfl) (Nat.le_of_ble_eq_true rfl) (by kernel_rfl) ?_
 intro w0 Zi f0 v0 a w h
 rw [f117] at hF
 refine wp_reg_seq tok (orc:=o0) (fz:=[]) (l:=[0,1]) (.inl rfl) h (by kernel_rfl) an fun a w h => ?_
 refine wp_seq ?_
 refine wp_reg_seq tok (orc:=o0) (fz:=[]) (l:=[0,1,5]) (.inl rfl) h (by kernel_rfl) an fun a w h => ?_
 refine wp_block ?_
 refine wp_loop_fuel (f117.l68 k) (fun ((v114,v115,v116):((List (Int × ((List (Int × Int)) × (List (ByteArray × ByteArray))))) × Int × Int)) => [(0,.val sh14 v114),(1,.val iS v115),(5,.val iS v116)]) (fun v h => by obtain ⟨v114,v115,v116⟩:=v; rw [f117.l68] at h; cases h) ?_ hF (h.arrive (fz:=[]) (l:=[0,1,5]) (.inl rfl) (by kernel_rfl))
 intro m68 v a w hF h
 obtain ⟨v114,v115,v116⟩:=v
 rw [f117.l68] at hF
 refine wp_seq ?_
 refine wp_reg_seq tok (orc:=o0) (fz:=[]) (l:=[0,1,5,9]) (.inl rfl) h (by kernel_rfl) an fun a w h => ?_
 refine zi h hF (fun hF => ?_) (fun hF => ?_)
 ·refine wp_skip ?_
  refine wp_seq <| wp_block ?_
  obtain ⟨hc134,hF⟩:=of_if hF
  refine wp_reg_seq tok (orc:=o0) (fz:=[]) (l:=[0,1,5]) (.inl rfl) h (by kernel_rfl) (ac hc134 an) fun a w h => ?_
  refine wp_reg_seq tok (orc:=o0) (fz:=[]) (l:=[0,1,5]) (.inl rfl) h (by kernel_rfl) an fun a w h => ?_
  obtain ⟨hc132,hF⟩:=of_if hF
  obtain ⟨r126,hr133,hF⟩:=of_bind hF
  refine wp_reg_seq tok (orc:=orcL [(25,[⟨.pt false 4294967295 (.sl true 52 (.st (.pair iS iS))),some r126.2⟩,⟨iS,r126.1⟩])]) (fz:=[]) (l:=[0,1,5]) (.inl rfl) h (by kernel_rfl) (ac hc132 (ac (c120 k (gD (List.set v114 (tZ v116) (v115,(gD v114 (tZ v116) (iO,(([]:(List (Int × Int))),([]:(List (ByteArray × ByteArray)))))).2)) (tZ v116) (iO,(([]:(List (Int × Int))),([]:(List (ByteArray × ByteArray)))))).2.1 (w64 (v115 + (1:Int))) r126 hr133) an)) fun a w h => ?_
  obtain ⟨v127,hv131,hF⟩:=of_bind hF
  replace h:=h.cast (S':=[(0,.val sh14 v127),(1,.val iS r126.1),(5,.val iS v116)]) (by cases hv131; kernel_rfl)
  obtain ⟨hc129,hF⟩:=of_if hF
  obtain ⟨r128,hr130,hF⟩:=of_bind hF
  refine wp_reg tok (orc:=orcL [(32,[⟨.pt false 4294967295 (.sl true 272 (.st (.pair .str .str))),some r128.2⟩,⟨iS,r128.1⟩])]) (fz:=[]) (l:=[0,1,5]) (.inl rfl) h (by kernel_rfl) (ac hc129 (ac (c172 k (gD v127 (tZ v116) (iO,(([]:(List (Int × Int))),([]:(List (ByteArray × ByteArray)))))).2.2 r126.1 r128 hr130) an)) fun a w h => ?_
  refine wp_reg tok (orc:=o0) (fz:=[]) (l:=[0,1,5]) (.inl rfl) h (by kernel_rfl) an fun a w h => ?_
  exact ⟨((List.set v127 (tZ v116) ((gD v127 (tZ v116) (iO,(([]:(List (Int × Int))),([]:(List (ByteArray × ByteArray)))))).1,((gD v127 (tZ v116) (iO,(([]:(List (Int × Int))),([]:(List (ByteArray × ByteArray)))))).2.1,r128.2))),r128.1,(w64 (v116 + (1:Int)))),hF,h.arrive (fz:=[]) (l:=[0,1,5]) (.inl rfl) (by kernel_rfl)⟩
 ·refine wp_exit ?_
  refine wp_reg_seq tok (orc:=o0) (fz:=[]) (l:=[0,4]) (.inl rfl) h (by kernel_rfl) an fun a w h => ?_
  cases hF
  exact wp_ret (retM_ok tok h rfl (by kernel_rfl) (by kernel_rfl)).1
def f58 (k:Nat) (x0:((Int × (Int × Int)) × (List (Int × ((List (Int × Int)) × (List (ByteArray × ByteArray))))))) (x1:Int):Option (Int × ((Int × (Int × Int)) × (List (Int × ((List (Int × Int)) × (List (ByteArray × ByteArray))))))):=(f117 k x0.2 x1).bind fun r1 => (some (r1.1,(x0.1,r1.2)))
theorem c58 (k:Nat) (x0:((Int × (Int × Int)) × (List (Int × ((List (Int × Int)) × (List (ByteArray × ByteArray))))))) (x1:Int) (r:(Int × ((Int × (Int × Int)) × (List (Int × ((List (Int × Int)) × (List (ByteArray × ByteArray)))))))) (hF:f58 k x0 x1=some r):PMut Try.prog 58 [⟨sh15,x0⟩,⟨iS,x1⟩] [⟨iS,r.1⟩] (List.set [⟨sh15,x0⟩,⟨iS,x1⟩] 0 ⟨sh15,r.2⟩):=by
 refine pmut_intro (j:=0) (fin:=⟨sh15,r.2⟩) Try.func58 rfl rfl (Nat.le_of_ble_eq_true rfl) (Nat.le_of_ble_eq_true rfl) (by kernel_rfl) ?_
 intro w0 Zi f0 v0 a w h
 rw [f58] at hF
 refine wp_reg_seq tok (orc:=o0) (fz:=[]) (l:=[0,1,2]) (.inl rfl) h (by kernel_rfl) an fun a w h => ?_
 obtain ⟨r1,hr2,hF⟩:=of_bind hF
 refine wp_reg_seq tok (orc:=orcL [(8,[⟨.pt false 4294967295 (.sl true 151 (.st (.pair iS (.pair (.sl true 52 (.st (.pair iS iS))) (.sl true 272 (.st (.pair .str .str))))))),some r1.2⟩,⟨iS,r1.1⟩])]) (fz:=[]) (l:=[0,1,2]) (.inl rfl) h (by kernel_rfl) (ac (c117 k x0.2 x1 r1 hr2) an) fun a w h => ?_
 refine wp_reg_seq tok (orc:=o0) (fz:=[]) (l:=[0,2,4]) (.inl rfl) h (by kernel_rfl) an fun a w h => ?_
 cases hF
 exact wp_ret (retMS_ok (d:=2) (t:=91) tok h rfl (by kernel_rfl) (by kernel_rfl)).1
def f118.l68 (k:Nat):Nat → ((List (ByteArray × (Int × ByteArray))) × Int × Int)→Option (Int × (List (ByteArray × (Int × ByteArray))))
 | 0,_ => none
 | m68+1,(v114,v115,v116) => if (decide (v116 < (List.length v114:Int))) then ((f119 k v115).bind fun r126 => (if (0≤v116∧v116 < (List.length v114:Int)) then (if (0≤v116∧v116 < (List.length (List.set v114 (Int.toNat v116) (r126,(List.getD v114 (Int.toNat v116) ((⟨#[]⟩:ByteArray),((0:Int),(⟨#[]⟩:ByteArray)))).2)):Int)) then ((some ((List.set (List.set v114 (Int.toNat v116) (r126,(List.getD v114 (Int.toNat v116) ((⟨#[]⟩:ByteArray),((0:Int),(⟨#[]⟩:ByteArray)))).2)) (Int.toNat v116) ((List.getD (List.set v114 (Int.toNat v116) (r126,(List.getD v114 (Int.toNat v116) ((⟨#[]⟩:ByteArray),((0:Int),(⟨#[]⟩:ByteArray)))).2)) (Int.toNat v116) ((⟨#[]⟩:ByteArray),((0:Int),(⟨#[]⟩:ByteArray)))).1,((IntKind.i64.wrap (v115 + (1:Int))),(List.getD (List.set v114 (Int.toNat v116) (r126,(List.getD v114 (Int.toNat v116) ((⟨#[]⟩:ByteArray),((0:Int),(⟨#[]⟩:ByteArray)))).2)) (Int.toNat v116) ((⟨#[]⟩:ByteArray),((0:Int),(⟨#[]⟩:ByteArray)))).2.2))):(List (ByteArray × (Int × ByteArray))))).bind fun v127 => ((f119 k (IntKind.i64.wrap ((IntKind.i64.wrap (v115 + (1:Int))) + (1:Int)))).bind fun r128 => (if (0≤v116∧v116 < (List.length v127:Int)) then ((f118.l68 k) m68 ((List.set v127 (Int.toNat v116) ((List.getD v127 (Int.toNat v116) ((⟨#[]⟩:ByteArray),((0:Int),(⟨#[]⟩:ByteArray)))).1,((List.getD v127 (Int.toNat v116) ((⟨#[]⟩:ByteArray),((0:Int),(⟨#[]⟩:ByteArray)))).2.1,r128))),(IntKind.i64.wrap ((IntKind.i64.wrap ((IntKind.i64.wrap (v115 + (1:Int))) + (1:Int))) + (1:Int))),(IntKind.i64.wrap (v116 + (1:Int))))) else none))) else none) else none)) else (some (v115,v114))
def f118 (k:Nat) (x0:(List (ByteArray × (Int × ByteArray)))) (x1:Int):Option (Int × (List (ByteArray × (Int × ByteArray)))):=f118.l68 k k (x0,x1,(0:Int))
theorem c118 (k:Nat) (x0:(List (ByteArray × (Int × ByteArray)))) (x1:Int) (r:(Int × (List (ByteArray × (Int × ByteArray))))) (hF:f118 k x0 x1=some r):PMut Try.prog 118 [⟨sh16,x0⟩,⟨iS,x1⟩] [⟨iS,r.1⟩] (List.set [⟨sh16,x0⟩,⟨iS,x1⟩] 0 ⟨sh16,r.2⟩):=by
 refine pmut_intro (j:=0) (fin:=⟨sh16,r.2⟩) Try.func118 rfl rfl (Nat.le_of_ble_eq_true rfl) (Nat.le_of_ble_eq_true rfl) (by kernel_rfl) ?_
 intro w0 Zi f0 v0 a w h
 rw [f118] at hF
 refine wp_reg_seq tok (orc:=o0) (fz:=[]) (l:=[0,1]) (.inl rfl) h (by kernel_rfl) an fun a w h => ?_
 refine wp_seq ?_
 refine wp_reg_seq tok (orc:=o0) (fz:=[]) (l:=[0,1,5]) (.inl rfl) h (by kernel_rfl) an fun a w h => ?_
 refine wp_block ?_
 refine wp_loop_fuel (f118.l68 k) (fun ((v114,v115,v116):((List (ByteArray × (Int × ByteArray))) × Int × Int)) => [(0,.val sh16 v114),(1,.val iS v115),(5,.val iS v116)]) (fun v h => by obtain ⟨v114,v115,v116⟩:=v; rw [f118.l68] at h; cases h) ?_ hF (h.arrive (fz:=[]) (l:=[0,1,5]) (.inl rfl) (by kernel_rfl))
 intro m68 v a w hF h
 obtain ⟨v114,v115,v116⟩:=v
 rw [f118.l68] at hF
 refine wp_seq ?_
 refine wp_reg_seq tok (orc:=o0) (fz:=[]) (l:=[0,1,5,9]) (.inl rfl) h (by kernel_rfl) an fun a w h => ?_
 refine zi h hF (fun hF => ?_) (fun hF => ?_)
 ·refine wp_skip ?_
  refine wp_seq <| wp_block ?_
  obtain ⟨r126,hr133,hF⟩:=of_bind hF
  obtain ⟨hc134,hF⟩:=of_if hF
  refine wp_reg_seq tok (orc:=orcL [(15,[⟨.str,r126⟩])]) (fz:=[]) (l:=[0,1,5]) (.inl rfl) h (by kernel_rfl) (ac (c119 k v115 r126 hr133) (ac hc134 an)) fun a w h => ?_
  refine wp_reg_seq tok (orc:=o0) (fz:=[]) (l:=[0,1,5]) (.inl rfl) h (by kernel_rfl) an fun a w h => ?_
  obtain ⟨hc132,hF⟩:=of_if hF
  refine wp_reg_seq tok (orc:=o0) (fz:=[]) (l:=[0,1,5]) (.inl rfl) h (by kernel_rfl) (ac hc132 an) fun a w h => ?_
  obtain ⟨v127,hv131,hF⟩:=of_bind hF
  replace h:=h.cast (S':=[(0,.val sh16 v127),(1,.val iS (w64 (v115 + (1:Int)))),(5,.val iS v116)]) (by cases hv131; kernel_rfl)
  refine wp_reg_seq tok (orc:=o0) (fz:=[]) (l:=[0,1,5]) (.inl rfl) h (by kernel_rfl) an fun a w h => ?_
  obtain ⟨r128,hr129,hF⟩:=of_bind hF
  obtain ⟨hc130,hF⟩:=of_if hF
  refine wp_reg_seq tok (orc:=orcL [(30,[⟨.str,r128⟩])]) (fz:=[]) (l:=[0,1,5]) (.inl rfl) h (by kernel_rfl) (ac (c119 k (w64 ((w64 (v115 + (1:Int))) + (1:Int))) r128 hr129) (ac hc130 an)) fun a w h => ?_
  refine wp_reg tok (orc:=o0) (fz:=[]) (l:=[0,1,5]) (.inl rfl) h (by kernel_rfl) an fun a w h => ?_
  refine wp_reg tok (orc:=o0) (fz:=[]) (l:=[0,1,5]) (.inl rfl) h (by kernel_rfl) an fun a w h => ?_
  exact ⟨((List.set v127 (tZ v116) ((gD v127 (tZ v116) ((⟨#[]⟩:ByteArray),(iO,(⟨#[]⟩:ByteArray)))).1,((gD v127 (tZ v116) ((⟨#[]⟩:ByteArray),(iO,(⟨#[]⟩:ByteArray)))).2.1,r128))),(w64 ((w64 ((w64 (v115 + (1:Int))) + (1:Int))) + (1:Int))),(w64 (v116 + (1:Int)))),hF,h.arrive (fz:=[]) (l:=[0,1,5]) (.inl rfl) (by kernel_rfl)⟩
 ·refine wp_exit ?_
  refine wp_reg_seq tok (orc:=o0) (fz:=[]) (l:=[0,4]) (.inl rfl) h (by kernel_rfl) an fun a w h => ?_
  cases hF
  exact wp_ret (retM_ok tok h rfl (by kernel_rfl) (by kernel_rfl)).1
def f59.l158 (k:Nat):Nat → ((List (Int × (Int × ((List (ByteArray × (Int × ByteArray))) × (Bool × (ByteArray × (Int × Int))))))) × Int × Int)→Option (Int × (List (Int × (Int × ((List (ByteArray × (Int × ByteArray))) × (Bool × (ByteArray × (Int × Int))))))))
 | 0,_ => none
 | m158+1,(v264,v265,v266) => if (decide (v266 < (List.length v264:Int))) then (if (0≤v266∧v266 < (List.length v264:Int)) then (if (0≤v266∧v266 < (List.length (List.set v264 (Int.toNat v266) (v265,(List.getD v264 (Int.toNat v266) ((0:Int),((0:Int),(([]:(List (ByteArray × (Int × ByteArray)))),(false,((⟨#[]⟩:ByteArray),((0:Int),(0:Int)))))))).2)):Int)) then ((some ((List.set (List.set v264 (Int.toNat v266) (v265,(List.getD v264 (Int.toNat v266) ((0:Int),((0:Int),(([]:(List (ByteArray × (Int × ByteArray)))),(false,((⟨#[]⟩:ByteArray),((0:Int),(0:Int)))))))).2)) (Int.toNat v266) ((List.getD (List.set v264 (Int.toNat v266) (v265,(List.getD v264 (Int.toNat v266) ((0:Int),((0:Int),(([]:(List (ByteArray × (Int × ByteArray)))),(false,((⟨#[]⟩:ByteArray),((0:Int),(0:Int)))))))).2)) (Int.toNat v266) ((0:Int),((0:Int),(([]:(List (ByteArray × (Int × ByteArray)))),(false,((⟨#[]⟩:ByteArray),((0:Int),(0:Int)))))))).1,((IntKind.i64.wrap (v265 + (1:Int))),(List.getD (List.set v264 (Int.toNat v266) (v265,(List.getD v264 (Int.toNat v266) ((0:Int),((0:Int),(([]:(List (ByteArray × (Int × ByteArray)))),(false,((⟨#[]⟩:ByteArray),((0:Int),(0:Int)))))))).2)) (Int.toNat v266) ((0:Int),((0:Int),(([]:(List (ByteArray × (Int × ByteArray)))),(false,((⟨#[]⟩:ByteArray),((0:Int),(0:Int)))))))).2.2))):(List (Int × (Int × ((List (ByteArray × (Int × ByteArray))) × (Bool × (ByteArray × (Int × Int))))))))).bind fun v291 => (if (0≤v266∧v266 < (List.length v291:Int)) then ((f118 k (List.getD v291 (Int.toNat v266) ((0:Int),((0:Int),(([]:(List (ByteArray × (Int × ByteArray)))),(false,((⟨#[]⟩:ByteArray),((0:Int),(0:Int)))))))).2.2.1 (IntKind.i64.wrap ((IntKind.i64.wrap (v265 + (1:Int))) + (1:Int)))).bind fun r292 => ((some ((List.set v291 (Int.toNat v266) ((List.getD v291 (Int.toNat v266) ((0:Int),((0:Int),(([]:(List (ByteArray × (Int × ByteArray)))),(false,((⟨#[]⟩:ByteArray),((0:Int),(0:Int)))))))).1,((List.getD v291 (Int.toNat v266) ((0:Int),((0:Int),(([]:(List (ByteArray × (Int × ByteArray)))),(false,((⟨#[]⟩:ByteArray),((0:Int),(0:Int)))))))).2.1,(r292.2,(List.getD v291 (Int.toNat v266) ((0:Int),((0:Int),(([]:(List (ByteArray × (Int × ByteArray)))),(false,((⟨#[]⟩:ByteArray),((0:Int),(0:Int)))))))).2.2.2)))):(List (Int × (Int × ((List (ByteArray × (Int × ByteArray))) × (Bool × (ByteArray × (Int × Int))))))))).bind fun v293 => (if (((3:Int):Int)≠0) then (if (0≤v266∧v266 < (List.length v293:Int)) then ((some ((List.set v293 (Int.toNat v266) ((List.getD v293 (Int.toNat v266) ((0:Int),((0:Int),(([]:(List (ByteArray × (Int × ByteArray)))),(false,((⟨#[]⟩:ByteArray),((0:Int),(0:Int)))))))).1,((List.getD v293 (Int.toNat v266) ((0:Int),((0:Int),(([]:(List (ByteArray × (Int × ByteArray)))),(false,((⟨#[]⟩:ByteArray),((0:Int),(0:Int)))))))).2.1,((List.getD v293 (Int.toNat v266) ((0:Int),((0:Int),(([]:(List (ByteArray × (Int × ByteArray)))),(false,((⟨#[]⟩:ByteArray),((0:Int),(0:Int)))))))).2.2.1,((((Int.tmod r292.1 (3:Int)):Int) == (0:Int)),(List.getD v293 (Int.toNat v266) ((0:Int),((0:Int),(([]:(List (ByteArray × (Int × ByteArray)))),(false,((⟨#[]⟩:ByteArray),((0:Int),(0:Int)))))))).2.2.2.2))))):(List (Int × (Int × ((List (ByteArray × (Int × ByteArray))) × (Bool × (ByteArray × (Int × Int))))))))).bind fun v294 => ((f119 k (IntKind.i64.wrap (r292.1 + (1:Int)))).bind fun r295 => (if (0≤v266∧v266 < (List.length v294:Int)) then ((some ((List.set v294 (Int.toNat v266) ((List.getD v294 (Int.toNat v266) ((0:Int),((0:Int),(([]:(List (ByteArray × (Int × ByteArray)))),(false,((⟨#[]⟩:ByteArray),((0:Int),(0:Int)))))))).1,((List.getD v294 (Int.toNat v266) ((0:Int),((0:Int),(([]:(List (ByteArray × (Int × ByteArray)))),(false,((⟨#[]⟩:ByteArray),((0:Int),(0:Int)))))))).2.1,((List.getD v294 (Int.toNat v266) ((0:Int),((0:Int),(([]:(List (ByteArray × (Int × ByteArray)))),(false,((⟨#[]⟩:ByteArray),((0:Int),(0:Int)))))))).2.2.1,((List.getD v294 (Int.toNat v266) ((0:Int),((0:Int),(([]:(List (ByteArray × (Int × ByteArray)))),(false,((⟨#[]⟩:ByteArray),((0:Int),(0:Int)))))))).2.2.2.1,(r295,(List.getD v294 (Int.toNat v266) ((0:Int),((0:Int),(([]:(List (ByteArray × (Int × ByteArray)))),(false,((⟨#[]⟩:ByteArray),((0:Int),(0:Int)))))))).2.2.2.2.2)))))):(List (Int × (Int × ((List (ByteArray × (Int × ByteArray))) × (Bool × (ByteArray × (Int × Int))))))))).bind fun v296 => (if (0≤v266∧v266 < (List.length v296:Int)) then ((some ((List.set v296 (Int.toNat v266) ((List.getD v296 (Int.toNat v266) ((0:Int),((0:Int),(([]:(List (ByteArray × (Int × ByteArray)))),(false,((⟨#[]⟩:ByteArray),((0:Int),(0:Int)))))))).1,((List.getD v296 (Int.toNat v266) ((0:Int),((0:Int),(([]:(List (ByteArray × (Int × ByteArray)))),(false,((⟨#[]⟩:ByteArray),((0:Int),(0:Int)))))))).2.1,((List.getD v296 (Int.toNat v266) ((0:Int),((0:Int),(([]:(List (ByteArray × (Int × ByteArray)))),(false,((⟨#[]⟩:ByteArray),((0:Int),(0:Int)))))))).2.2.1,((List.getD v296 (Int.toNat v266) ((0:Int),((0:Int),(([]:(List (ByteArray × (Int × ByteArray)))),(false,((⟨#[]⟩:ByteArray),((0:Int),(0:Int)))))))).2.2.2.1,((List.getD v296 (Int.toNat v266) ((0:Int),((0:Int),(([]:(List (ByteArray × (Int × ByteArray)))),(false,((⟨#[]⟩:ByteArray),((0:Int),(0:Int)))))))).2.2.2.2.1,((IntKind.i64.wrap ((IntKind.i64.wrap (r292.1 + (1:Int))) + (1:Int))),(List.getD v296 (Int.toNat v266) ((0:Int),((0:Int),(([]:(List (ByteArray × (Int × ByteArray)))),(false,((⟨#[]⟩:ByteArray),((0:Int),(0:Int)))))))).2.2.2.2.2.2))))))):(List (Int × (Int × ((List (ByteArray × (Int × ByteArray))) × (Bool × (ByteArray × (Int × Int))))))))).bind fun v297 => (if (0≤v266∧v266 < (List.length v297:Int)) then ((some ((List.set v297 (Int.toNat v266) ((List.getD v297 (Int.toNat v266) ((0:Int),((0:Int),(([]:(List (ByteArray × (Int × ByteArray)))),(false,((⟨#[]⟩:ByteArray),((0:Int),(0:Int)))))))).1,((List.getD v297 (Int.toNat v266) ((0:Int),((0:Int),(([]:(List (ByteArray × (Int × ByteArray)))),(false,((⟨#[]⟩:ByteArray),((0:Int),(0:Int)))))))).2.1,((List.getD v297 (Int.toNat v266) ((0:Int),((0:Int),(([]:(List (ByteArray × (Int × ByteArray)))),(false,((⟨#[]⟩:ByteArray),((0:Int),(0:Int)))))))).2.2.1,((List.getD v297 (Int.toNat v266) ((0:Int),((0:Int),(([]:(List (ByteArray × (Int × ByteArray)))),(false,((⟨#[]⟩:ByteArray),((0:Int),(0:Int)))))))).2.2.2.1,((List.getD v297 (Int.toNat v266) ((0:Int),((0:Int),(([]:(List (ByteArray × (Int × ByteArray)))),(false,((⟨#[]⟩:ByteArray),((0:Int),(0:Int)))))))).2.2.2.2.1,((List.getD v297 (Int.toNat v266) ((0:Int),((0:Int),(([]:(List (ByteArray × (Int × ByteArray)))),(false,((⟨#[]⟩:ByteArray),((0:Int),(0:Int)))))))).2.2.2.2.2.1,(IntKind.i64.wrap ((IntKind.i64.wrap ((IntKind.i64.wrap (r292.1 + (1:Int))) + (1:Int))) + (1:Int)))))))))):(List (Int × (Int × ((List (ByteArray × (Int × ByteArray))) × (Bool × (ByteArray × (Int × Int))))))))).bind fun v298 => ((f59.l158 k) m158 (v298,(IntKind.i64.wrap ((IntKind.i64.wrap ((IntKind.i64.wrap ((IntKind.i64.wrap (r292.1 + (1:Int))) + (1:Int))) + (1:Int))) + (1:Int))),(IntKind.i64.wrap (v266 + (1:Int)))))) else none)) else none)) else none))) else none) else none))) else none)) else none) else none) else (some (v265,v264))
def f59 (k:Nat) (x0:(List (Int × (Int × ((List (ByteArray × (Int × ByteArray))) × (Bool × (ByteArray × (Int × Int)))))))) (x1:Int):Option (Int × (List (Int × (Int × ((List (ByteArray × (Int × ByteArray))) × (Bool × (ByteArray × (Int × Int)))))))):=f59.l158 k k (x0,x1,(0:Int))
theorem c59 (k:Nat) (x0:(List (Int × (Int × ((List (ByteArray × (Int × ByteArray))) × (Bool × (ByteArray × (Int × Int)))))))) (x1:Int) (r:(Int × (List (Int × (Int × ((List (ByteArray × (Int × ByteArray))) × (Bool × (ByteArray × (Int × Int))))))))) (hF:f59 k x0 x1=some r):PMut Try.prog 59 [⟨sh18,x0⟩,⟨iS,x1⟩] [⟨iS,r.1⟩] (List.set [⟨sh18,x0⟩,⟨iS,x1⟩] 0 ⟨sh18,r.2⟩):=by
 refine pmut_intro (j:=0) (fin:=⟨sh18,r.2⟩) Try.func59 rfl rfl (Nat.le_of_ble_eq_true rfl) (Nat.le_of_ble_eq_true rfl) (by kernel_rfl) ?_
 intro w0 Zi f0 v0 a w h
 rw [f59] at hF
 refine wp_reg_seq tok (orc:=o0) (fz:=[]) (l:=[0,1]) (.inl rfl) h (by kernel_rfl) an fun a w h => ?_
 refine wp_seq ?_
 refine wp_reg_seq tok (orc:=o0) (fz:=[]) (l:=[0,1,5]) (.inl rfl) h (by kernel_rfl) an fun a w h => ?_
 refine wp_block ?_
 refine wp_loop_fuel (f59.l158 k) (fun ((v264,v265,v266):((List (Int × (Int × ((List (ByteArray × (Int × ByteArray))) × (Bool × (ByteArray × (Int × Int))))))) × Int × Int)) => [(0,.val sh18 v264),(1,.val iS v265),(5,.val iS v266)]) (fun v h => by obtain ⟨v264,v265,v266⟩:=v; rw [f59.l158] at h; cases h) ?_ hF (h.arrive (fz:=[]) (l:=[0,1,5]) (.inl rfl) (by kernel_rfl))
 intro m158 v a w hF h
 obtain ⟨v264,v265,v266⟩:=v
 rw [f59.l158] at hF
 refine wp_seq ?_
 refine wp_reg_seq tok (orc:=o0) (fz:=[]) (l:=[0,1,5,9]) (.inl rfl) h (by kernel_rfl) an fun a w h => ?_
 refine zi h hF (fun hF => ?_) (fun hF => ?_)
 ·refine wp_skip ?_
  refine wp_seq <| wp_block ?_
  obtain ⟨hc314,hF⟩:=of_if hF
  refine wp_reg_seq tok (orc:=o0) (fz:=[]) (l:=[0,1,5]) (.inl rfl) h (by kernel_rfl) (ac hc314 an) fun a w h => ?_
  refine wp_reg_seq tok (orc:=o0) (fz:=[]) (l:=[0,1,5]) (.inl rfl) h (by kernel_rfl) an fun a w h => ?_
  obtain ⟨hc313,hF⟩:=of_if hF
  refine wp_reg_seq tok (orc:=o0) (fz:=[]) (l:=[0,1,5]) (.inl rfl) h (by kernel_rfl) (ac hc313 an) fun a w h => ?_
  obtain ⟨v291,hv312,hF⟩:=of_bind hF
  replace h:=h.cast (S':=[(0,.val sh18 v291),(1,.val iS (w64 (v265 + (1:Int)))),(5,.val iS v266)]) (by cases hv312; kernel_rfl)
  refine wp_reg_seq tok (orc:=o0) (fz:=[]) (l:=[0,1,5]) (.inl rfl) h (by kernel_rfl) an fun a w h => ?_
  obtain ⟨hc310,hF⟩:=of_if hF
  obtain ⟨r292,hr311,hF⟩:=of_bind hF
  refine wp_reg_seq tok (orc:=orcL [(32,[⟨.pt false 4294967295 (.sl true 238 (.st (.pair .str (.pair iS .str)))),some r292.2⟩,⟨iS,r292.1⟩])]) (fz:=[]) (l:=[0,1,5]) (.inl rfl) h (by kernel_rfl) (ac hc310 (ac (c118 k (gD v291 (tZ v266) (iO,(iO,(([]:(List (ByteArray × (Int × ByteArray)))),(false,((⟨#[]⟩:ByteArray),(iO,iO))))))).2.2.1 (w64 ((w64 (v265 + (1:Int))) + (1:Int))) r292 hr311) an)) fun a w h => ?_
  obtain ⟨v293,hv309,hF⟩:=of_bind hF
  replace h:=h.cast (S':=[(0,.val sh18 v293),(1,.val iS r292.1),(5,.val iS v266)]) (by cases hv309; kernel_rfl)
  obtain ⟨hc307,hF⟩:=of_if hF
  obtain ⟨hc308,hF⟩:=of_if hF
  refine wp_reg_seq tok (orc:=o0) (fz:=[]) (l:=[0,1,5]) (.inl rfl) h (by kernel_rfl) (ac hc307 (ac hc308 an)) fun a w h => ?_
  obtain ⟨v294,hv306,hF⟩:=of_bind hF
  replace h:=h.cast (S':=[(0,.val sh18 v294),(1,.val iS r292.1),(5,.val iS v266)]) (by cases hv306; kernel_rfl)
  refine wp_reg_seq tok (orc:=o0) (fz:=[]) (l:=[0,1,5]) (.inl rfl) h (by kernel_rfl) an fun a w h => ?_
  obtain ⟨r295,hr304,hF⟩:=of_bind hF
  obtain ⟨hc305,hF⟩:=of_if hF
  refine wp_reg_seq tok (orc:=orcL [(45,[⟨.str,r295⟩])]) (fz:=[]) (l:=[0,1,5]) (.inl rfl) h (by kernel_rfl) (ac (c119 k (w64 (r292.1 + (1:Int))) r295 hr304) (ac hc305 an)) fun a w h => ?_
  obtain ⟨v296,hv303,hF⟩:=of_bind hF
  replace h:=h.cast (S':=[(0,.val sh18 v296),(1,.val iS (w64 (r292.1 + (1:Int)))),(5,.val iS v266)]) (by cases hv303; kernel_rfl)
  refine wp_reg_seq tok (orc:=o0) (fz:=[]) (l:=[0,1,5]) (.inl rfl) h (by kernel_rfl) an fun a w h => ?_
  obtain ⟨hc302,hF⟩:=of_if hF
  refine wp_reg_seq tok (orc:=o0) (fz:=[]) (l:=[0,1,5]) (.inl rfl) h (by kernel_rfl) (ac hc302 an) fun a w h => ?_
  obtain ⟨v297,hv301,hF⟩:=of_bind hF
  replace h:=h.cast (S':=[(0,.val sh18 v297),(1,.val iS (w64 ((w64 (r292.1 + (1:Int))) + (1:Int)))),(5,.val iS v266)]) (by cases hv301; kernel_rfl)
  refine wp_reg_seq tok (orc:=o0) (fz:=[]) (l:=[0,1,5]) (.inl rfl) h (by kernel_rfl) an fun a w h => ?_
  obtain ⟨hc300,hF⟩:=of_if hF
  refine wp_reg_seq tok (orc:=o0) (fz:=[]) (l:=[0,1,5]) (.inl rfl) h (by kernel_rfl) (ac hc300 an) fun a w h => ?_
  obtain ⟨v298,hv299,hF⟩:=of_bind hF
  replace h:=h.cast (S':=[(0,.val sh18 v298),(1,.val iS (w64 ((w64 ((w64 (r292.1 + (1:Int))) + (1:Int))) + (1:Int)))),(5,.val iS v266)]) (by cases hv299; kernel_rfl)
  refine wp_reg tok (orc:=o0) (fz:=[]) (l:=[0,1,5]) (.inl rfl) h (by kernel_rfl) an fun a w h => ?_
  refine wp_reg tok (orc:=o0) (fz:=[]) (l:=[0,1,5]) (.inl rfl) h (by kernel_rfl) an fun a w h => ?_
  exact ⟨(v298,(w64 ((w64 ((w64 ((w64 (r292.1 + (1:Int))) + (1:Int))) + (1:Int))) + (1:Int))),(w64 (v266 + (1:Int)))),hF,h.arrive (fz:=[]) (l:=[0,1,5]) (.inl rfl) (by kernel_rfl)⟩
 ·refine wp_exit ?_
  refine wp_reg_seq tok (orc:=o0) (fz:=[]) (l:=[0,4]) (.inl rfl) h (by kernel_rfl) an fun a w h => ?_
  cases hF
  exact wp_ret (retM_ok tok h rfl (by kernel_rfl) (by kernel_rfl)).1
def f60.l104 (k:Nat):Nat → ((List (Int × ((List (Int × Int)) × (ByteArray × (Int × Int))))) × Int × Int)→Option (Int × (List (Int × ((List (Int × Int)) × (ByteArray × (Int × Int))))))
 | 0,_ => none
 | m104+1,(v174,v175,v176) => if (decide (v176 < (List.length v174:Int))) then (if (0≤v176∧v176 < (List.length v174:Int)) then (if (0≤v176∧v176 < (List.length (List.set v174 (Int.toNat v176) (v175,(List.getD v174 (Int.toNat v176) ((0:Int),(([]:(List (Int × Int))),((⟨#[]⟩:ByteArray),((0:Int),(0:Int)))))).2)):Int)) then ((f120 k (List.getD (List.set v174 (Int.toNat v176) (v175,(List.getD v174 (Int.toNat v176) ((0:Int),(([]:(List (Int × Int))),((⟨#[]⟩:ByteArray),((0:Int),(0:Int)))))).2)) (Int.toNat v176) ((0:Int),(([]:(List (Int × Int))),((⟨#[]⟩:ByteArray),((0:Int),(0:Int)))))).2.1 (IntKind.i64.wrap (v175 + (1:Int)))).bind fun r192 => ((some ((List.set (List.set v174 (Int.toNat v176) (v175,(List.getD v174 (Int.toNat v176) ((0:Int),(([]:(List (Int × Int))),((⟨#[]⟩:ByteArray),((0:Int),(0:Int)))))).2)) (Int.toNat v176) ((List.getD (List.set v174 (Int.toNat v176) (v175,(List.getD v174 (Int.toNat v176) ((0:Int),(([]:(List (Int × Int))),((⟨#[]⟩:ByteArray),((0:Int),(0:Int)))))).2)) (Int.toNat v176) ((0:Int),(([]:(List (Int × Int))),((⟨#[]⟩:ByteArray),((0:Int),(0:Int)))))).1,(r192.2,(List.getD (List.set v174 (Int.toNat v176) (v175,(List.getD v174 (Int.toNat v176) ((0:Int),(([]:(List (Int × Int))),((⟨#[]⟩:ByteArray),((0:Int),(0:Int)))))).2)) (Int.toNat v176) ((0:Int),(([]:(List (Int × Int))),((⟨#[]⟩:ByteArray),((0:Int),(0:Int)))))).2.2))):(List (Int × ((List (Int × Int)) × (ByteArray × (Int × Int))))))).bind fun v193 => ((f119 k r192.1).bind fun r194 => (if (0≤v176∧v176 < (List.length v193:Int)) then (if (0≤v176∧v176 < (List.length (List.set v193 (Int.toNat v176) ((List.getD v193 (Int.toNat v176) ((0:Int),(([]:(List (Int × Int))),((⟨#[]⟩:ByteArray),((0:Int),(0:Int)))))).1,((List.getD v193 (Int.toNat v176) ((0:Int),(([]:(List (Int × Int))),((⟨#[]⟩:ByteArray),((0:Int),(0:Int)))))).2.1,(r194,(List.getD v193 (Int.toNat v176) ((0:Int),(([]:(List (Int × Int))),((⟨#[]⟩:ByteArray),((0:Int),(0:Int)))))).2.2.2)))):Int)) then ((some ((List.set (List.set v193 (Int.toNat v176) ((List.getD v193 (Int.toNat v176) ((0:Int),(([]:(List (Int × Int))),((⟨#[]⟩:ByteArray),((0:Int),(0:Int)))))).1,((List.getD v193 (Int.toNat v176) ((0:Int),(([]:(List (Int × Int))),((⟨#[]⟩:ByteArray),((0:Int),(0:Int)))))).2.1,(r194,(List.getD v193 (Int.toNat v176) ((0:Int),(([]:(List (Int × Int))),((⟨#[]⟩:ByteArray),((0:Int),(0:Int)))))).2.2.2)))) (Int.toNat v176) ((List.getD (List.set v193 (Int.toNat v176) ((List.getD v193 (Int.toNat v176) ((0:Int),(([]:(List (Int × Int))),((⟨#[]⟩:ByteArray),((0:Int),(0:Int)))))).1,((List.getD v193 (Int.toNat v176) ((0:Int),(([]:(List (Int × Int))),((⟨#[]⟩:ByteArray),((0:Int),(0:Int)))))).2.1,(r194,(List.getD v193 (Int.toNat v176) ((0:Int),(([]:(List (Int × Int))),((⟨#[]⟩:ByteArray),((0:Int),(0:Int)))))).2.2.2)))) (Int.toNat v176) ((0:Int),(([]:(List (Int × Int))),((⟨#[]⟩:ByteArray),((0:Int),(0:Int)))))).1,((List.getD (List.set v193 (Int.toNat v176) ((List.getD v193 (Int.toNat v176) ((0:Int),(([]:(List (Int × Int))),((⟨#[]⟩:ByteArray),((0:Int),(0:Int)))))).1,((List.getD v193 (Int.toNat v176) ((0:Int),(([]:(List (Int × Int))),((⟨#[]⟩:ByteArray),((0:Int),(0:Int)))))).2.1,(r194,(List.getD v193 (Int.toNat v176) ((0:Int),(([]:(List (Int × Int))),((⟨#[]⟩:ByteArray),((0:Int),(0:Int)))))).2.2.2)))) (Int.toNat v176) ((0:Int),(([]:(List (Int × Int))),((⟨#[]⟩:ByteArray),((0:Int),(0:Int)))))).2.1,((List.getD (List.set v193 (Int.toNat v176) ((List.getD v193 (Int.toNat v176) ((0:Int),(([]:(List (Int × Int))),((⟨#[]⟩:ByteArray),((0:Int),(0:Int)))))).1,((List.getD v193 (Int.toNat v176) ((0:Int),(([]:(List (Int × Int))),((⟨#[]⟩:ByteArray),((0:Int),(0:Int)))))).2.1,(r194,(List.getD v193 (Int.toNat v176) ((0:Int),(([]:(List (Int × Int))),((⟨#[]⟩:ByteArray),((0:Int),(0:Int)))))).2.2.2)))) (Int.toNat v176) ((0:Int),(([]:(List (Int × Int))),((⟨#[]⟩:ByteArray),((0:Int),(0:Int)))))).2.2.1,((IntKind.i64.wrap (r192.1 + (1:Int))),(List.getD (List.set v193 (Int.toNat v176) ((List.getD v193 (Int.toNat v176) ((0:Int),(([]:(List (Int × Int))),((⟨#[]⟩:ByteArray),((0:Int),(0:Int)))))).1,((List.getD v193 (Int.toNat v176) ((0:Int),(([]:(List (Int × Int))),((⟨#[]⟩:ByteArray),((0:Int),(0:Int)))))).2.1,(r194,(List.getD v193 (Int.toNat v176) ((0:Int),(([]:(List (Int × Int))),((⟨#[]⟩:ByteArray),((0:Int),(0:Int)))))).2.2.2)))) (Int.toNat v176) ((0:Int),(([]:(List (Int × Int))),((⟨#[]⟩:ByteArray),((0:Int),(0:Int)))))).2.2.2.2))))):(List (Int × ((List (Int × Int)) × (ByteArray × (Int × Int))))))).bind fun v195 => (if (0≤v176∧v176 < (List.length v195:Int)) then ((some ((List.set v195 (Int.toNat v176) ((List.getD v195 (Int.toNat v176) ((0:Int),(([]:(List (Int × Int))),((⟨#[]⟩:ByteArray),((0:Int),(0:Int)))))).1,((List.getD v195 (Int.toNat v176) ((0:Int),(([]:(List (Int × Int))),((⟨#[]⟩:ByteArray),((0:Int),(0:Int)))))).2.1,((List.getD v195 (Int.toNat v176) ((0:Int),(([]:(List (Int × Int))),((⟨#[]⟩:ByteArray),((0:Int),(0:Int)))))).2.2.1,((List.getD v195 (Int.toNat v176) ((0:Int),(([]:(List (Int × Int))),((⟨#[]⟩:ByteArray),((0:Int),(0:Int)))))).2.2.2.1,(IntKind.i64.wrap ((IntKind.i64.wrap (r192.1 + (1:Int))) + (1:Int)))))))):(List (Int × ((List (Int × Int)) × (ByteArray × (Int × Int))))))).bind fun v196 => ((f60.l104 k) m104 (v196,(IntKind.i64.wrap ((IntKind.i64.wrap ((IntKind.i64.wrap (r192.1 + (1:Int))) + (1:Int))) + (1:Int))),(IntKind.i64.wrap (v176 + (1:Int)))))) else none)) else none) else none)))) else none) else none) else (some (v175,v174))
def f60 (k:Nat) (x0:(List (Int × ((List (Int × Int)) × (ByteArray × (Int × Int)))))) (x1:Int):Option (Int × (List (Int × ((List (Int × Int)) × (ByteArray × (Int × Int)))))):=f60.l104 k k (x0,x1,(0:Int))
theorem c60 (k:Nat) (x0:(List (Int × ((List (Int × Int)) × (ByteArray × (Int × Int)))))) (x1:Int) (r:(Int × (List (Int × ((List (Int × Int)) × (ByteArray × (Int × Int))))))) (hF:f60 k x0 x1=some r):PMut Try.prog 60 [⟨sh35,x0⟩,⟨iS,x1⟩] [⟨iS,r.1⟩] (List.set [⟨sh35,x0⟩,⟨iS,x1⟩] 0 ⟨sh35,r.2⟩):=by
 refine pmut_intro (j:=0) (fin:=⟨sh35,r.2⟩) Try.func60 rfl rfl (Nat.le_of_ble_eq_true rfl) (Nat.le_of_ble_eq_true rfl) (by kernel_rfl) ?_
 intro w0 Zi f0 v0 a w h
 rw [f60] at hF
 refine wp_reg_seq tok (orc:=o0) (fz:=[]) (l:=[0,1]) (.inl rfl) h (by kernel_rfl) an fun a w h => ?_
 refine wp_seq ?_
 refine wp_reg_seq tok (orc:=o0) (fz:=[]) (l:=[0,1,5]) (.inl rfl) h (by kernel_rfl) an fun a w h => ?_
 refine wp_block ?_
 refine wp_loop_fuel (f60.l104 k) (fun ((v174,v175,v176):((List (Int × ((List (Int × Int)) × (ByteArray × (Int × Int))))) × Int × Int)) => [(0,.val sh35 v174),(1,.val iS v175),(5,.val iS v176)]) (fun v h => by obtain ⟨v174,v175,v176⟩:=v; rw [f60.l104] at h; cases h) ?_ hF (h.arrive (fz:=[]) (l:=[0,1,5]) (.inl rfl) (by kernel_rfl))
 intro m104 v a w hF h
 obtain ⟨v174,v175,v176⟩:=v
 rw [f60.l104] at hF
 refine wp_seq ?_
 refine wp_reg_seq tok (orc:=o0) (fz:=[]) (l:=[0,1,5,9]) (.inl rfl) h (by kernel_rfl) an fun a w h => ?_
 refine zi h hF (fun hF => ?_) (fun hF => ?_)
 ·refine wp_skip ?_
  refine wp_seq <| wp_block ?_
  obtain ⟨hc206,hF⟩:=of_if hF
  refine wp_reg_seq tok (orc:=o0) (fz:=[]) (l:=[0,1,5]) (.inl rfl) h (by kernel_rfl) (ac hc206 an) fun a w h => ?_
  refine wp_reg_seq tok (orc:=o0) (fz:=[]) (l:=[0,1,5]) (.inl rfl) h (by kernel_rfl) an fun a w h => ?_
  obtain ⟨hc204,hF⟩:=of_if hF
  obtain ⟨r192,hr205,hF⟩:=of_bind hF
  refine wp_reg_seq tok (orc:=orcL [(25,[⟨.pt false 4294967295 (.sl true 52 (.st (.pair iS iS))),some r192.2⟩,⟨iS,r192.1⟩])]) (fz:=[]) (l:=[0,1,5]) (.inl rfl) h (by kernel_rfl) (ac hc204 (ac (c120 k (gD (List.set v174 (tZ v176) (v175,(gD v174 (tZ v176) (iO,(([]:(List (Int × Int))),((⟨#[]⟩:ByteArray),(iO,iO))))).2)) (tZ v176) (iO,(([]:(List (Int × Int))),((⟨#[]⟩:ByteArray),(iO,iO))))).2.1 (w64 (v175 + (1:Int))) r192 hr205) an)) fun a w h => ?_
  obtain ⟨v193,hv203,hF⟩:=of_bind hF
  replace h:=h.cast (S':=[(0,.val sh35 v193),(1,.val iS r192.1),(5,.val iS v176)]) (by cases hv203; kernel_rfl)
  obtain ⟨r194,hr201,hF⟩:=of_bind hF
  obtain ⟨hc202,hF⟩:=of_if hF
  refine wp_reg_seq tok (orc:=orcL [(29,[⟨.str,r194⟩])]) (fz:=[]) (l:=[0,1,5]) (.inl rfl) h (by kernel_rfl) (ac (c119 k r192.1 r194 hr201) (ac hc202 an)) fun a w h => ?_
  refine wp_reg_seq tok (orc:=o0) (fz:=[]) (l:=[0,1,5]) (.inl rfl) h (by kernel_rfl) an fun a w h => ?_
  obtain ⟨hc200,hF⟩:=of_if hF
  refine wp_reg_seq tok (orc:=o0) (fz:=[]) (l:=[0,1,5]) (.inl rfl) h (by kernel_rfl) (ac hc200 an) fun a w h => ?_
  obtain ⟨v195,hv199,hF⟩:=of_bind hF
  replace h:=h.cast (S':=[(0,.val sh35 v195),(1,.val iS (w64 (r192.1 + (1:Int)))),(5,.val iS v176)]) (by cases hv199; kernel_rfl)
  refine wp_reg_seq tok (orc:=o0) (fz:=[]) (l:=[0,1,5]) (.inl rfl) h (by kernel_rfl) an fun a w h => ?_
  obtain ⟨hc198,hF⟩:=of_if hF
  refine wp_reg_seq tok (orc:=o0) (fz:=[]) (l:=[0,1,5]) (.inl rfl) h (by kernel_rfl) (ac hc198 an) fun a w h => ?_
  obtain ⟨v196,hv197,hF⟩:=of_bind hF
  replace h:=h.cast (S':=[(0,.val sh35 v196),(1,.val iS (w64 ((w64 (r192.1 + (1:Int))) + (1:Int)))),(5,.val iS v176)]) (by cases hv197; kernel_rfl)
  refine wp_reg tok (orc:=o0) (fz:=[]) (l:=[0,1,5]) (.inl rfl) h (by kernel_rfl) an fun a w h => ?_
  refine wp_reg tok (orc:=o0) (fz:=[]) (l:=[0,1,5]) (.inl rfl) h (by kernel_rfl) an fun a w h => ?_
  exact ⟨(v196,(w64 ((w64 ((w64 (r192.1 + (1:Int))) + (1:Int))) + (1:Int))),(w64 (v176 + (1:Int)))),hF,h.arrive (fz:=[]) (l:=[0,1,5]) (.inl rfl) (by kernel_rfl)⟩
 ·refine wp_exit ?_
  refine wp_reg_seq tok (orc:=o0) (fz:=[]) (l:=[0,4]) (.inl rfl) h (by kernel_rfl) an fun a w h => ?_
  cases hF
  exact wp_ret (retM_ok tok h rfl (by kernel_rfl) (by kernel_rfl)).1
def f121.l22 (k:Nat) (x0:(List (Int × Int))):Nat → (Int × Int)→Option Int
 | 0,_ => none
 | m22+1,(v37,v38) => if (decide (v38 < (List.length x0:Int))) then (if (0≤v38∧v38 < (List.length x0:Int)) then (if (((List.getD x0 (Int.toNat v38) ((0:Int),(0:Int))).1:Int) != v37) then (some (-1:Int)) else (if (0≤v38∧v38 < (List.length x0:Int)) then (if (((List.getD x0 (Int.toNat v38) ((0:Int),(0:Int))).2:Int) != (IntKind.i64.wrap (v37 + (1:Int)))) then (some (-1:Int)) else ((f121.l22 k x0) m22 ((IntKind.i64.wrap ((IntKind.i64.wrap (v37 + (1:Int))) + (1:Int))),(IntKind.i64.wrap (v38 + (1:Int)))))) else none)) else none) else (some v37)
def f121 (k:Nat) (x0:(List (Int × Int))) (x1:Int):Option Int:=f121.l22 k x0 k (x1,(0:Int))
theorem c121 (k:Nat) (x0:(List (Int × Int))) (x1:Int) (r:Int) (hF:f121 k x0 x1=some r):PCall Try.prog 121 [⟨sh36,x0⟩,⟨iS,x1⟩] [⟨iS,r⟩]:=by
 refine pcall_intro Try.func121 rfl rfl (Nat.le_of_ble_eq_true rfl) ?_
 intro w0 Zi a w h
 rw [f121] at hF
 refine zs [0,1] h an fun a w h => ?_
 refine wp_seq ?_
 refine zs [0,1,5] h an fun a w h => ?_
 refine wp_block ?_
 refine wp_loop_fuel (f121.l22 k x0) (fun ((v37,v38):(Int × Int)) => [(0,.val sh36 x0),(1,.val iS v37),(5,.val iS v38)]) (fun v h => by obtain ⟨v37,v38⟩:=v; rw [f121.l22] at h; cases h) ?_ hF (ar h [0,1,5])
 intro m22 v a w hF h
 obtain ⟨v37,v38⟩:=v
 rw [f121.l22] at hF
 refine wp_seq ?_
 refine zs [0,1,5,9] h an fun a w h => ?_
 refine zi h hF (fun hF => ?_) (fun hF => ?_)
 ·refine wp_skip ?_
  refine wp_seq <| wp_block ?_
  refine wp_seq ?_
  obtain ⟨hc42,hF⟩:=of_if hF
  refine zs [0,1,5,18] h (ac hc42 an) fun a w h => ?_
  refine zi h hF (fun hF => ?_) (fun hF => ?_)
  ·refine zs [4] h an fun a w h => ?_
   cases hF
   exact wp_ret (ret_okR tok h rfl (by kernel_rfl)).1
  ·refine wp_skip ?_
   refine zs [0,1,5] h an fun a w h => ?_
   refine wp_seq ?_
   obtain ⟨hc41,hF⟩:=of_if hF
   refine zs [0,1,5,27] h (ac hc41 an) fun a w h => ?_
   refine zi h hF (fun hF => ?_) (fun hF => ?_)
   ·refine zs [4] h an fun a w h => ?_
    cases hF
    exact wp_ret (ret_okR tok h rfl (by kernel_rfl)).1
   ·refine wp_skip ?_
    refine zt [0,1,5] h an fun a w h => ?_
    refine zt [0,1,5] h an fun a w h => ?_
    exact ⟨((w64 ((w64 (v37 + (1:Int))) + (1:Int))),(w64 (v38 + (1:Int)))),hF,ar h [0,1,5]⟩
 ·refine wp_exit ?_
  refine zs [4] h an fun a w h => ?_
  cases hF
  exact wp_ret (ret_okR tok h rfl (by kernel_rfl)).1
def f61.l64 (k:Nat) (x0:(List (Int × ((List (Int × Int)) × (ByteArray × (Int × Int)))))):Nat → (Int × Int)→Option Int
 | 0,_ => none
 | m64+1,(v107,v108) => if (decide (v108 < (List.length x0:Int))) then (if (0≤v108∧v108 < (List.length x0:Int)) then (if (((List.getD x0 (Int.toNat v108) ((0:Int),(([]:(List (Int × Int))),((⟨#[]⟩:ByteArray),((0:Int),(0:Int)))))).1:Int) != v107) then (some (-1:Int)) else (if (0≤v108∧v108 < (List.length x0:Int)) then ((f121 k (List.getD x0 (Int.toNat v108) ((0:Int),(([]:(List (Int × Int))),((⟨#[]⟩:ByteArray),((0:Int),(0:Int)))))).2.1 (IntKind.i64.wrap (v107 + (1:Int)))).bind fun r118 => (if (decide (r118 < (0:Int))) then (some (-1:Int)) else (if (0≤v108∧v108 < (List.length x0:Int)) then ((f119 k r118).bind fun r119 => (if (!(ByteArray.toList (List.getD x0 (Int.toNat v108) ((0:Int),(([]:(List (Int × Int))),((⟨#[]⟩:ByteArray),((0:Int),(0:Int)))))).2.2.1 == ByteArray.toList r119)) then (some (-1:Int)) else (if (0≤v108∧v108 < (List.length x0:Int)) then (if (((List.getD x0 (Int.toNat v108) ((0:Int),(([]:(List (Int × Int))),((⟨#[]⟩:ByteArray),((0:Int),(0:Int)))))).2.2.2.1:Int) != (IntKind.i64.wrap (r118 + (1:Int)))) then (some (-1:Int)) else (if (0≤v108∧v108 < (List.length x0:Int)) then (if (((List.getD x0 (Int.toNat v108) ((0:Int),(([]:(List (Int × Int))),((⟨#[]⟩:ByteArray),((0:Int),(0:Int)))))).2.2.2.2:Int) != (IntKind.i64.wrap ((IntKind.i64.wrap (r118 + (1:Int))) + (1:Int)))) then (some (-1:Int)) else ((f61.l64 k x0) m64 ((IntKind.i64.wrap ((IntKind.i64.wrap ((IntKind.i64.wrap (r118 + (1:Int))) + (1:Int))) + (1:Int))),(IntKind.i64.wrap (v108 + (1:Int)))))) else none)) else none))) else none))) else none)) else none) else (some v107)
def f61 (k:Nat) (x0:(List (Int × ((List (Int × Int)) × (ByteArray × (Int × Int)))))) (x1:Int):Option Int:=f61.l64 k x0 k (x1,(0:Int))
theorem c61 (k:Nat) (x0:(List (Int × ((List (Int × Int)) × (ByteArray × (Int × Int)))))) (x1:Int) (r:Int) (hF:f61 k x0 x1=some r):PCall Try.prog 61 [⟨sh28,x0⟩,⟨iS,x1⟩] [⟨iS,r⟩]:=by
 refine pcall_intro Try.func61 rfl rfl (Nat.le_of_ble_eq_true rfl) ?_
 intro w0 Zi a w h
 rw [f61] at hF
 refine zs [0,1] h an fun a w h => ?_
 refine wp_seq ?_
 refine zs [0,1,5] h an fun a w h => ?_
 refine wp_block ?_
 refine wp_loop_fuel (f61.l64 k x0) (fun ((v107,v108):(Int × Int)) => [(0,.val sh28 x0),(1,.val iS v107),(5,.val iS v108)]) (fun v h => by obtain ⟨v107,v108⟩:=v; rw [f61.l64] at h; cases h) ?_ hF (ar h [0,1,5])
 intro m64 v a w hF h
 obtain ⟨v107,v108⟩:=v
 rw [f61.l64] at hF
 refine wp_seq ?_
 refine zs [0,1,5,9] h an fun a w h => ?_
 refine zi h hF (fun hF => ?_) (fun hF => ?_)
 ·refine wp_skip ?_
  refine wp_seq <| wp_block ?_
  refine wp_seq ?_
  obtain ⟨hc126,hF⟩:=of_if hF
  refine zs [0,1,5,18] h (ac hc126 an) fun a w h => ?_
  refine zi h hF (fun hF => ?_) (fun hF => ?_)
  ·refine zs [4] h an fun a w h => ?_
   cases hF
   exact wp_ret (ret_okR tok h rfl (by kernel_rfl)).1
  ·refine wp_skip ?_
   refine zs [0,1,5] h an fun a w h => ?_
   obtain ⟨hc124,hF⟩:=of_if hF
   obtain ⟨r118,hr125,hF⟩:=of_bind hF
   refine zc (orcL [(27,[⟨iS,r118⟩])]) [0,1,5] h (ac hc124 (ac (c121 k (gD x0 (tZ v108) (iO,(([]:(List (Int × Int))),((⟨#[]⟩:ByteArray),(iO,iO))))).2.1 (w64 (v107 + (1:Int))) r118 hr125) an)) fun a w h => ?_
   refine wp_seq ?_
   refine zs [0,1,5,29] h an fun a w h => ?_
   refine zi h hF (fun hF => ?_) (fun hF => ?_)
   ·refine zs [4] h an fun a w h => ?_
    cases hF
    exact wp_ret (ret_okR tok h rfl (by kernel_rfl)).1
   ·refine wp_skip ?_
    refine wp_seq ?_
    obtain ⟨hc122,hF⟩:=of_if hF
    obtain ⟨r119,hr123,hF⟩:=of_bind hF
    refine wp_regy_seq tok (orc:=orcL [(36,[⟨.str,r119⟩])]) (l:=[0,1,5,37]) ([],[],[],[]) 8 nw h (by kernel_rfl) (by kernel_rfl) (ac hc122 (ac (c119 k r118 r119 hr123) an)) fun a w h => ?_
    refine zi h hF (fun hF => ?_) (fun hF => ?_)
    ·refine zs [4] h an fun a w h => ?_
     cases hF
     exact wp_ret (ret_okR tok h rfl (by kernel_rfl)).1
    ·refine wp_skip ?_
     refine zs [0,1,5] h an fun a w h => ?_
     refine wp_seq ?_
     obtain ⟨hc121,hF⟩:=of_if hF
     refine zs [0,1,5,46] h (ac hc121 an) fun a w h => ?_
     refine zi h hF (fun hF => ?_) (fun hF => ?_)
     ·refine zs [4] h an fun a w h => ?_
      cases hF
      exact wp_ret (ret_okR tok h rfl (by kernel_rfl)).1
     ·refine wp_skip ?_
      refine zs [0,1,5] h an fun a w h => ?_
      refine wp_seq ?_
      obtain ⟨hc120,hF⟩:=of_if hF
      refine zs [0,1,5,55] h (ac hc120 an) fun a w h => ?_
      refine zi h hF (fun hF => ?_) (fun hF => ?_)
      ·refine zs [4] h an fun a w h => ?_
       cases hF
       exact wp_ret (ret_okR tok h rfl (by kernel_rfl)).1
      ·refine wp_skip ?_
       refine zt [0,1,5] h an fun a w h => ?_
       refine zt [0,1,5] h an fun a w h => ?_
       exact ⟨((w64 ((w64 ((w64 (r118 + (1:Int))) + (1:Int))) + (1:Int))),(w64 (v108 + (1:Int)))),hF,ar h [0,1,5]⟩
 ·refine wp_exit ?_
  refine zs [4] h an fun a w h => ?_
  cases hF
  exact wp_ret (ret_okR tok h rfl (by kernel_rfl)).1
def f8 (k:Nat) (x0:((Int × (Int × Int)) × (List (Int × ((List (Int × Int)) × (List (ByteArray × ByteArray))))))) (x1:(List (Int × (Int × ((List (ByteArray × (Int × ByteArray))) × (Bool × (ByteArray × (Int × Int)))))))):Option Bool:=(f49 k x0 (1048576:Int)).bind fun r1 => (if (decide (r1 < (0:Int))) then (some true) else ((f50 k x1 r1).bind fun r2 => (if (decide (r2 < (0:Int))) then (some true) else ((f52 k x0).bind fun r3 => ((f53 k x1).bind fun r4 => ((f51 k r3 r4).bind fun r5 => ((f52 k x0).bind fun r6 => ((f53 k x1).bind fun r7 => ((f54 k r6 r7).bind fun r8 => ((f55 k r8 r5).bind fun r9 => (if (!r9) then (some false) else ((f52 k x0).bind fun r10 => ((f56 k r6 r10).bind fun r11 => (if (!r11) then (some false) else ((f53 k x1).bind fun r12 => ((f57 k r7 r12).bind fun r13 => (if (!r13) then (some false) else ((f58 k r6 (1:Int)).bind fun r14 => ((f59 k r7 r14.1).bind fun r15 => ((if ((decide (r15.1 < (0:Int)))=false) then f55 k r8 r5 else some default).bind fun r16 => (if (bif (decide (r15.1 < (0:Int))) then true else (!r16)) then (some false) else ((f60 k r8 (1:Int)).bind fun r17 => ((f61 k r17.2 (1:Int)).bind fun r18 => (if (decide (r18 < (0:Int))) then (some false) else (if (r18 != r17.1) then (some false) else ((f52 k x0).bind fun r19 => ((f53 k x1).bind fun r20 => ((f54 k r19 r20).bind fun r21 => ((f55 k r21 r5).bind fun r22 => (if (!r22) then (some false) else ((f61 k r17.2 (1:Int)).bind fun r23 => (if (decide (r23 < (0:Int))) then (some false) else (if (r23 != r17.1) then (some false) else (some true))))))))))))))))))))))))))))))))))
theorem c8 (k:Nat) (x0:((Int × (Int × Int)) × (List (Int × ((List (Int × Int)) × (List (ByteArray × ByteArray))))))) (x1:(List (Int × (Int × ((List (ByteArray × (Int × ByteArray))) × (Bool × (ByteArray × (Int × Int)))))))) (h112:H112) (r:Bool) (hF:f8 k x0 x1=some r):PCall Try.prog 8 [⟨sh4,x0⟩,⟨sh8,x1⟩] [⟨.bool,r⟩]:=by
 refine pcall_intro Try.func8 rfl rfl (Nat.le_of_ble_eq_true rfl) ?_
 intro w0 Zi a w h
 rw [f8] at hF
 refine zs [1,2] h an fun a w h => ?_
 refine zs [1,2,5] h an fun a w h => ?_
 obtain ⟨r1,hr46,hF⟩:=of_bind hF
 refine zc (orcL [(16,[⟨iS,r1⟩])]) [1,2,5] h (ac (c49 k x0 (1048576:Int) r1 hr46) an) fun a w h => ?_
 refine wp_seq ?_
 refine zs [1,2,5,18] h an fun a w h => ?_
 refine zi h hF (fun hF => ?_) (fun hF => ?_)
 ·refine zs [4] h an fun a w h => ?_
  cases hF
  exact wp_ret (ret_okR tok h rfl (by kernel_rfl)).1
 ·refine wp_skip ?_
  obtain ⟨r2,hr45,hF⟩:=of_bind hF
  refine zc (orcL [(21,[⟨iS,r2⟩])]) [1,2,5] h (ac (c50 k x1 r1 r2 hr45) an) fun a w h => ?_
  refine wp_seq ?_
  refine zs [1,2,23] h an fun a w h => ?_
  refine zi h hF (fun hF => ?_) (fun hF => ?_)
  ·refine zs [4] h an fun a w h => ?_
   cases hF
   exact wp_ret (ret_okR tok h rfl (by kernel_rfl)).1
  ·refine wp_skip ?_
   obtain ⟨r3,hr42,hF⟩:=of_bind hF
   obtain ⟨r4,hr43,hF⟩:=of_bind hF
   obtain ⟨r5,hr44,hF⟩:=of_bind hF
   refine zc (orcL [(25,[⟨sh31,r3⟩]),(27,[⟨sh23,r4⟩]),(28,[⟨sh26,r5⟩])]) [1,2,6] h (ac (PCall.frozen (outs':=[⟨sh31,r3⟩]) (c52 k x0 r3 hr42) (by kernel_rfl)) (ac (PCall.frozen (outs':=[⟨sh23,r4⟩]) (c53 k x1 r4 hr43) (by kernel_rfl)) (ac (c51 k r3 r4 r5 hr44) an))) fun a w h => ?_
   obtain ⟨r6,hr41,hF⟩:=of_bind hF
   refine zc (orcL [(30,[⟨sh15,r6⟩])]) [1,2,6,7] h (ac (c52 k x0 r6 hr41) an) fun a w h => ?_
   obtain ⟨r7,hr40,hF⟩:=of_bind hF
   refine zc (orcL [(32,[⟨sh18,r7⟩])]) [1,2,6,7,8] h (ac (c53 k x1 r7 hr40) an) fun a w h => ?_
   obtain ⟨r8,hr39,hF⟩:=of_bind hF
   refine zc (orcL [(35,[⟨sh35,r8⟩])]) [1,2,6,7,8,9] h (ac (c54 k r6 r7 h112 r8 hr39) an) fun a w h => ?_
   refine wp_seq ?_
   obtain ⟨r9,hr38,hF⟩:=of_bind hF
   refine zc (orcL [(38,[⟨.bool,r9⟩])]) [1,2,6,7,8,9,39] h (ac (c55 k r8 r5 r9 hr38) an) fun a w h => ?_
   refine zi h hF (fun hF => ?_) (fun hF => ?_)
   ·refine zs [4] h an fun a w h => ?_
    cases hF
    exact wp_ret (ret_okR tok h rfl (by kernel_rfl)).1
   ·refine wp_skip ?_
    refine wp_seq ?_
    obtain ⟨r10,hr36,hF⟩:=of_bind hF
    obtain ⟨r11,hr37,hF⟩:=of_bind hF
    refine wp_regy_seq tok (orc:=orcL [(42,[⟨sh15,r10⟩]),(43,[⟨.bool,r11⟩])]) (l:=[1,2,6,7,8,9,44]) ([],[],[],[]) 5 nw h (by kernel_rfl) (by kernel_rfl) (ac (c52 k x0 r10 hr36) (ac (c56 k r6 r10 r11 hr37) an)) fun a w h => ?_
    refine zi h hF (fun hF => ?_) (fun hF => ?_)
    ·refine zs [4] h an fun a w h => ?_
     cases hF
     exact wp_ret (ret_okR tok h rfl (by kernel_rfl)).1
    ·refine wp_skip ?_
     refine wp_seq ?_
     obtain ⟨r12,hr34,hF⟩:=of_bind hF
     obtain ⟨r13,hr35,hF⟩:=of_bind hF
     refine zc (orcL [(47,[⟨sh18,r12⟩]),(48,[⟨.bool,r13⟩])]) [1,2,6,7,8,9,49] h (ac (c53 k x1 r12 hr34) (ac (c57 k r7 r12 r13 hr35) an)) fun a w h => ?_
     refine zi h hF (fun hF => ?_) (fun hF => ?_)
     ·refine zs [4] h an fun a w h => ?_
      cases hF
      exact wp_ret (ret_okR tok h rfl (by kernel_rfl)).1
     ·refine wp_skip ?_
      refine zs [1,2,6,7,8,9,10] h an fun a w h => ?_
      obtain ⟨r14,hr33,hF⟩:=of_bind hF
      refine zc (orcL [(52,[⟨.pt false 4294967295 (.st (.pair (.st (.pair iS (.pair iS iS))) (.sl true 151 (.st (.pair iS (.pair (.sl true 52 (.st (.pair iS iS))) (.sl true 272 (.st (.pair .str .str))))))))),some r14.2⟩,⟨iS,r14.1⟩])]) [1,2,6,8,9,10] h (ac (c58 k r6 (1:Int) r14 hr33) an) fun a w h => ?_
      obtain ⟨r15,hr32,hF⟩:=of_bind hF
      refine zc (orcL [(55,[⟨.pt false 4294967295 (.sl true 154 (.st (.pair iS (.pair iS (.pair (.sl true 238 (.st (.pair .str (.pair iS .str)))) (.pair .bool (.pair .str (.pair iS iS)))))))),some r15.2⟩,⟨iS,r15.1⟩])]) [1,2,6,9,10] h (ac (c59 k r7 r14.1 r15 hr32) an) fun a w h => ?_
      refine wp_seq ?_
      obtain ⟨r16,hr31,hF⟩:=of_bind hF
      refine zc (orcL [(61,[⟨.bool,r16⟩])]) [1,2,6,9,63] h (ac (fun (hg:((decide (r15.1 < iO))=false)) => c55 k r8 r5 r16 (of_g hg hr31)) an) fun a w h => ?_
      refine zi h hF (fun hF => ?_) (fun hF => ?_)
      ·refine zs [4] h an fun a w h => ?_
       cases hF
       exact wp_ret (ret_okR tok h rfl (by kernel_rfl)).1
      ·refine wp_skip ?_
       refine zs [1,2,6,9,11] h an fun a w h => ?_
       obtain ⟨r17,hr30,hF⟩:=of_bind hF
       refine zc (orcL [(66,[⟨.pt false 4294967295 (.sl true 158 (.st (.pair iS (.pair (.sl true 52 (.st (.pair iS iS))) (.pair .str (.pair iS iS)))))),some r17.2⟩,⟨iS,r17.1⟩])]) [1,2,6,9,11] h (ac (c60 k r8 (1:Int) r17 hr30) an) fun a w h => ?_
       refine zs [1,2,6,9,11,12] h an fun a w h => ?_
       obtain ⟨r18,hr29,hF⟩:=of_bind hF
       refine zc (orcL [(69,[⟨iS,r18⟩])]) [1,2,6,9,11,12] h (ac (c61 k r17.2 (1:Int) r18 hr29) an) fun a w h => ?_
       refine wp_seq ?_
       refine zs [1,2,6,9,11,12,71] h an fun a w h => ?_
       refine zi h hF (fun hF => ?_) (fun hF => ?_)
       ·refine zs [4] h an fun a w h => ?_
        cases hF
        exact wp_ret (ret_okR tok h rfl (by kernel_rfl)).1
       ·refine wp_skip ?_
        refine wp_seq ?_
        refine zs [1,2,6,9,11,74] h an fun a w h => ?_
        refine zi h hF (fun hF => ?_) (fun hF => ?_)
        ·refine zs [4] h an fun a w h => ?_
         cases hF
         exact wp_ret (ret_okR tok h rfl (by kernel_rfl)).1
        ·refine wp_skip ?_
         obtain ⟨r19,hr26,hF⟩:=of_bind hF
         obtain ⟨r20,hr27,hF⟩:=of_bind hF
         obtain ⟨r21,hr28,hF⟩:=of_bind hF
         refine zc (orcL [(76,[⟨sh15,r19⟩]),(78,[⟨sh18,r20⟩]),(79,[⟨sh35,r21⟩])]) [6,9,11,13] h (ac (c52 k x0 r19 hr26) (ac (c53 k x1 r20 hr27) (ac (c54 k r19 r20 h112 r21 hr28) an))) fun a w h => ?_
         refine wp_seq ?_
         obtain ⟨r22,hr25,hF⟩:=of_bind hF
         refine zc (orcL [(82,[⟨.bool,r22⟩])]) [9,11,83] h (ac (c55 k r21 r5 r22 hr25) an) fun a w h => ?_
         refine zi h hF (fun hF => ?_) (fun hF => ?_)
         ·refine zs [4] h an fun a w h => ?_
          cases hF
          exact wp_ret (ret_okR tok h rfl (by kernel_rfl)).1
         ·refine wp_skip ?_
          refine zs [9,11,12] h an fun a w h => ?_
          obtain ⟨r23,hr24,hF⟩:=of_bind hF
          refine zc (orcL [(86,[⟨iS,r23⟩])]) [11,12] h (ac (c61 k r17.2 (1:Int) r23 hr24) an) fun a w h => ?_
          refine wp_seq ?_
          refine zs [11,12,88] h an fun a w h => ?_
          refine zi h hF (fun hF => ?_) (fun hF => ?_)
          ·refine zs [4] h an fun a w h => ?_
           cases hF
           exact wp_ret (ret_okR tok h rfl (by kernel_rfl)).1
          ·refine wp_skip ?_
           refine wp_seq ?_
           refine zs [91] h an fun a w h => ?_
           refine zi h hF (fun hF => ?_) (fun hF => ?_)
           ·refine zs [4] h an fun a w h => ?_
            cases hF
            exact wp_ret (ret_okR tok h rfl (by kernel_rfl)).1
           ·refine wp_skip ?_
            refine zs [4] h an fun a w h => ?_
            cases hF
            exact wp_ret (ret_okR tok h rfl (by kernel_rfl)).1
end Go.Proofs.Ytnpaokckkbhdjaa.V
