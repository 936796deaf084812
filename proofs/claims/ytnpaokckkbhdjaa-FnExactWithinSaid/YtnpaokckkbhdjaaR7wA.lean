/-
  THE CONTRACTS OF SOME FUNCTIONS OF THIS SEAT, PRINTED BY A PROGRAM OF THIS PROJECT (wip/gen/vgen.py).
-/
import Derived.Test.YtnpaokckkbhdjaaProg
import Derived.Test.YtnpaokckkbhdjaaVmW
import Derived.Test.YtnpaokckkbhdjaaVmSr
import Derived.KernelRfl
import Derived.Test.YtnpaokckkbhdjaaSoQ
set_option linter.unusedVariables false
open Go Go.Vm Go.Proofs
namespace Go.Proofs.Ytnpaokckkbhdjaa.V
set_option maxRecDepth 100000
abbrev zR:Int × (Int × (Int × (Int × (Int × ByteArray)))):=((0:Int),((0:Int),((0:Int),((0:Int),((0:Int),(⟨#[]⟩:ByteArray))))))
abbrev tG:=((List (Int × (Int × Int))) × ((List (Int × (Int × (Int × (Int × (Int × ByteArray)))))) × (List (Int × Int))))
abbrev tN:=(((List (Int × (Int × Int))) × ((List (Int × (Int × (Int × (Int × (Int × ByteArray)))))) × (List (Int × Int)))) × ((List (List Int)) × ((List (List Int)) × (Option (List ((Int × Int) × Bool))))))
abbrev gD {α:Type} (l:List α) (i:Nat) (d:α):α:=List.getD l i d
abbrev tZ (n:Int):Nat:=Int.toNat n
abbrev iO:Int:=0
abbrev lO:List Int:=[]
theorem nw {p:Prop}:([]:List Nat)=[]∨p:=.inl rfl
abbrev o0:=orcL []
theorem ac {p:Prop} {l:List Prop} (h:p) (t:AllP l):AllP (p :: l):=AllP.cons h t
theorem an:AllP []:=AllP.nil
abbrev sh0:Sh:=(.sl false 214 (.st (.pair (.int .i64) (.st (.pair (.int .i64) (.int .i64))))))
abbrev sh1:Sh:=(.st (.pair (.int .i64) (.pair (.int .i64) (.pair (.int .i64) (.pair (.int .i64) (.pair (.int .i64) .str))))))
abbrev sh2:Sh:=(.sl false 207 (.st (.pair (.int .i64) (.pair (.int .i64) (.pair (.int .i64) (.pair (.int .i64) (.pair (.int .i64) .str)))))))
abbrev sh3:Sh:=(.sl false 217 (.st (.pair (.int .i64) (.int .i64))))
abbrev sh4:Sh:=(.st (.pair (.sl false 214 (.st (.pair (.int .i64) (.st (.pair (.int .i64) (.int .i64)))))) (.pair (.sl false 207 (.st (.pair (.int .i64) (.pair (.int .i64) (.pair (.int .i64) (.pair (.int .i64) (.pair (.int .i64) .str))))))) (.sl false 217 (.st (.pair (.int .i64) (.int .i64)))))))
abbrev sh5:Sh:=(.st (.pair (.int .i64) (.int .i64)))
abbrev sh6:Sh:=(.st (.pair (.int .i64) (.st (.pair (.int .i64) (.int .i64)))))
abbrev sh7:Sh:=(.sl true 181 (.st (.pair (.int .i64) (.st (.pair (.int .i64) (.int .i64))))))
abbrev sh8:Sh:=(.sl true 171 (.st (.pair (.int .i64) (.pair (.int .i64) (.pair (.int .i64) (.pair (.int .i64) (.pair (.int .i64) .str)))))))
abbrev sh9:Sh:=(.sl true 174 (.st (.pair (.int .i64) (.int .i64))))
abbrev sh10:Sh:=(.st (.pair (.sl true 181 (.st (.pair (.int .i64) (.st (.pair (.int .i64) (.int .i64)))))) (.pair (.sl true 171 (.st (.pair (.int .i64) (.pair (.int .i64) (.pair (.int .i64) (.pair (.int .i64) (.pair (.int .i64) .str))))))) (.sl true 174 (.st (.pair (.int .i64) (.int .i64)))))))
abbrev sh11:Sh:=(.pt true 71 (.st (.pair (.sl false 181 (.st (.pair (.int .i64) (.st (.pair (.int .i64) (.int .i64)))))) (.pair (.sl false 171 (.st (.pair (.int .i64) (.pair (.int .i64) (.pair (.int .i64) (.pair (.int .i64) (.pair (.int .i64) .str))))))) (.sl false 174 (.st (.pair (.int .i64) (.int .i64))))))))
abbrev sh12:Sh:=(.st (.pair (.sl false 181 (.st (.pair (.int .i64) (.st (.pair (.int .i64) (.int .i64)))))) (.pair (.sl false 171 (.st (.pair (.int .i64) (.pair (.int .i64) (.pair (.int .i64) (.pair (.int .i64) (.pair (.int .i64) .str))))))) (.sl false 174 (.st (.pair (.int .i64) (.int .i64)))))))
abbrev sh13:Sh:=(.sl true 23 (.sl true 2 (.int .i64)))
abbrev sh14:Sh:=(.pt true 174 (.st (.pair (.int .i64) (.int .i64))))
abbrev sh15:Sh:=(.sl true 128 (.st (.pair (.int .i64) (.int .i64))))
abbrev sh16:Sh:=(.sl false 181 (.st (.pair (.int .i64) (.st (.pair (.int .i64) (.int .i64))))))
abbrev sh17:Sh:=(.sl false 171 (.st (.pair (.int .i64) (.pair (.int .i64) (.pair (.int .i64) (.pair (.int .i64) (.pair (.int .i64) .str)))))))
abbrev sh18:Sh:=(.sl false 174 (.st (.pair (.int .i64) (.int .i64))))
abbrev sh19:Sh:=(.pt true 219 (.st (.pair (.st (.pair (.sl false 181 (.st (.pair (.int .i64) (.st (.pair (.int .i64) (.int .i64)))))) (.pair (.sl false 171 (.st (.pair (.int .i64) (.pair (.int .i64) (.pair (.int .i64) (.pair (.int .i64) (.pair (.int .i64) .str))))))) (.sl false 174 (.st (.pair (.int .i64) (.int .i64))))))) (.pair (.sl true 23 (.sl true 2 (.int .i64))) (.pair (.sl true 23 (.sl true 2 (.int .i64))) (.mp true (.st (.pair (.int .i64) (.int .i64))) .bool))))))
abbrev sh20:Sh:=(.pt false 0 (.st (.pair (.st (.pair (.sl false 181 (.st (.pair (.int .i64) (.st (.pair (.int .i64) (.int .i64)))))) (.pair (.sl false 171 (.st (.pair (.int .i64) (.pair (.int .i64) (.pair (.int .i64) (.pair (.int .i64) (.pair (.int .i64) .str))))))) (.sl false 174 (.st (.pair (.int .i64) (.int .i64))))))) (.pair (.sl false 23 (.sl false 2 (.int .i64))) (.pair (.sl false 23 (.sl false 2 (.int .i64))) (.mp false (.st (.pair (.int .i64) (.int .i64))) .bool))))))
abbrev sh21:Sh:=(.st (.pair (.int .i64) (.pair (.int .i64) (.int .i64))))
abbrev sh22:Sh:=(.pt true 260 (.st (.pair (.sl true 263 (.st (.pair (.int .i64) (.pair (.int .i64) (.int .i64))))) .unit)))
abbrev sh23:Sh:=(.pt true 263 (.st (.pair (.int .i64) (.pair (.int .i64) (.int .i64)))))
abbrev sh24:Sh:=(.pt true 171 (.st (.pair (.int .i64) (.pair (.int .i64) (.pair (.int .i64) (.pair (.int .i64) (.pair (.int .i64) .str)))))))
abbrev sh25:Sh:=(.pt true 65 (.sl true 128 (.st (.pair (.int .i64) (.int .i64)))))
abbrev sh26:Sh:=(.pt false 0 (.sl false 128 (.st (.pair (.int .i64) (.int .i64)))))
abbrev sh27:Sh:=(.sl false 128 (.st (.pair (.int .i64) (.int .i64))))
def tbl:Tbl:=[⟨2,.int .i64,1,8,(.int .i64)⟩,
 ⟨3,.int .i64,1,8,(.int .i64)⟩,
 ⟨4,.bool,1,1,.bool⟩,
 ⟨5,.int .u8,1,1,(.int .u8)⟩,
 ⟨9,.string,1,16,.str⟩,
 ⟨23,.slice 2,1,24,(.sl true 2 (.int .i64))⟩,
 ⟨36,.slice 23,1,24,(.sl true 23 (.sl true 2 (.int .i64)))⟩,
 ⟨45,.slice 5,1,24,(.sl true 5 (.int .u8))⟩,
 ⟨52,.struct [(2,0),(2,1)],2,16,(.st (.pair (.int .i64) (.int .i64)))⟩,
 ⟨59,.slice 214,1,24,(.sl true 214 (.st (.pair (.int .i64) (.st (.pair (.int .i64) (.int .i64))))))⟩,
 ⟨60,.slice 207,1,24,(.sl true 207 (.st (.pair (.int .i64) (.pair (.int .i64) (.pair (.int .i64) (.pair (.int .i64) (.pair (.int .i64) .str)))))))⟩,
 ⟨61,.slice 217,1,24,(.sl true 217 (.st (.pair (.int .i64) (.int .i64))))⟩,
 ⟨63,.struct [(59,0),(60,1),(61,2)],3,72,(.st (.pair (.sl true 214 (.st (.pair (.int .i64) (.st (.pair (.int .i64) (.int .i64)))))) (.pair (.sl true 207 (.st (.pair (.int .i64) (.pair (.int .i64) (.pair (.int .i64) (.pair (.int .i64) (.pair (.int .i64) .str))))))) (.sl true 217 (.st (.pair (.int .i64) (.int .i64)))))))⟩,
 ⟨65,.slice 128,1,24,(.sl true 128 (.st (.pair (.int .i64) (.int .i64))))⟩,
 ⟨67,.slice 181,1,24,(.sl true 181 (.st (.pair (.int .i64) (.st (.pair (.int .i64) (.int .i64))))))⟩,
 ⟨68,.slice 171,1,24,(.sl true 171 (.st (.pair (.int .i64) (.pair (.int .i64) (.pair (.int .i64) (.pair (.int .i64) (.pair (.int .i64) .str)))))))⟩,
 ⟨69,.slice 174,1,24,(.sl true 174 (.st (.pair (.int .i64) (.int .i64))))⟩,
 ⟨71,.struct [(67,0),(68,1),(69,2)],3,72,(.st (.pair (.sl true 181 (.st (.pair (.int .i64) (.st (.pair (.int .i64) (.int .i64)))))) (.pair (.sl true 171 (.st (.pair (.int .i64) (.pair (.int .i64) (.pair (.int .i64) (.pair (.int .i64) (.pair (.int .i64) .str))))))) (.sl true 174 (.st (.pair (.int .i64) (.int .i64)))))))⟩,
 ⟨108,.struct [(2,0),(2,1)],2,16,(.st (.pair (.int .i64) (.int .i64)))⟩,
 ⟨128,.struct [(2,0),(2,1)],2,16,(.st (.pair (.int .i64) (.int .i64)))⟩,
 ⟨132,.ptr 219,1,8,(.pt true 219 (.st (.pair (.st (.pair (.sl true 181 (.st (.pair (.int .i64) (.st (.pair (.int .i64) (.int .i64)))))) (.pair (.sl true 171 (.st (.pair (.int .i64) (.pair (.int .i64) (.pair (.int .i64) (.pair (.int .i64) (.pair (.int .i64) .str))))))) (.sl true 174 (.st (.pair (.int .i64) (.int .i64))))))) (.pair (.sl true 23 (.sl true 2 (.int .i64))) (.pair (.sl true 23 (.sl true 2 (.int .i64))) (.mp true (.st (.pair (.int .i64) (.int .i64))) .bool))))))⟩,
 ⟨171,.struct [(2,0),(2,1),(2,2),(2,3),(2,4),(9,5)],6,56,(.st (.pair (.int .i64) (.pair (.int .i64) (.pair (.int .i64) (.pair (.int .i64) (.pair (.int .i64) .str))))))⟩,
 ⟨174,.struct [(2,0),(2,1)],2,16,(.st (.pair (.int .i64) (.int .i64)))⟩,
 ⟨175,.map 174 4,1,8,(.mp true (.st (.pair (.int .i64) (.int .i64))) .bool)⟩,
 ⟨181,.struct [(2,0),(52,1)],3,24,(.st (.pair (.int .i64) (.st (.pair (.int .i64) (.int .i64)))))⟩,
 ⟨207,.struct [(2,0),(2,1),(2,2),(2,3),(2,4),(9,5)],6,56,(.st (.pair (.int .i64) (.pair (.int .i64) (.pair (.int .i64) (.pair (.int .i64) (.pair (.int .i64) .str))))))⟩,
 ⟨209,.slice 4,1,24,(.sl true 4 .bool)⟩,
 ⟨214,.struct [(2,0),(108,1)],3,24,(.st (.pair (.int .i64) (.st (.pair (.int .i64) (.int .i64)))))⟩,
 ⟨217,.struct [(2,0),(2,1)],2,16,(.st (.pair (.int .i64) (.int .i64)))⟩,
 ⟨219,.struct [(71,0),(36,3),(36,4),(175,5)],6,128,(.st (.pair (.st (.pair (.sl true 181 (.st (.pair (.int .i64) (.st (.pair (.int .i64) (.int .i64)))))) (.pair (.sl true 171 (.st (.pair (.int .i64) (.pair (.int .i64) (.pair (.int .i64) (.pair (.int .i64) (.pair (.int .i64) .str))))))) (.sl true 174 (.st (.pair (.int .i64) (.int .i64))))))) (.pair (.sl true 23 (.sl true 2 (.int .i64))) (.pair (.sl true 23 (.sl true 2 (.int .i64))) (.mp true (.st (.pair (.int .i64) (.int .i64))) .bool)))))⟩,
 ⟨257,.ptr 260,1,8,(.pt true 260 (.st (.pair (.sl true 263 (.st (.pair (.int .i64) (.pair (.int .i64) (.int .i64))))) .unit)))⟩,
 ⟨258,.slice 263,1,24,(.sl true 263 (.st (.pair (.int .i64) (.pair (.int .i64) (.int .i64)))))⟩,
 ⟨260,.struct [(258,0)],1,24,(.st (.pair (.sl true 263 (.st (.pair (.int .i64) (.pair (.int .i64) (.int .i64))))) .unit))⟩,
 ⟨263,.struct [(2,0),(2,1),(2,2)],3,24,(.st (.pair (.int .i64) (.pair (.int .i64) (.int .i64))))⟩]
theorem tok:TOk Try.prog tbl:=by unfold TOk; kernel_rfl
abbrev iS:Sh:=.int .i64
section
variable {w0:World} {Wr Zi:Fp} {N:Fr} {S S':SS} {a:Act} {w:World} {Q:Exit→Act→World→Prop} {id:Nat} {ops:Array Oper} {rest:Code} {c:List Prop}
theorem zc (orc:Nat→List TV) (l:List Nat) (h:Rel w0 Wr Zi N S a w) (hc:AllP c) (hr:∀ a w,Rel w0 Wr Zi N (regS tbl Try.prog N orc [] ops l S) a w→rest.wp Try.prog Q a w) (e:regC tbl Try.prog N orc [] ops l S=c:=by kernel_rfl):((Code.region id ops false).seq rest).wp Try.prog Q a w:=wp_reg_seq tok nw h e hc hr
theorem zd (orc:Nat→List TV) (l:List Nat) (h:Rel w0 Wr Zi N S a w) (hc:AllP c) (hr:∀ a w,Rel w0 Wr Zi N (regS tbl Try.prog N orc [] ops l S) a w→Q .normal a w) (e:regC tbl Try.prog N orc [] ops l S=c:=by kernel_rfl):(Code.region id ops false).wp Try.prog Q a w:=wp_reg tok nw h e hc hr
theorem zs (l:List Nat) (h:Rel w0 Wr Zi N S a w) (hc:AllP c) (hr:∀ a w,Rel w0 Wr Zi N (regS tbl Try.prog N o0 [] ops l S) a w→rest.wp Try.prog Q a w) (e:regC tbl Try.prog N o0 [] ops l S=c:=by kernel_rfl):((Code.region id ops false).seq rest).wp Try.prog Q a w:=wp_reg_seq tok nw h e hc hr
theorem zt (l:List Nat) (h:Rel w0 Wr Zi N S a w) (hc:AllP c) (hr:∀ a w,Rel w0 Wr Zi N (regS tbl Try.prog N o0 [] ops l S) a w→Q .normal a w) (e:regC tbl Try.prog N o0 [] ops l S=c:=by kernel_rfl):(Code.region id ops false).wp Try.prog Q a w:=wp_reg tok nw h e hc hr
theorem ar (h:Rel w0 Wr Zi N S a w) (l:List Nat) (e:arr [] l S=some S':=by kernel_rfl):Rel w0 Wr Zi N S' a w:=h.arrive nw e
theorem zi {α:Type} {t:Nat} {x y:Code} {b:Bool} {X Y:α} {r:α} (h:Rel w0 Wr Zi N S a w) (hF:(if b=true then X else Y)=r) (h1:X=r→x.wp Try.prog Q a w) (h2:Y=r→y.wp Try.prog Q a w) (hb:boolAt S t=some b:=by kernel_rfl):(Code.cond (.tmp t) x y).wp Try.prog Q a w:=wp_if h hb (fun hb => h1 (of_t hb hF)) (fun hb => h2 (of_f hb hF))
end
def f83 (k:Nat) (x0:(List (Int × (Int × Int)))) (x1:Int):Option Int:=if (decide (((IntKind.i64.wrap (x1 - (List.length x0:Int))):Int) < (0:Int))) then (some (-1:Int)) else (some (IntKind.i64.wrap (x1 - (List.length x0:Int))))
theorem c83 (k:Nat) (x0:(List (Int × (Int × Int)))) (x1:Int) (r:Int) (hF:f83 k x0 x1=some r):PCall Try.prog 83 [⟨sh0,x0⟩,⟨iS,x1⟩] [⟨iS,r⟩]:=by
 refine pcall_intro Try.func83 rfl rfl (Nat.le_of_ble_eq_true rfl) ?_
 intro w0 Zi a w h
 rw [f83] at hF
 refine zs [0,1] h an fun a w h => ?_
 refine zs [1] h an fun a w h => ?_
 refine wp_seq ?_
 refine zs [1,10] h an fun a w h => ?_
 refine zi h hF (fun hF => ?_) (fun hF => ?_)
 ·refine zs [4] h an fun a w h => ?_
  cases hF
  exact wp_ret (ret_okR tok h rfl (by kernel_rfl)).1
 ·refine wp_skip ?_
  refine zs [4] h an fun a w h => ?_
  cases hF
  exact wp_ret (ret_okR tok h rfl (by kernel_rfl)).1
def f148 (k:Nat) (x0:(Int × (Int × (Int × (Int × (Int × ByteArray)))))) (x1:Int):Option Int:=if (decide (((IntKind.i64.wrap (x1 - (ByteArray.size x0.2.2.2.2.2:Int))):Int) < (0:Int))) then (some (-1:Int)) else (some (IntKind.i64.wrap (x1 - (ByteArray.size x0.2.2.2.2.2:Int))))
theorem c148 (k:Nat) (x0:(Int × (Int × (Int × (Int × (Int × ByteArray)))))) (x1:Int) (r:Int) (hF:f148 k x0 x1=some r):PCall Try.prog 148 [⟨sh1,x0⟩,⟨iS,x1⟩] [⟨iS,r⟩]:=by
 refine pcall_intro Try.func148 rfl rfl (Nat.le_of_ble_eq_true rfl) ?_
 intro w0 Zi a w h
 rw [f148] at hF
 refine zs [1,2] h an fun a w h => ?_
 refine zs [1] h an fun a w h => ?_
 refine wp_seq ?_
 refine zs [1,11] h an fun a w h => ?_
 refine zi h hF (fun hF => ?_) (fun hF => ?_)
 ·refine zs [4] h an fun a w h => ?_
  cases hF
  exact wp_ret (ret_okR tok h rfl (by kernel_rfl)).1
 ·refine wp_skip ?_
  refine zs [4] h an fun a w h => ?_
  cases hF
  exact wp_ret (ret_okR tok h rfl (by kernel_rfl)).1
def f84.l28 (k:Nat) (x0:(List (Int × (Int × (Int × (Int × (Int × ByteArray))))))):Nat → (Int × Int)→Option Int
 | 0,_ => none
 | m28+1,(v47,v48) => if (decide (v48 < (List.length x0:Int))) then (if (0≤v48∧v48 < (List.length x0:Int)) then ((f148 k (List.getD x0 (Int.toNat v48) ((0:Int),((0:Int),((0:Int),((0:Int),((0:Int),(⟨#[]⟩:ByteArray))))))) v47).bind fun r52 => (if (decide (r52 < (0:Int))) then (some (-1:Int)) else ((f84.l28 k x0) m28 (r52,(IntKind.i64.wrap (v48 + (1:Int))))))) else none) else (some v47)
def f84 (k:Nat) (x0:(List (Int × (Int × (Int × (Int × (Int × ByteArray))))))) (x1:Int):Option Int:=if (decide (((IntKind.i64.wrap (x1 - (List.length x0:Int))):Int) < (0:Int))) then (some (-1:Int)) else (f84.l28 k x0 k ((IntKind.i64.wrap (x1 - (List.length x0:Int))),(0:Int)))
theorem c84 (k:Nat) (x0:(List (Int × (Int × (Int × (Int × (Int × ByteArray))))))) (x1:Int) (r:Int) (hF:f84 k x0 x1=some r):PCall Try.prog 84 [⟨sh2,x0⟩,⟨iS,x1⟩] [⟨iS,r⟩]:=by
 refine pcall_intro Try.func84 rfl rfl (Nat.le_of_ble_eq_true rfl) ?_
 intro w0 Zi a w h
 rw [f84] at hF
 refine zs [0,1] h an fun a w h => ?_
 refine zs [0,1] h an fun a w h => ?_
 refine wp_seq ?_
 refine zs [0,1,11] h an fun a w h => ?_
 refine zi h hF (fun hF => ?_) (fun hF => ?_)
 ·refine zs [4] h an fun a w h => ?_
  cases hF
  exact wp_ret (ret_okR tok h rfl (by kernel_rfl)).1
 ·refine wp_skip ?_
  refine wp_seq ?_
  refine zs [0,1,5] h an fun a w h => ?_
  refine wp_block ?_
  refine wp_loop_fuel (f84.l28 k x0) (fun ((v47,v48):(Int × Int)) => [(0,.val sh2 x0),(1,.val iS v47),(5,.val iS v48)]) (fun v h => by obtain ⟨v47,v48⟩:=v; rw [f84.l28] at h; cases h) ?_ hF (ar h [0,1,5])
  intro m28 v a w hF h
  obtain ⟨v47,v48⟩:=v
  rw [f84.l28] at hF
  refine wp_seq ?_
  refine zs [0,1,5,15] h an fun a w h => ?_
  refine zi h hF (fun hF => ?_) (fun hF => ?_)
  ·refine wp_skip ?_
   refine wp_seq <| wp_block ?_
   obtain ⟨hc53,hF⟩:=of_if hF
   obtain ⟨r52,hr54,hF⟩:=of_bind hF
   refine zc (orcL [(23,[⟨iS,r52⟩])]) [0,1,5] h (ac hc53 (ac (c148 k (gD x0 (tZ v48) zR) v47 r52 hr54) an)) fun a w h => ?_
   refine zs [0,1,5,25] h an fun a w h => ?_
   refine zi h hF (fun hF => ?_) (fun hF => ?_)
   ·refine zs [4] h an fun a w h => ?_
    cases hF
    exact wp_ret (ret_okR tok h rfl (by kernel_rfl)).1
   ·refine wp_skip ?_
    refine zt [0,1,5] h an fun a w h => ?_
    exact ⟨(r52,(w64 (v48 + (1:Int)))),hF,ar h [0,1,5]⟩
  ·refine wp_exit ?_
   refine zs [4] h an fun a w h => ?_
   cases hF
   exact wp_ret (ret_okR tok h rfl (by kernel_rfl)).1
def f85 (k:Nat) (x0:(List (Int × Int))) (x1:Int):Option Int:=if (decide (((IntKind.i64.wrap (x1 - (List.length x0:Int))):Int) < (0:Int))) then (some (-1:Int)) else (some (IntKind.i64.wrap (x1 - (List.length x0:Int))))
theorem c85 (k:Nat) (x0:(List (Int × Int))) (x1:Int) (r:Int) (hF:f85 k x0 x1=some r):PCall Try.prog 85 [⟨sh3,x0⟩,⟨iS,x1⟩] [⟨iS,r⟩]:=by
 refine pcall_intro Try.func85 rfl rfl (Nat.le_of_ble_eq_true rfl) ?_
 intro w0 Zi a w h
 rw [f85] at hF
 refine zs [0,1] h an fun a w h => ?_
 refine zs [1] h an fun a w h => ?_
 refine wp_seq ?_
 refine zs [1,10] h an fun a w h => ?_
 refine zi h hF (fun hF => ?_) (fun hF => ?_)
 ·refine zs [4] h an fun a w h => ?_
  cases hF
  exact wp_ret (ret_okR tok h rfl (by kernel_rfl)).1
 ·refine wp_skip ?_
  refine zs [4] h an fun a w h => ?_
  cases hF
  exact wp_ret (ret_okR tok h rfl (by kernel_rfl)).1
def f40 (k:Nat) (x0:((List (Int × (Int × Int))) × ((List (Int × (Int × (Int × (Int × (Int × ByteArray)))))) × (List (Int × Int))))) (x1:Int):Option Int:=(f83 k x0.1 x1).bind fun r1 => (if (decide (r1 < (0:Int))) then (some (-1:Int)) else ((f84 k x0.2.1 r1).bind fun r2 => (if (decide (r2 < (0:Int))) then (some (-1:Int)) else ((f85 k x0.2.2 r2).bind fun r3 => (if (decide (r3 < (0:Int))) then (some (-1:Int)) else (some r3))))))
theorem c40 (k:Nat) (x0:tG) (x1:Int) (r:Int) (hF:f40 k x0 x1=some r):PCall Try.prog 40 [⟨sh4,x0⟩,⟨iS,x1⟩] [⟨iS,r⟩]:=by
 refine pcall_intro Try.func40 rfl rfl (Nat.le_of_ble_eq_true rfl) ?_
 intro w0 Zi a w h
 rw [f40] at hF
 refine zs [1,2] h an fun a w h => ?_
 obtain ⟨r1,hr6,hF⟩:=of_bind hF
 refine zc (orcL [(8,[⟨iS,r1⟩])]) [1,2] h (ac (c83 k x0.1 x1 r1 hr6) an) fun a w h => ?_
 refine wp_seq ?_
 refine zs [1,2,10] h an fun a w h => ?_
 refine zi h hF (fun hF => ?_) (fun hF => ?_)
 ·refine zs [4] h an fun a w h => ?_
  cases hF
  exact wp_ret (ret_okR tok h rfl (by kernel_rfl)).1
 ·refine wp_skip ?_
  obtain ⟨r2,hr5,hF⟩:=of_bind hF
  refine zc (orcL [(14,[⟨iS,r2⟩])]) [1,2] h (ac (c84 k x0.2.1 r1 r2 hr5) an) fun a w h => ?_
  refine wp_seq ?_
  refine zs [1,2,16] h an fun a w h => ?_
  refine zi h hF (fun hF => ?_) (fun hF => ?_)
  ·refine zs [4] h an fun a w h => ?_
   cases hF
   exact wp_ret (ret_okR tok h rfl (by kernel_rfl)).1
  ·refine wp_skip ?_
   obtain ⟨r3,hr4,hF⟩:=of_bind hF
   refine zc (orcL [(20,[⟨iS,r3⟩])]) [1] h (ac (c85 k x0.2.2 r2 r3 hr4) an) fun a w h => ?_
   refine wp_seq ?_
   refine zs [1,22] h an fun a w h => ?_
   refine zi h hF (fun hF => ?_) (fun hF => ?_)
   ·refine zs [4] h an fun a w h => ?_
    cases hF
    exact wp_ret (ret_okR tok h rfl (by kernel_rfl)).1
   ·refine wp_skip ?_
    refine zs [4] h an fun a w h => ?_
    cases hF
    exact wp_ret (ret_okR tok h rfl (by kernel_rfl)).1
def f137 (k:Nat) (x0:(Int × Int)):Option (Int × Int):=some (x0.1,x0.2)
theorem c137 (k:Nat) (x0:(Int × Int)) (r:(Int × Int)) (hF:f137 k x0=some r):PCall Try.prog 137 [⟨sh5,x0⟩] [⟨sh5,r⟩]:=by
 refine pcall_intro Try.func137 rfl rfl (Nat.le_of_ble_eq_true rfl) ?_
 intro w0 Zi a w h
 rw [f137] at hF
 refine zs [1,2] h an fun a w h => ?_
 refine zs [1,2,3] h an fun a w h => ?_
 refine zs [1,2,3] h an fun a w h => ?_
 refine zs [2,3] h an fun a w h => ?_
 refine zs [2] h an fun a w h => ?_
 cases hF
 exact wp_ret (ret_okR tok h rfl (by kernel_rfl)).1
def f154 (k:Nat) (x0:(Int × (Int × Int))):Option (Int × (Int × Int)):=(f137 k x0.2).bind fun r1 => (some (x0.1,r1))
theorem c154 (k:Nat) (x0:(Int × (Int × Int))) (r:(Int × (Int × Int))) (hF:f154 k x0=some r):PCall Try.prog 154 [⟨sh6,x0⟩] [⟨sh6,r⟩]:=by
 refine pcall_intro Try.func154 rfl rfl (Nat.le_of_ble_eq_true rfl) ?_
 intro w0 Zi a w h
 rw [f154] at hF
 refine zs [1,2] h an fun a w h => ?_
 refine zs [1,2,3] h an fun a w h => ?_
 refine zs [1,2,3] h an fun a w h => ?_
 obtain ⟨r1,hr2,hF⟩:=of_bind hF
 refine zc (orcL [(9,[⟨sh5,r1⟩])]) [2,3] h (ac (c137 k x0.2 r1 hr2) an) fun a w h => ?_
 refine zs [2] h an fun a w h => ?_
 cases hF
 exact wp_ret (ret_okR tok h rfl (by kernel_rfl)).1
def f89.l34 (k:Nat) (x0:(List (Int × (Int × Int)))):Nat → ((List (Int × (Int × Int))) × Int)→Option (List (Int × (Int × Int)))
 | 0,_ => none
 | m34+1,(v57,v58) => if (decide (v58 < (List.length x0:Int))) then (if (0≤v58∧v58 < (List.length x0:Int)) then ((f154 k (List.getD x0 (Int.toNat v58) ((0:Int),((0:Int),(0:Int))))).bind fun r63 => (if (0≤v58∧v58 < (List.length v57:Int)) then ((f89.l34 k x0) m34 ((List.set v57 (Int.toNat v58) r63),(IntKind.i64.wrap (v58 + (1:Int))))) else none)) else none) else (some v57)
def f89 (k:Nat) (x0:(List (Int × (Int × Int)))):Option (List (Int × (Int × Int))):=if (0 ≤ (List.length x0:Int)∧Int.toNat (List.length x0:Int)*24≤140737488355328) then (f89.l34 k x0 k ((List.replicate (Int.toNat (List.length x0:Int)) ((0:Int),((0:Int),(0:Int)))),(0:Int))) else none
theorem c89 (k:Nat) (x0:(List (Int × (Int × Int)))) (r:(List (Int × (Int × Int)))) (hF:f89 k x0=some r):PCall Try.prog 89 [⟨sh0,x0⟩] [⟨sh7,r⟩]:=by
 refine pcall_intro Try.func89 rfl rfl (Nat.le_of_ble_eq_true rfl) ?_
 intro w0 Zi a w h
 rw [f89] at hF
 refine zs [0] h an fun a w h => ?_
 obtain ⟨hc67,hF⟩:=of_if hF
 refine zs [0,3] h (ac hc67 an) fun a w h => ?_
 refine wp_seq ?_
 refine zs [0,3,4] h an fun a w h => ?_
 refine wp_block ?_
 refine wp_loop_fuel (f89.l34 k x0) (fun ((v57,v58):((List (Int × (Int × Int))) × Int)) => [(0,.val sh0 x0),(3,.val sh7 v57),(4,.val iS v58)]) (fun v h => by obtain ⟨v57,v58⟩:=v; rw [f89.l34] at h; cases h) ?_ hF (ar h [0,3,4])
 intro m34 v a w hF h
 obtain ⟨v57,v58⟩:=v
 rw [f89.l34] at hF
 refine wp_seq ?_
 refine zs [0,3,4,11] h an fun a w h => ?_
 refine zi h hF (fun hF => ?_) (fun hF => ?_)
 ·refine wp_skip ?_
  refine wp_seq <| wp_block ?_
  obtain ⟨hc64,hF⟩:=of_if hF
  obtain ⟨r63,hr65,hF⟩:=of_bind hF
  obtain ⟨hc66,hF⟩:=of_if hF
  refine zd (orcL [(20,[⟨sh6,r63⟩])]) [0,3,4] h (ac hc64 (ac (c154 k (gD x0 (tZ v58) (iO,(iO,iO))) r63 hr65) (ac hc66 an))) fun a w h => ?_
  refine zt [0,3,4] h an fun a w h => ?_
  exact ⟨((List.set v57 (tZ v58) r63),(w64 (v58 + (1:Int)))),hF,ar h [0,3,4]⟩
 ·refine wp_exit ?_
  refine zs [2,3] h an fun a w h => ?_
  cases hF
  exact wp_ret (ret_okR tok h rfl (by kernel_rfl)).1
def f155 (k:Nat) (x0:(Int × (Int × (Int × (Int × (Int × ByteArray)))))):Option (Int × (Int × (Int × (Int × (Int × ByteArray))))):=some (x0.1,(x0.2.1,(x0.2.2.1,(x0.2.2.2.1,(x0.2.2.2.2.1,x0.2.2.2.2.2)))))
theorem c155 (k:Nat) (x0:(Int × (Int × (Int × (Int × (Int × ByteArray)))))) (r:(Int × (Int × (Int × (Int × (Int × ByteArray)))))) (hF:f155 k x0=some r):PCall Try.prog 155 [⟨sh1,x0⟩] [⟨sh1,r⟩]:=by
 refine pcall_intro Try.func155 rfl rfl (Nat.le_of_ble_eq_true rfl) ?_
 intro w0 Zi a w h
 rw [f155] at hF
 refine zs [1,2] h an fun a w h => ?_
 refine zs [1,2,3] h an fun a w h => ?_
 refine zs [1,2,3] h an fun a w h => ?_
 refine zs [1,2,3] h an fun a w h => ?_
 refine zs [1,2,3] h an fun a w h => ?_
 refine zs [1,2,3] h an fun a w h => ?_
 refine zs [1,2,3] h an fun a w h => ?_
 refine zs [2,3] h an fun a w h => ?_
 refine zs [2] h an fun a w h => ?_
 cases hF
 exact wp_ret (ret_okR tok h rfl (by kernel_rfl)).1
def f90.l34 (k:Nat) (x0:(List (Int × (Int × (Int × (Int × (Int × ByteArray))))))):Nat → ((List (Int × (Int × (Int × (Int × (Int × ByteArray)))))) × Int)→Option (List (Int × (Int × (Int × (Int × (Int × ByteArray))))))
 | 0,_ => none
 | m34+1,(v57,v58) => if (decide (v58 < (List.length x0:Int))) then (if (0≤v58∧v58 < (List.length x0:Int)) then ((f155 k (List.getD x0 (Int.toNat v58) ((0:Int),((0:Int),((0:Int),((0:Int),((0:Int),(⟨#[]⟩:ByteArray)))))))).bind fun r63 => (if (0≤v58∧v58 < (List.length v57:Int)) then ((f90.l34 k x0) m34 ((List.set v57 (Int.toNat v58) r63),(IntKind.i64.wrap (v58 + (1:Int))))) else none)) else none) else (some v57)
def f90 (k:Nat) (x0:(List (Int × (Int × (Int × (Int × (Int × ByteArray))))))):Option (List (Int × (Int × (Int × (Int × (Int × ByteArray)))))):=if (0 ≤ (List.length x0:Int)∧Int.toNat (List.length x0:Int)*56≤140737488355328) then (f90.l34 k x0 k ((List.replicate (Int.toNat (List.length x0:Int)) ((0:Int),((0:Int),((0:Int),((0:Int),((0:Int),(⟨#[]⟩:ByteArray))))))),(0:Int))) else none
theorem c90 (k:Nat) (x0:(List (Int × (Int × (Int × (Int × (Int × ByteArray))))))) (r:(List (Int × (Int × (Int × (Int × (Int × ByteArray))))))) (hF:f90 k x0=some r):PCall Try.prog 90 [⟨sh2,x0⟩] [⟨sh8,r⟩]:=by
 refine pcall_intro Try.func90 rfl rfl (Nat.le_of_ble_eq_true rfl) ?_
 intro w0 Zi a w h
 rw [f90] at hF
 refine zs [0] h an fun a w h => ?_
 obtain ⟨hc67,hF⟩:=of_if hF
 refine zs [0,3] h (ac hc67 an) fun a w h => ?_
 refine wp_seq ?_
 refine zs [0,3,4] h an fun a w h => ?_
 refine wp_block ?_
 refine wp_loop_fuel (f90.l34 k x0) (fun ((v57,v58):((List (Int × (Int × (Int × (Int × (Int × ByteArray)))))) × Int)) => [(0,.val sh2 x0),(3,.val sh8 v57),(4,.val iS v58)]) (fun v h => by obtain ⟨v57,v58⟩:=v; rw [f90.l34] at h; cases h) ?_ hF (ar h [0,3,4])
 intro m34 v a w hF h
 obtain ⟨v57,v58⟩:=v
 rw [f90.l34] at hF
 refine wp_seq ?_
 refine zs [0,3,4,11] h an fun a w h => ?_
 refine zi h hF (fun hF => ?_) (fun hF => ?_)
 ·refine wp_skip ?_
  refine wp_seq <| wp_block ?_
  obtain ⟨hc64,hF⟩:=of_if hF
  obtain ⟨r63,hr65,hF⟩:=of_bind hF
  obtain ⟨hc66,hF⟩:=of_if hF
  refine zd (orcL [(20,[⟨sh1,r63⟩])]) [0,3,4] h (ac hc64 (ac (c155 k (gD x0 (tZ v58) zR) r63 hr65) (ac hc66 an))) fun a w h => ?_
  refine zt [0,3,4] h an fun a w h => ?_
  exact ⟨((List.set v57 (tZ v58) r63),(w64 (v58 + (1:Int)))),hF,ar h [0,3,4]⟩
 ·refine wp_exit ?_
  refine zs [2,3] h an fun a w h => ?_
  cases hF
  exact wp_ret (ret_okR tok h rfl (by kernel_rfl)).1
def f156 (k:Nat) (x0:(Int × Int)):Option (Int × Int):=some (x0.1,x0.2)
theorem c156 (k:Nat) (x0:(Int × Int)) (r:(Int × Int)) (hF:f156 k x0=some r):PCall Try.prog 156 [⟨sh5,x0⟩] [⟨sh5,r⟩]:=by
 refine pcall_intro Try.func156 rfl rfl (Nat.le_of_ble_eq_true rfl) ?_
 intro w0 Zi a w h
 rw [f156] at hF
 refine zs [1,2] h an fun a w h => ?_
 refine zs [1,2,3] h an fun a w h => ?_
 refine zs [1,2,3] h an fun a w h => ?_
 refine zs [2,3] h an fun a w h => ?_
 refine zs [2] h an fun a w h => ?_
 cases hF
 exact wp_ret (ret_okR tok h rfl (by kernel_rfl)).1
def f91.l34 (k:Nat) (x0:(List (Int × Int))):Nat → ((List (Int × Int)) × Int)→Option (List (Int × Int))
 | 0,_ => none
 | m34+1,(v57,v58) => if (decide (v58 < (List.length x0:Int))) then (if (0≤v58∧v58 < (List.length x0:Int)) then ((f156 k (List.getD x0 (Int.toNat v58) ((0:Int),(0:Int)))).bind fun r63 => (if (0≤v58∧v58 < (List.length v57:Int)) then ((f91.l34 k x0) m34 ((List.set v57 (Int.toNat v58) r63),(IntKind.i64.wrap (v58 + (1:Int))))) else none)) else none) else (some v57)
def f91 (k:Nat) (x0:(List (Int × Int))):Option (List (Int × Int)):=if (0 ≤ (List.length x0:Int)∧Int.toNat (List.length x0:Int)*16≤140737488355328) then (f91.l34 k x0 k ((List.replicate (Int.toNat (List.length x0:Int)) ((0:Int),(0:Int))),(0:Int))) else none
theorem c91 (k:Nat) (x0:(List (Int × Int))) (r:(List (Int × Int))) (hF:f91 k x0=some r):PCall Try.prog 91 [⟨sh3,x0⟩] [⟨sh9,r⟩]:=by
 refine pcall_intro Try.func91 rfl rfl (Nat.le_of_ble_eq_true rfl) ?_
 intro w0 Zi a w h
 rw [f91] at hF
 refine zs [0] h an fun a w h => ?_
 obtain ⟨hc67,hF⟩:=of_if hF
 refine zs [0,3] h (ac hc67 an) fun a w h => ?_
 refine wp_seq ?_
 refine zs [0,3,4] h an fun a w h => ?_
 refine wp_block ?_
 refine wp_loop_fuel (f91.l34 k x0) (fun ((v57,v58):((List (Int × Int)) × Int)) => [(0,.val sh3 x0),(3,.val sh9 v57),(4,.val iS v58)]) (fun v h => by obtain ⟨v57,v58⟩:=v; rw [f91.l34] at h; cases h) ?_ hF (ar h [0,3,4])
 intro m34 v a w hF h
 obtain ⟨v57,v58⟩:=v
 rw [f91.l34] at hF
 refine wp_seq ?_
 refine zs [0,3,4,11] h an fun a w h => ?_
 refine zi h hF (fun hF => ?_) (fun hF => ?_)
 ·refine wp_skip ?_
  refine wp_seq <| wp_block ?_
  obtain ⟨hc64,hF⟩:=of_if hF
  obtain ⟨r63,hr65,hF⟩:=of_bind hF
  obtain ⟨hc66,hF⟩:=of_if hF
  refine zd (orcL [(20,[⟨sh5,r63⟩])]) [0,3,4] h (ac hc64 (ac (c156 k (gD x0 (tZ v58) (iO,iO)) r63 hr65) (ac hc66 an))) fun a w h => ?_
  refine zt [0,3,4] h an fun a w h => ?_
  exact ⟨((List.set v57 (tZ v58) r63),(w64 (v58 + (1:Int)))),hF,ar h [0,3,4]⟩
 ·refine wp_exit ?_
  refine zs [2,3] h an fun a w h => ?_
  cases hF
  exact wp_ret (ret_okR tok h rfl (by kernel_rfl)).1
def f42 (k:Nat) (x0:((List (Int × (Int × Int))) × ((List (Int × (Int × (Int × (Int × (Int × ByteArray)))))) × (List (Int × Int))))):Option ((List (Int × (Int × Int))) × ((List (Int × (Int × (Int × (Int × (Int × ByteArray)))))) × (List (Int × Int)))):=(f89 k x0.1).bind fun r1 => ((f90 k x0.2.1).bind fun r2 => ((f91 k x0.2.2).bind fun r3 => (some (r1,(r2,r3)))))
theorem c42 (k:Nat) (x0:tG) (r:tG) (hF:f42 k x0=some r):PCall Try.prog 42 [⟨sh4,x0⟩] [⟨sh10,r⟩]:=by
 refine pcall_intro Try.func42 rfl rfl (Nat.le_of_ble_eq_true rfl) ?_
 intro w0 Zi a w h
 rw [f42] at hF
 refine zs [1,2] h an fun a w h => ?_
 refine zs [1,2,3] h an fun a w h => ?_
 obtain ⟨r1,hr6,hF⟩:=of_bind hF
 refine zc (orcL [(6,[⟨sh7,r1⟩])]) [1,2,3] h (ac (c89 k x0.1 r1 hr6) an) fun a w h => ?_
 obtain ⟨r2,hr5,hF⟩:=of_bind hF
 refine zc (orcL [(10,[⟨sh8,r2⟩])]) [1,2,3] h (ac (c90 k x0.2.1 r2 hr5) an) fun a w h => ?_
 obtain ⟨r3,hr4,hF⟩:=of_bind hF
 refine zc (orcL [(14,[⟨sh9,r3⟩])]) [2,3] h (ac (c91 k x0.2.2 r3 hr4) an) fun a w h => ?_
 refine zs [2] h an fun a w h => ?_
 cases hF
 exact wp_ret (ret_okR tok h rfl (by kernel_rfl)).1
def f149 (k:Nat) (x0:Int):Option Bool:=some (bif (decide (x0 ≥ (1:Int))) then (decide (x0 ≤ (1000000000:Int))) else false)
theorem c149 (k:Nat) (x0:Int) (r:Bool) (hF:f149 k x0=some r):PCall Try.prog 149 [⟨iS,x0⟩] [⟨.bool,r⟩]:=by
 refine pcall_intro Try.func149 rfl rfl (Nat.le_of_ble_eq_true rfl) ?_
 intro w0 Zi a w h
 rw [f149] at hF
 refine zs [0] h an fun a w h => ?_
 refine zs [2] h an fun a w h => ?_
 cases hF
 exact wp_ret (ret_okR tok h rfl (by kernel_rfl)).1
def f150 (k:Nat) (x0:(Int × Int)):Option Bool:=some (bif (bif (bif (decide (x0.1 ≥ (-10000000:Int))) then (decide (x0.1 ≤ (10000000:Int))) else false) then (decide (x0.2 ≥ (-10000000:Int))) else false) then (decide (x0.2 ≤ (10000000:Int))) else false)
theorem c150 (k:Nat) (x0:(Int × Int)) (r:Bool) (hF:f150 k x0=some r):PCall Try.prog 150 [⟨sh5,x0⟩] [⟨.bool,r⟩]:=by
 refine pcall_intro Try.func150 rfl rfl (Nat.le_of_ble_eq_true rfl) ?_
 intro w0 Zi a w h
 rw [f150] at hF
 refine zs [1] h an fun a w h => ?_
 refine zs [2] h an fun a w h => ?_
 cases hF
 exact wp_ret (ret_okR tok h rfl (by kernel_rfl)).1
def f151 (k:Nat) (x0:(Int × Int)) (x1:(Int × Int)):Option Bool:=some (bif (decide (x0.1 < x1.1)) then true else (bif (x0.1 == x1.1) then (decide (x0.2 < x1.2)) else false))
theorem c151 (k:Nat) (x0:(Int × Int)) (x1:(Int × Int)) (r:Bool) (hF:f151 k x0 x1=some r):PCall Try.prog 151 [⟨sh5,x0⟩,⟨sh5,x1⟩] [⟨.bool,r⟩]:=by
 refine pcall_intro Try.func151 rfl rfl (Nat.le_of_ble_eq_true rfl) ?_
 intro w0 Zi a w h
 rw [f151] at hF
 refine zs [2,3] h an fun a w h => ?_
 refine zs [4] h an fun a w h => ?_
 cases hF
 exact wp_ret (ret_okR tok h rfl (by kernel_rfl)).1
def f86.l206 (k:Nat) (x0:((List (Int × (Int × Int))) × ((List (Int × (Int × (Int × (Int × (Int × ByteArray)))))) × (List (Int × Int))))):Nat→Int→Option Bool
 | 0,_ => none
 | m206+1,v242 => if (decide (v242 < (List.length x0.2.2:Int))) then (if (0≤v242∧v242 < (List.length x0.2.2:Int)) then (if (((bif (bif (bif (decide (((List.getD x0.2.2 (Int.toNat v242) ((0:Int),(0:Int))).1:Int) < (0:Int))) then true else (decide (((List.getD x0.2.2 (Int.toNat v242) ((0:Int),(0:Int))).1:Int) ≥ (List.length x0.2.1:Int)))) then true else (decide (((List.getD x0.2.2 (Int.toNat v242) ((0:Int),(0:Int))).2:Int) < (0:Int)))) then true else (decide (((List.getD x0.2.2 (Int.toNat v242) ((0:Int),(0:Int))).2:Int) ≥ (List.length x0.2.1:Int))))=false) → (0 ≤ (List.getD x0.2.2 (Int.toNat v242) ((0:Int),(0:Int))).1 ∧ (List.getD x0.2.2 (Int.toNat v242) ((0:Int),(0:Int))).1 < (List.length x0.2.1:Int))) then (if (((bif (bif (bif (decide (((List.getD x0.2.2 (Int.toNat v242) ((0:Int),(0:Int))).1:Int) < (0:Int))) then true else (decide (((List.getD x0.2.2 (Int.toNat v242) ((0:Int),(0:Int))).1:Int) ≥ (List.length x0.2.1:Int)))) then true else (decide (((List.getD x0.2.2 (Int.toNat v242) ((0:Int),(0:Int))).2:Int) < (0:Int)))) then true else (decide (((List.getD x0.2.2 (Int.toNat v242) ((0:Int),(0:Int))).2:Int) ≥ (List.length x0.2.1:Int))))=false) → (0 ≤ (List.getD x0.2.2 (Int.toNat v242) ((0:Int),(0:Int))).2 ∧ (List.getD x0.2.2 (Int.toNat v242) ((0:Int),(0:Int))).2 < (List.length x0.2.1:Int))) then (if ((((bif (bif (bif (bif (decide (((List.getD x0.2.2 (Int.toNat v242) ((0:Int),(0:Int))).1:Int) < (0:Int))) then true else (decide (((List.getD x0.2.2 (Int.toNat v242) ((0:Int),(0:Int))).1:Int) ≥ (List.length x0.2.1:Int)))) then true else (decide (((List.getD x0.2.2 (Int.toNat v242) ((0:Int),(0:Int))).2:Int) < (0:Int)))) then true else (decide (((List.getD x0.2.2 (Int.toNat v242) ((0:Int),(0:Int))).2:Int) ≥ (List.length x0.2.1:Int)))) then true else (((List.getD x0.2.1 (Int.toNat (List.getD x0.2.2 (Int.toNat v242) ((0:Int),(0:Int))).1) ((0:Int),((0:Int),((0:Int),((0:Int),((0:Int),(⟨#[]⟩:ByteArray))))))).2.1:Int) != (List.getD x0.2.1 (Int.toNat (List.getD x0.2.2 (Int.toNat v242) ((0:Int),(0:Int))).2) ((0:Int),((0:Int),((0:Int),((0:Int),((0:Int),(⟨#[]⟩:ByteArray))))))).1))=false) ∧ ((decide (v242 > (0:Int)))=true)) → (0 ≤ (IntKind.i64.wrap (v242 - (1:Int))) ∧ (IntKind.i64.wrap (v242 - (1:Int))) < (List.length x0.2.2:Int))) then ((if (((bif (bif (bif (bif (decide (((List.getD x0.2.2 (Int.toNat v242) ((0:Int),(0:Int))).1:Int) < (0:Int))) then true else (decide (((List.getD x0.2.2 (Int.toNat v242) ((0:Int),(0:Int))).1:Int) ≥ (List.length x0.2.1:Int)))) then true else (decide (((List.getD x0.2.2 (Int.toNat v242) ((0:Int),(0:Int))).2:Int) < (0:Int)))) then true else (decide (((List.getD x0.2.2 (Int.toNat v242) ((0:Int),(0:Int))).2:Int) ≥ (List.length x0.2.1:Int)))) then true else (((List.getD x0.2.1 (Int.toNat (List.getD x0.2.2 (Int.toNat v242) ((0:Int),(0:Int))).1) ((0:Int),((0:Int),((0:Int),((0:Int),((0:Int),(⟨#[]⟩:ByteArray))))))).2.1:Int) != (List.getD x0.2.1 (Int.toNat (List.getD x0.2.2 (Int.toNat v242) ((0:Int),(0:Int))).2) ((0:Int),((0:Int),((0:Int),((0:Int),((0:Int),(⟨#[]⟩:ByteArray))))))).1))=false) ∧ ((decide (v242 > (0:Int)))=true)) then f151 k (List.getD x0.2.2 (Int.toNat (IntKind.i64.wrap (v242 - (1:Int)))) ((0:Int),(0:Int))) (List.getD x0.2.2 (Int.toNat v242) ((0:Int),(0:Int))) else some default).bind fun r251 => ((some ((bif (bif (bif (bif (bif (decide (((List.getD x0.2.2 (Int.toNat v242) ((0:Int),(0:Int))).1:Int) < (0:Int))) then true else (decide (((List.getD x0.2.2 (Int.toNat v242) ((0:Int),(0:Int))).1:Int) ≥ (List.length x0.2.1:Int)))) then true else (decide (((List.getD x0.2.2 (Int.toNat v242) ((0:Int),(0:Int))).2:Int) < (0:Int)))) then true else (decide (((List.getD x0.2.2 (Int.toNat v242) ((0:Int),(0:Int))).2:Int) ≥ (List.length x0.2.1:Int)))) then true else (((List.getD x0.2.1 (Int.toNat (List.getD x0.2.2 (Int.toNat v242) ((0:Int),(0:Int))).1) ((0:Int),((0:Int),((0:Int),((0:Int),((0:Int),(⟨#[]⟩:ByteArray))))))).2.1:Int) != (List.getD x0.2.1 (Int.toNat (List.getD x0.2.2 (Int.toNat v242) ((0:Int),(0:Int))).2) ((0:Int),((0:Int),((0:Int),((0:Int),((0:Int),(⟨#[]⟩:ByteArray))))))).1)) then true else (bif (decide (v242 > (0:Int))) then (!r251) else false)):Bool)).bind fun v252 => (if v252 then (some false) else ((f86.l206 k x0) m206 (IntKind.i64.wrap (v242 + (1:Int))))))) else none) else none) else none) else none) else (some true)
def f86.l118 (k:Nat) (x0:((List (Int × (Int × Int))) × ((List (Int × (Int × (Int × (Int × (Int × ByteArray)))))) × (List (Int × Int))))):Nat→Int→Option Bool
 | 0,_ => none
 | m118+1,v142 => if (decide (v142 < (List.length x0.2.1:Int))) then (if (0≤v142∧v142 < (List.length x0.2.1:Int)) then ((if ((bif (bif (bif (decide (((List.getD x0.2.1 (Int.toNat v142) ((0:Int),((0:Int),((0:Int),((0:Int),((0:Int),(⟨#[]⟩:ByteArray))))))).1:Int) < (0:Int))) then true else (decide (((List.getD x0.2.1 (Int.toNat v142) ((0:Int),((0:Int),((0:Int),((0:Int),((0:Int),(⟨#[]⟩:ByteArray))))))).1:Int) ≥ (List.length x0.1:Int)))) then true else (decide (((List.getD x0.2.1 (Int.toNat v142) ((0:Int),((0:Int),((0:Int),((0:Int),((0:Int),(⟨#[]⟩:ByteArray))))))).2.1:Int) < (0:Int)))) then true else (decide (((List.getD x0.2.1 (Int.toNat v142) ((0:Int),((0:Int),((0:Int),((0:Int),((0:Int),(⟨#[]⟩:ByteArray))))))).2.1:Int) ≥ (List.length x0.1:Int))))=false) then f149 k (List.getD x0.2.1 (Int.toNat v142) ((0:Int),((0:Int),((0:Int),((0:Int),((0:Int),(⟨#[]⟩:ByteArray))))))).2.2.1 else some default).bind fun r148 => ((some ((bif (bif (bif (bif (bif (bif (bif (bif (decide (((List.getD x0.2.1 (Int.toNat v142) ((0:Int),((0:Int),((0:Int),((0:Int),((0:Int),(⟨#[]⟩:ByteArray))))))).1:Int) < (0:Int))) then true else (decide (((List.getD x0.2.1 (Int.toNat v142) ((0:Int),((0:Int),((0:Int),((0:Int),((0:Int),(⟨#[]⟩:ByteArray))))))).1:Int) ≥ (List.length x0.1:Int)))) then true else (decide (((List.getD x0.2.1 (Int.toNat v142) ((0:Int),((0:Int),((0:Int),((0:Int),((0:Int),(⟨#[]⟩:ByteArray))))))).2.1:Int) < (0:Int)))) then true else (decide (((List.getD x0.2.1 (Int.toNat v142) ((0:Int),((0:Int),((0:Int),((0:Int),((0:Int),(⟨#[]⟩:ByteArray))))))).2.1:Int) ≥ (List.length x0.1:Int)))) then true else (!r148)) then true else (decide (((List.getD x0.2.1 (Int.toNat v142) ((0:Int),((0:Int),((0:Int),((0:Int),((0:Int),(⟨#[]⟩:ByteArray))))))).2.2.2.1:Int) < (1:Int)))) then true else (decide (((List.getD x0.2.1 (Int.toNat v142) ((0:Int),((0:Int),((0:Int),((0:Int),((0:Int),(⟨#[]⟩:ByteArray))))))).2.2.2.1:Int) > (1000000:Int)))) then true else (decide (((List.getD x0.2.1 (Int.toNat v142) ((0:Int),((0:Int),((0:Int),((0:Int),((0:Int),(⟨#[]⟩:ByteArray))))))).2.2.2.2.1:Int) < (0:Int)))) then true else (decide (((List.getD x0.2.1 (Int.toNat v142) ((0:Int),((0:Int),((0:Int),((0:Int),((0:Int),(⟨#[]⟩:ByteArray))))))).2.2.2.2.1:Int) > (1000000000:Int)))):Bool)).bind fun v149 => (if v149 then (some false) else ((f86.l118 k x0) m118 (IntKind.i64.wrap (v142 + (1:Int))))))) else none) else (f86.l206 k x0 k (0:Int))
def f86.l42 (k:Nat) (x0:((List (Int × (Int × Int))) × ((List (Int × (Int × (Int × (Int × (Int × ByteArray)))))) × (List (Int × Int))))):Nat→Int→Option Bool
 | 0,_ => none
 | m42+1,v70 => if (decide (v70 < (List.length x0.1:Int))) then (if (0≤v70∧v70 < (List.length x0.1:Int)) then ((f149 k (List.getD x0.1 (Int.toNat v70) ((0:Int),((0:Int),(0:Int)))).1).bind fun r77 => ((if ((!r77)=false) then f150 k (List.getD x0.1 (Int.toNat v70) ((0:Int),((0:Int),(0:Int)))).2 else some default).bind fun r78 => (if ((((bif (!r77) then true else (!r78))=false) ∧ ((decide (v70 > (0:Int)))=true)) → (0 ≤ (IntKind.i64.wrap (v70 - (1:Int))) ∧ (IntKind.i64.wrap (v70 - (1:Int))) < (List.length x0.1:Int))) then (if (bif (bif (!r77) then true else (!r78)) then true else (bif (decide (v70 > (0:Int))) then (decide (((List.getD x0.1 (Int.toNat (IntKind.i64.wrap (v70 - (1:Int)))) ((0:Int),((0:Int),(0:Int)))).1:Int) ≥ (List.getD x0.1 (Int.toNat v70) ((0:Int),((0:Int),(0:Int)))).1)) else false)) then (some false) else ((f86.l42 k x0) m42 (IntKind.i64.wrap (v70 + (1:Int))))) else none))) else none) else (f86.l118 k x0 k (0:Int))
def f86 (k:Nat) (x0:((List (Int × (Int × Int))) × ((List (Int × (Int × (Int × (Int × (Int × ByteArray)))))) × (List (Int × Int))))):Option Bool:=if (bif (bif (decide (((List.length x0.1:Int):Int) > (5000:Int))) then true else (decide (((List.length x0.2.1:Int):Int) > (8000:Int)))) then true else (decide (((List.length x0.2.2:Int):Int) > (2000:Int)))) then (some false) else (f86.l42 k x0 k (0:Int))
theorem c86 (k:Nat) (x0:tG) (r:Bool) (hF:f86 k x0=some r):PCall Try.prog 86 [⟨sh12,x0⟩] [⟨.bool,r⟩]:=by
 refine pcall_intro Try.func86 rfl rfl (Nat.le_of_ble_eq_true rfl) ?_
 intro w0 Zi a w h
 rw [f86] at hF
 refine zs [1] h an fun a w h => ?_
 refine wp_seq ?_
 refine zs [1,26] h an fun a w h => ?_
 refine zi h hF (fun hF => ?_) (fun hF => ?_)
 ·refine zs [2] h an fun a w h => ?_
  cases hF
  exact wp_ret (ret_okR tok h rfl (by kernel_rfl)).1
 ·refine wp_skip ?_
  refine wp_seq ?_
  refine zs [1,3] h an fun a w h => ?_
  refine wp_block ?_
  refine wp_loop_fuel (f86.l42 k x0) (fun v70 => [(1,.val sh11 (some x0)),(3,.val iS v70)]) (fun v h => by rw [f86.l42] at h; cases h) ?_ hF (ar h [1,3])
  intro m42 v70 a w hF h
  rw [f86.l42] at hF
  refine wp_seq ?_
  refine zs [1,3,31] h an fun a w h => ?_
  refine zi h hF (fun hF => ?_) (fun hF => ?_)
  ·refine wp_skip ?_
   refine wp_seq <| wp_block ?_
   obtain ⟨hc82,hF⟩:=of_if hF
   refine zs [1,3,4] h (ac hc82 an) fun a w h => ?_
   obtain ⟨r77,hr79,hF⟩:=of_bind hF
   obtain ⟨r78,hr80,hF⟩:=of_bind hF
   obtain ⟨hc81,hF⟩:=of_if hF
   refine wp_regy_seq tok (orc:=orcL [(41,[⟨.bool,r77⟩]),(46,[⟨.bool,r78⟩])]) (l:=[1,3,64]) ([],[],[],[]) 26 nw h (by kernel_rfl) (by kernel_rfl) (ac (c149 k (gD x0.1 (tZ v70) (iO,(iO,iO))).1 r77 hr79) (ac (fun (hg:((!r77)=false)) => c150 k (gD x0.1 (tZ v70) (iO,(iO,iO))).2 r78 (of_g hg hr80)) (ac hc81 an))) fun a w h => ?_
   refine zi h hF (fun hF => ?_) (fun hF => ?_)
   ·refine zs [2] h an fun a w h => ?_
    cases hF
    exact wp_ret (ret_okR tok h rfl (by kernel_rfl)).1
   ·refine wp_skip ?_
    refine zt [1,3] h an fun a w h => ?_
    exact ⟨(w64 (v70 + (1:Int))),hF,ar h [1,3]⟩
  ·refine wp_exit ?_
   refine zs [1,5] h an fun a w h => ?_
   refine wp_seq ?_
   refine zs [1,5,6] h an fun a w h => ?_
   refine wp_block ?_
   refine wp_loop_fuel (f86.l118 k x0) (fun v142 => [(1,.val sh11 (some x0)),(5,.val iS (List.length x0.1:Int)),(6,.val iS v142)]) (fun v h => by rw [f86.l118] at h; cases h) ?_ hF (ar h [1,5,6])
   intro m118 v142 a w hF h
   rw [f86.l118] at hF
   refine wp_seq ?_
   refine zs [1,5,6,72] h an fun a w h => ?_
   refine zi h hF (fun hF => ?_) (fun hF => ?_)
   ·refine wp_skip ?_
    refine wp_seq <| wp_block ?_
    obtain ⟨hc152,hF⟩:=of_if hF
    refine zs [1,5,6,7] h (ac hc152 an) fun a w h => ?_
    obtain ⟨r148,hr151,hF⟩:=of_bind hF
    refine zc (orcL [(103,[⟨.bool,r148⟩])]) [1,5,6,125] h (ac (fun (hg:((bif (bif (bif (decide (((gD x0.2.1 (tZ v142) zR).1:Int) < iO)) then true else (decide (((gD x0.2.1 (tZ v142) zR).1:Int) ≥ (List.length x0.1:Int)))) then true else (decide (((gD x0.2.1 (tZ v142) zR).2.1:Int) < iO))) then true else (decide (((gD x0.2.1 (tZ v142) zR).2.1:Int) ≥ (List.length x0.1:Int))))=false)) => c149 k (gD x0.2.1 (tZ v142) zR).2.2.1 r148 (of_g hg hr151)) an) fun a w h => ?_
    obtain ⟨v149,hv150,hF⟩:=of_bind hF
    replace h:=h.cast (S':=[(1,.val sh11 (some x0)),(5,.val iS (List.length x0.1:Int)),(6,.val iS v142),(125,.val .bool v149)]) (by cases hv150; kernel_rfl)
    refine zi h hF (fun hF => ?_) (fun hF => ?_)
    ·refine zs [2] h an fun a w h => ?_
     cases hF
     exact wp_ret (ret_okR tok h rfl (by kernel_rfl)).1
    ·refine wp_skip ?_
     refine zt [1,5,6] h an fun a w h => ?_
     exact ⟨(w64 (v142 + (1:Int))),hF,ar h [1,5,6]⟩
   ·refine wp_exit ?_
    refine zs [1,8] h an fun a w h => ?_
    refine wp_seq ?_
    refine zs [1,8,9] h an fun a w h => ?_
    refine wp_block ?_
    refine wp_loop_fuel (f86.l206 k x0) (fun v242 => [(1,.val sh11 (some x0)),(8,.val iS (List.length x0.2.1:Int)),(9,.val iS v242)]) (fun v h => by rw [f86.l206] at h; cases h) ?_ hF (ar h [1,8,9])
    intro m206 v242 a w hF h
    rw [f86.l206] at hF
    refine wp_seq ?_
    refine zs [1,8,9,133] h an fun a w h => ?_
    refine zi h hF (fun hF => ?_) (fun hF => ?_)
    ·refine wp_skip ?_
     refine wp_seq <| wp_block ?_
     obtain ⟨hc258,hF⟩:=of_if hF
     refine zs [1,8,9,10] h (ac hc258 an) fun a w h => ?_
     obtain ⟨hc254,hF⟩:=of_if hF
     obtain ⟨hc255,hF⟩:=of_if hF
     obtain ⟨hc256,hF⟩:=of_if hF
     obtain ⟨r251,hr257,hF⟩:=of_bind hF
     refine wp_regy_seq tok (orc:=orcL [(189,[⟨.bool,r251⟩])]) (l:=[1,8,9,192]) ([],[],[],[]) 52 nw h (by kernel_rfl) (by kernel_rfl) (ac hc254 (ac hc255 (ac hc256 (ac (fun (hg:(((bif (bif (bif (bif (decide (((gD x0.2.2 (tZ v242) (iO,iO)).1:Int) < iO)) then true else (decide (((gD x0.2.2 (tZ v242) (iO,iO)).1:Int) ≥ (List.length x0.2.1:Int)))) then true else (decide (((gD x0.2.2 (tZ v242) (iO,iO)).2:Int) < iO))) then true else (decide (((gD x0.2.2 (tZ v242) (iO,iO)).2:Int) ≥ (List.length x0.2.1:Int)))) then true else (((gD x0.2.1 (tZ (gD x0.2.2 (tZ v242) (iO,iO)).1) zR).2.1:Int) != (gD x0.2.1 (tZ (gD x0.2.2 (tZ v242) (iO,iO)).2) zR).1))=false) ∧ ((decide (v242 > iO))=true))) => c151 k (gD x0.2.2 (tZ (w64 (v242 - (1:Int)))) (iO,iO)) (gD x0.2.2 (tZ v242) (iO,iO)) r251 (of_g hg hr257)) an)))) fun a w h => ?_
     obtain ⟨v252,hv253,hF⟩:=of_bind hF
     replace h:=h.cast (S':=[(1,.val sh11 (some x0)),(8,.val iS (List.length x0.2.1:Int)),(9,.val iS v242),(192,.val .bool v252)]) (by cases hv253; kernel_rfl)
     refine zi h hF (fun hF => ?_) (fun hF => ?_)
     ·refine zs [2] h an fun a w h => ?_
      cases hF
      exact wp_ret (ret_okR tok h rfl (by kernel_rfl)).1
     ·refine wp_skip ?_
      refine zt [1,8,9] h an fun a w h => ?_
      exact ⟨(w64 (v242 + (1:Int))),hF,ar h [1,8,9]⟩
    ·refine wp_exit ?_
     refine zs [2] h an fun a w h => ?_
     cases hF
     exact wp_ret (ret_okR tok h rfl (by kernel_rfl)).1
def f87 (k:Nat) (x0:((List (Int × (Int × Int))) × ((List (Int × (Int × (Int × (Int × (Int × ByteArray)))))) × (List (Int × Int))))) (x1:Int):Option Bool:=some (bif (decide (x1 ≥ (0:Int))) then (decide (x1 < (List.length x0.1:Int))) else false)
theorem c87 (k:Nat) (x0:tG) (x1:Int) (r:Bool) (hF:f87 k x0 x1=some r):PCall Try.prog 87 [⟨sh12,x0⟩,⟨iS,x1⟩] [⟨.bool,r⟩]:=by
 refine pcall_intro Try.func87 rfl rfl (Nat.le_of_ble_eq_true rfl) ?_
 intro w0 Zi a w h
 rw [f87] at hF
 refine zs [1,2] h an fun a w h => ?_
 refine zs [4] h an fun a w h => ?_
 cases hF
 exact wp_ret (ret_okR tok h rfl (by kernel_rfl)).1
def f152.j109 (k:Nat) (v97:(List (List Int))) (v98:Int) (q58:((List (List Int)) × Int)→Option (List (List Int))):Int→Option (List (List Int))
 | v108 => if (0≤v108∧v108 < (List.length v97:Int)) then (if ((List.length (List.getD v97 (Int.toNat v108) ([]:(List Int)))+List.length [v98])*8≤140737488355328) then (if (0≤v108∧v108 < (List.length v97:Int)) then (q58 ((List.set v97 (Int.toNat v108) (List.append (List.getD v97 (Int.toNat v108) ([]:(List Int))) [v98])),(IntKind.i64.wrap (v98 + (1:Int))))) else none) else none) else none
def f152.l58 (k:Nat) (x0:((List (Int × (Int × Int))) × ((List (Int × (Int × (Int × (Int × (Int × ByteArray)))))) × (List (Int × Int))))) (x1:Bool):Nat → ((List (List Int)) × Int)→Option (List (List Int))
 | 0,_ => none
 | m58+1,(v97,v98) => if (decide (v98 < (List.length x0.2.1:Int))) then (if (0≤v98∧v98 < (List.length x0.2.1:Int)) then (if x1 then (if (0≤v98∧v98 < (List.length x0.2.1:Int)) then (f152.j109 k v97 v98 ((f152.l58 k x0 x1) m58) (List.getD x0.2.1 (Int.toNat v98) ((0:Int),((0:Int),((0:Int),((0:Int),((0:Int),(⟨#[]⟩:ByteArray))))))).2.1) else none) else (f152.j109 k v97 v98 ((f152.l58 k x0 x1) m58) (List.getD x0.2.1 (Int.toNat v98) ((0:Int),((0:Int),((0:Int),((0:Int),((0:Int),(⟨#[]⟩:ByteArray))))))).1)) else none) else (some v97)
def f152 (k:Nat) (x0:((List (Int × (Int × Int))) × ((List (Int × (Int × (Int × (Int × (Int × ByteArray)))))) × (List (Int × Int))))) (x1:Bool):Option (List (List Int)):=if (0 ≤ (List.length x0.1:Int)∧Int.toNat (List.length x0.1:Int)*24≤140737488355328) then (f152.l58 k x0 x1 k ((List.replicate (Int.toNat (List.length x0.1:Int)) ([]:(List Int))),(0:Int))) else none
theorem c152 (k:Nat) (x0:tG) (x1:Bool) (r:(List (List Int))) (hF:f152 k x0 x1=some r):PCall Try.prog 152 [⟨sh12,x0⟩,⟨.bool,x1⟩] [⟨sh13,r⟩]:=by
 refine pcall_intro Try.func152 rfl rfl (Nat.le_of_ble_eq_true rfl) ?_
 intro w0 Zi a w h
 rw [f152] at hF
 refine zs [1,2] h an fun a w h => ?_
 obtain ⟨hc115,hF⟩:=of_if hF
 refine zs [1,2,5] h (ac hc115 an) fun a w h => ?_
 refine wp_seq ?_
 refine zs [1,2,5,6] h an fun a w h => ?_
 refine wp_block ?_
 refine wp_loop_fuel (f152.l58 k x0 x1) (fun ((v97,v98):((List (List Int)) × Int)) => [(1,.val .bool x1),(2,.val sh11 (some x0)),(5,.val sh13 v97),(6,.val iS v98)]) (fun v h => by obtain ⟨v97,v98⟩:=v; rw [f152.l58] at h; cases h) ?_ hF (ar h [1,2,5,6])
 intro m58 v a w hF h
 obtain ⟨v97,v98⟩:=v
 rw [f152.l58] at hF
 refine wp_seq ?_
 refine zs [1,2,5,6,16] h an fun a w h => ?_
 refine zi h hF (fun hF => ?_) (fun hF => ?_)
 ·refine wp_skip ?_
  refine wp_seq <| wp_block ?_
  obtain ⟨hc114,hF⟩:=of_if hF
  refine zs [1,2,5,6,7] h (ac hc114 an) fun a w h => ?_
  refine wp_seq ?_
  refine zs [1,2,5,6,7,25] h an fun a w h => ?_
  refine wp_midT (fun a w => ∃ v:Int,f152.j109 k v97 v98 ((f152.l58 k x0 x1) m58) v=some r∧Rel w0 (fun _ => False) Zi Try.f152.ntmps ((fun v108 => ([(1,.val .bool x1),(2,.val sh11 (some x0)),(5,.val sh13 v97),(6,.val iS v98),(7,.val iS v108)]:SS)) v) a w) ?_ ?_
  ·
   refine zi h hF (fun hF => ?_) (fun hF => ?_)
   ·obtain ⟨hc113,hF⟩:=of_if hF
    refine zt [1,2,5,6,7] h (ac hc113 an) fun a w h => ?_
    exact ⟨(gD x0.2.1 (tZ v98) zR).2.1,hF,ar h [1,2,5,6,7]⟩
   ·refine wp_skip ?_
    exact ⟨(gD x0.2.1 (tZ v98) zR).1,hF,ar h [1,2,5,6,7]⟩
  ·rintro a w ⟨v108,hF,h⟩
   rw [f152.j109] at hF
   obtain ⟨hc110,hF⟩:=of_if hF
   obtain ⟨hc111,hF⟩:=of_if hF
   obtain ⟨hc112,hF⟩:=of_if hF
   refine zd (orcL [(40,[⟨.pt false 4294967293 .unit,some ()⟩])]) [1,2,5,6] h (ac hc110 (ac (PrefL.mk (l:=[[],[],[.idx (tZ v108)],[.idx (tZ v108)]]) (p:=[.idx (tZ v108)]) rfl) (ac hc111 (ac hc112 (ac (show ([.idx (tZ v108)]:Path)=[.idx (tZ v108)] from rfl) an))))) fun a w h => ?_
   refine zt [1,2,5,6] h an fun a w h => ?_
   exact ⟨((List.set v97 (tZ v108) (List.append (gD v97 (tZ v108) lO) [v98])),(w64 (v98 + (1:Int)))),hF,ar h [1,2,5,6]⟩
 ·refine wp_exit ?_
  refine zs [4,5] h an fun a w h => ?_
  cases hF
  exact wp_ret (ret_okR tok h rfl (by kernel_rfl)).1
def f195.l22 (k:Nat) (x0:((List (Int × (Int × Int))) × ((List (Int × (Int × (Int × (Int × (Int × ByteArray)))))) × (List (Int × Int))))) (x1:Int) (x2:Int):Nat → (Int × Int)→Option Bool
 | 0,_ => none
 | m22+1,(v37,v38) => if (decide (v37 < v38)) then (if (((2:Int):Int)≠0) then (if (0 ≤ (IntKind.i64.wrap (Int.tdiv (IntKind.i64.wrap (v37+v38)) (2:Int))) ∧ (IntKind.i64.wrap (Int.tdiv (IntKind.i64.wrap (v37+v38)) (2:Int))) < (List.length x0.2.2:Int)) then ((f151 k (List.getD x0.2.2 (Int.toNat (IntKind.i64.wrap (Int.tdiv (IntKind.i64.wrap (v37+v38)) (2:Int)))) ((0:Int),(0:Int))) (x1,x2)).bind fun r39 => (if r39 then ((f195.l22 k x0 x1 x2) m22 ((IntKind.i64.wrap ((IntKind.i64.wrap (Int.tdiv (IntKind.i64.wrap (v37+v38)) (2:Int))) + (1:Int))),v38)) else ((f195.l22 k x0 x1 x2) m22 (v37,(IntKind.i64.wrap (Int.tdiv (IntKind.i64.wrap (v37+v38)) (2:Int))))))) else none) else none) else (if (((decide (v37 < (List.length x0.2.2:Int)))=true) → (0≤v37∧v37 < (List.length x0.2.2:Int))) then (some (bif (decide (v37 < (List.length x0.2.2:Int))) then (Sh.beq sh5 (List.getD x0.2.2 (Int.toNat v37) ((0:Int),(0:Int))) (x1,x2)) else false)) else none)
def f195 (k:Nat) (x0:((List (Int × (Int × Int))) × ((List (Int × (Int × (Int × (Int × (Int × ByteArray)))))) × (List (Int × Int))))) (x1:Int) (x2:Int):Option Bool:=f195.l22 k x0 x1 x2 k ((0:Int),(List.length x0.2.2:Int))
theorem c195 (k:Nat) (x0:tG) (x1:Int) (x2:Int) (r:Bool) (hF:f195 k x0 x1 x2=some r):PCall Try.prog 195 [⟨sh12,x0⟩,⟨iS,x1⟩,⟨iS,x2⟩] [⟨.bool,r⟩]:=by
 refine pcall_intro Try.func195 rfl rfl (Nat.le_of_ble_eq_true rfl) ?_
 intro w0 Zi a w h
 rw [f195] at hF
 refine zs [1,2,3] h an fun a w h => ?_
 refine zs [3,7] h an fun a w h => ?_
 refine zs [3,7,8] h an fun a w h => ?_
 refine zs [3,7,8,9] h an fun a w h => ?_
 refine wp_seq <| wp_block ?_
 refine wp_loop_fuel (f195.l22 k x0 x1 x2) (fun ((v37,v38):(Int × Int)) => [(3,.val sh11 (some x0)),(7,.val sh14 (some (x1,x2))),(8,.val iS v37),(9,.val iS v38)]) (fun v h => by obtain ⟨v37,v38⟩:=v; rw [f195.l22] at h; cases h) ?_ hF (ar h [3,7,8,9])
 intro m22 v a w hF h
 obtain ⟨v37,v38⟩:=v
 rw [f195.l22] at hF
 refine wp_seq ?_
 refine zs [3,7,8,9,19] h an fun a w h => ?_
 refine zi h hF (fun hF => ?_) (fun hF => ?_)
 ·refine wp_skip ?_
  refine wp_block ?_
  obtain ⟨hc42,hF⟩:=of_if hF
  refine zs [3,7,8,9,10] h (ac hc42 an) fun a w h => ?_
  obtain ⟨hc40,hF⟩:=of_if hF
  obtain ⟨r39,hr41,hF⟩:=of_bind hF
  refine wp_regy_seq tok (orc:=orcL [(30,[⟨.bool,r39⟩])]) (l:=[3,7,8,9,10,30]) ([],[],[],[]) 7 nw h (by kernel_rfl) (by kernel_rfl) (ac hc40 (ac (c151 k (gD x0.2.2 (tZ (w64 (Int.tdiv (w64 (v37+v38)) (2:Int)))) (iO,iO)) (x1,x2) r39 hr41) an)) fun a w h => ?_
  refine zi h hF (fun hF => ?_) (fun hF => ?_)
  ·refine zt [3,7,8,9] h an fun a w h => ?_
   exact ⟨((w64 ((w64 (Int.tdiv (w64 (v37+v38)) (2:Int))) + (1:Int))),v38),hF,ar h [3,7,8,9]⟩
  ·refine zt [3,7,8,9] h an fun a w h => ?_
   exact ⟨(v37,(w64 (Int.tdiv (w64 (v37+v38)) (2:Int)))),hF,ar h [3,7,8,9]⟩
 ·refine wp_exit ?_
  obtain ⟨hc43,hF⟩:=of_if hF
  refine wp_regy_seq tok (orc:=o0) (l:=[6]) ([],[],[],[]) 15 nw h (by kernel_rfl) (by kernel_rfl) (ac hc43 (ac (fun (_:((decide (v37 < (List.length x0.2.2:Int)))=true)) => (And.intro (show eqTy Try.prog 9 174 (.st (.pair iS iS))=true from by kernel_rfl) (show Try.prog.eqGuardType Try.prog.depth 174=false from by kernel_rfl))) an)) fun a w h => ?_
  cases hF
  exact wp_ret (ret_okR tok h rfl (by kernel_rfl)).1
def f217 (k:Nat) (x0:Int):Option Int:=if (decide (x0 < (0:Int))) then (some (IntKind.i64.wrap (0 - x0))) else (some x0)
theorem c217 (k:Nat) (x0:Int) (r:Int) (hF:f217 k x0=some r):PCall Try.prog 217 [⟨iS,x0⟩] [⟨iS,r⟩]:=by
 refine pcall_intro Try.func217 rfl rfl (Nat.le_of_ble_eq_true rfl) ?_
 intro w0 Zi a w h
 rw [f217] at hF
 refine zs [0] h an fun a w h => ?_
 refine wp_seq ?_
 refine zs [0,4] h an fun a w h => ?_
 refine zi h hF (fun hF => ?_) (fun hF => ?_)
 ·refine zs [2] h an fun a w h => ?_
  cases hF
  exact wp_ret (ret_okR tok h rfl (by kernel_rfl)).1
 ·refine wp_skip ?_
  refine zs [2] h an fun a w h => ?_
  cases hF
  exact wp_ret (ret_okR tok h rfl (by kernel_rfl)).1
def f196 (k:Nat) (x0:(Int × Int)) (x1:(Int × Int)):Option Int:=(f150 k x0).bind fun r1 => ((if ((!r1)=false) then f150 k x1 else some default).bind fun r2 => (if (bif (bif (!r1) then true else (!r2)) then true else (Sh.beq sh5 x0 x1)) then (some (-1:Int)) else ((f217 k (IntKind.i64.wrap (x1.1 - x0.1))).bind fun r3 => ((f217 k (IntKind.i64.wrap (x1.2 - x0.2))).bind fun r4 => (if (bif (decide (((IntKind.i64.wrap ((5:Int)*r4)):Int) < (IntKind.i64.wrap ((2:Int)*r3)))) then (decide (((IntKind.i64.wrap (x1.1 - x0.1)):Int) > (0:Int))) else false) then (some (0:Int)) else (if (decide (((IntKind.i64.wrap ((5:Int)*r4)):Int) < (IntKind.i64.wrap ((2:Int)*r3)))) then (some (4:Int)) else (if (bif (decide (((IntKind.i64.wrap ((5:Int)*r3)):Int) < (IntKind.i64.wrap ((2:Int)*r4)))) then (decide (((IntKind.i64.wrap (x1.2 - x0.2)):Int) > (0:Int))) else false) then (some (2:Int)) else (if (decide (((IntKind.i64.wrap ((5:Int)*r3)):Int) < (IntKind.i64.wrap ((2:Int)*r4)))) then (some (6:Int)) else (if (bif (decide (((IntKind.i64.wrap (x1.1 - x0.1)):Int) > (0:Int))) then (decide (((IntKind.i64.wrap (x1.2 - x0.2)):Int) > (0:Int))) else false) then (some (1:Int)) else (if (bif (decide (((IntKind.i64.wrap (x1.1 - x0.1)):Int) < (0:Int))) then (decide (((IntKind.i64.wrap (x1.2 - x0.2)):Int) > (0:Int))) else false) then (some (3:Int)) else (if (decide (((IntKind.i64.wrap (x1.1 - x0.1)):Int) < (0:Int))) then (some (5:Int)) else (some (7:Int)))))))))))))
theorem c196 (k:Nat) (x0:(Int × Int)) (x1:(Int × Int)) (r:Int) (hF:f196 k x0 x1=some r):PCall Try.prog 196 [⟨sh5,x0⟩,⟨sh5,x1⟩] [⟨iS,r⟩]:=by
 refine pcall_intro Try.func196 rfl rfl (Nat.le_of_ble_eq_true rfl) ?_
 intro w0 Zi a w h
 rw [f196] at hF
 refine zs [2,3] h an fun a w h => ?_
 refine wp_seq ?_
 obtain ⟨r1,hr7,hF⟩:=of_bind hF
 obtain ⟨r2,hr8,hF⟩:=of_bind hF
 refine zc (orcL [(10,[⟨.bool,r1⟩]),(14,[⟨.bool,r2⟩])]) [2,3,21] h (ac (c150 k x0 r1 hr7) (ac (fun (hg:((!r1)=false)) => c150 k x1 r2 (of_g hg hr8)) (ac (fun (_:((bif (!r1) then true else (!r2))=false)) => (And.intro (show eqTy Try.prog 9 52 (.st (.pair iS iS))=true from by kernel_rfl) (show Try.prog.eqGuardType Try.prog.depth 52=false from by kernel_rfl))) an))) fun a w h => ?_
 refine zi h hF (fun hF => ?_) (fun hF => ?_)
 ·refine zs [4] h an fun a w h => ?_
  cases hF
  exact wp_ret (ret_okR tok h rfl (by kernel_rfl)).1
 ·refine wp_skip ?_
  refine zs [2,3,5] h an fun a w h => ?_
  refine zs [5,6] h an fun a w h => ?_
  obtain ⟨r3,hr6,hF⟩:=of_bind hF
  refine zc (orcL [(33,[⟨iS,r3⟩])]) [5,6,7] h (ac (c217 k (w64 (x1.1 - x0.1)) r3 hr6) an) fun a w h => ?_
  obtain ⟨r4,hr5,hF⟩:=of_bind hF
  refine zc (orcL [(35,[⟨iS,r4⟩])]) [5,6,7,8] h (ac (c217 k (w64 (x1.2 - x0.2)) r4 hr5) an) fun a w h => ?_
  refine wp_seq <| wp_block ?_
  refine zs [5,6,7,8,36] h an fun a w h => ?_
  refine zi h hF (fun hF => ?_) (fun hF => ?_)
  ·refine zs [4] h an fun a w h => ?_
   cases hF
   exact wp_ret (ret_okR tok h rfl (by kernel_rfl)).1
  ·refine zs [5,6,7,8,46] h an fun a w h => ?_
   refine zi h hF (fun hF => ?_) (fun hF => ?_)
   ·refine zs [4] h an fun a w h => ?_
    cases hF
    exact wp_ret (ret_okR tok h rfl (by kernel_rfl)).1
   ·refine zs [5,6,7,8,52] h an fun a w h => ?_
    refine zi h hF (fun hF => ?_) (fun hF => ?_)
    ·refine zs [4] h an fun a w h => ?_
     cases hF
     exact wp_ret (ret_okR tok h rfl (by kernel_rfl)).1
    ·refine zs [5,6,62] h an fun a w h => ?_
     refine zi h hF (fun hF => ?_) (fun hF => ?_)
     ·refine zs [4] h an fun a w h => ?_
      cases hF
      exact wp_ret (ret_okR tok h rfl (by kernel_rfl)).1
     ·refine zs [5,6,68] h an fun a w h => ?_
      refine zi h hF (fun hF => ?_) (fun hF => ?_)
      ·refine zs [4] h an fun a w h => ?_
       cases hF
       exact wp_ret (ret_okR tok h rfl (by kernel_rfl)).1
      ·refine zs [5,75] h an fun a w h => ?_
       refine zi h hF (fun hF => ?_) (fun hF => ?_)
       ·refine zs [4] h an fun a w h => ?_
        cases hF
        exact wp_ret (ret_okR tok h rfl (by kernel_rfl)).1
       ·refine zs [82] h an fun a w h => ?_
        refine zi h hF (fun hF => ?_) (fun hF => ?_)
        ·refine zs [4] h an fun a w h => ?_
         cases hF
         exact wp_ret (ret_okR tok h rfl (by kernel_rfl)).1
        ·refine wp_skip ?_
         refine zs [4] h an fun a w h => ?_
         cases hF
         exact wp_ret (ret_okR tok h rfl (by kernel_rfl)).1
def f153.j11 (k:Nat):Bool→Option Int
 | v10 => if v10 then (some (3:Int)) else (some (0:Int))
def f153.j9 (k:Nat) (r3:Int) (r2:Int):Bool→Option Int
 | v8 => if v8 then (some (5:Int)) else (if (((Int.tmod (IntKind.i64.wrap ((IntKind.i64.wrap (r3 - r2)) + (8:Int))) (8:Int)):Int) == (5:Int)) then (f153.j11 k (((Int.tmod (IntKind.i64.wrap ((IntKind.i64.wrap (r3 - r2)) + (8:Int))) (8:Int)):Int) == (5:Int))) else (f153.j11 k (((Int.tmod (IntKind.i64.wrap ((IntKind.i64.wrap (r3 - r2)) + (8:Int))) (8:Int)):Int) == (6:Int))))
def f153 (k:Nat) (x0:((List (Int × (Int × Int))) × ((List (Int × (Int × (Int × (Int × (Int × ByteArray)))))) × (List (Int × Int))))) (x1:Int) (x2:Int):Option Int:=(f195 k x0 x1 x2).bind fun r1 => (if r1 then (some (-1:Int)) else (if (0≤x1∧x1 < (List.length x0.2.1:Int)) then (if (0≤x2∧x2 < (List.length x0.2.1:Int)) then (if (((List.getD x0.2.1 (Int.toNat x2) ((0:Int),((0:Int),((0:Int),((0:Int),((0:Int),(⟨#[]⟩:ByteArray))))))).2.1:Int) == (List.getD x0.2.1 (Int.toNat x1) ((0:Int),((0:Int),((0:Int),((0:Int),((0:Int),(⟨#[]⟩:ByteArray))))))).1) then (some (20:Int)) else (if (0 ≤ (List.getD x0.2.1 (Int.toNat x1) ((0:Int),((0:Int),((0:Int),((0:Int),((0:Int),(⟨#[]⟩:ByteArray))))))).1 ∧ (List.getD x0.2.1 (Int.toNat x1) ((0:Int),((0:Int),((0:Int),((0:Int),((0:Int),(⟨#[]⟩:ByteArray))))))).1 < (List.length x0.1:Int)) then (if (0 ≤ (List.getD x0.2.1 (Int.toNat x1) ((0:Int),((0:Int),((0:Int),((0:Int),((0:Int),(⟨#[]⟩:ByteArray))))))).2.1 ∧ (List.getD x0.2.1 (Int.toNat x1) ((0:Int),((0:Int),((0:Int),((0:Int),((0:Int),(⟨#[]⟩:ByteArray))))))).2.1 < (List.length x0.1:Int)) then ((f196 k (List.getD x0.1 (Int.toNat (List.getD x0.2.1 (Int.toNat x1) ((0:Int),((0:Int),((0:Int),((0:Int),((0:Int),(⟨#[]⟩:ByteArray))))))).1) ((0:Int),((0:Int),(0:Int)))).2 (List.getD x0.1 (Int.toNat (List.getD x0.2.1 (Int.toNat x1) ((0:Int),((0:Int),((0:Int),((0:Int),((0:Int),(⟨#[]⟩:ByteArray))))))).2.1) ((0:Int),((0:Int),(0:Int)))).2).bind fun r2 => (if (0 ≤ (List.getD x0.2.1 (Int.toNat x2) ((0:Int),((0:Int),((0:Int),((0:Int),((0:Int),(⟨#[]⟩:ByteArray))))))).1 ∧ (List.getD x0.2.1 (Int.toNat x2) ((0:Int),((0:Int),((0:Int),((0:Int),((0:Int),(⟨#[]⟩:ByteArray))))))).1 < (List.length x0.1:Int)) then (if (0 ≤ (List.getD x0.2.1 (Int.toNat x2) ((0:Int),((0:Int),((0:Int),((0:Int),((0:Int),(⟨#[]⟩:ByteArray))))))).2.1 ∧ (List.getD x0.2.1 (Int.toNat x2) ((0:Int),((0:Int),((0:Int),((0:Int),((0:Int),(⟨#[]⟩:ByteArray))))))).2.1 < (List.length x0.1:Int)) then ((f196 k (List.getD x0.1 (Int.toNat (List.getD x0.2.1 (Int.toNat x2) ((0:Int),((0:Int),((0:Int),((0:Int),((0:Int),(⟨#[]⟩:ByteArray))))))).1) ((0:Int),((0:Int),(0:Int)))).2 (List.getD x0.1 (Int.toNat (List.getD x0.2.1 (Int.toNat x2) ((0:Int),((0:Int),((0:Int),((0:Int),((0:Int),(⟨#[]⟩:ByteArray))))))).2.1) ((0:Int),((0:Int),(0:Int)))).2).bind fun r3 => (if (bif (decide (r2 < (0:Int))) then true else (decide (r3 < (0:Int)))) then (some (0:Int)) else (if (((8:Int):Int)≠0) then (if (((Int.tmod (IntKind.i64.wrap ((IntKind.i64.wrap (r3 - r2)) + (8:Int))) (8:Int)):Int) == (2:Int)) then (f153.j9 k r3 r2 (((Int.tmod (IntKind.i64.wrap ((IntKind.i64.wrap (r3 - r2)) + (8:Int))) (8:Int)):Int) == (2:Int))) else (if (((Int.tmod (IntKind.i64.wrap ((IntKind.i64.wrap (r3 - r2)) + (8:Int))) (8:Int)):Int) == (3:Int)) then (f153.j9 k r3 r2 (((Int.tmod (IntKind.i64.wrap ((IntKind.i64.wrap (r3 - r2)) + (8:Int))) (8:Int)):Int) == (3:Int))) else (f153.j9 k r3 r2 (((Int.tmod (IntKind.i64.wrap ((IntKind.i64.wrap (r3 - r2)) + (8:Int))) (8:Int)):Int) == (4:Int))))) else none))) else none) else none)) else none) else none)) else none) else none))
theorem c153 (k:Nat) (x0:tG) (x1:Int) (x2:Int) (r:Int) (hF:f153 k x0 x1 x2=some r):PCall Try.prog 153 [⟨sh12,x0⟩,⟨iS,x1⟩,⟨iS,x2⟩] [⟨iS,r⟩]:=by
 refine pcall_intro Try.func153 rfl rfl (Nat.le_of_ble_eq_true rfl) ?_
 intro w0 Zi a w h
 rw [f153] at hF
 refine zs [1,2,3] h an fun a w h => ?_
 refine wp_seq ?_
 obtain ⟨r1,hr21,hF⟩:=of_bind hF
 refine zc (orcL [(14,[⟨.bool,r1⟩])]) [1,2,3,14] h (ac (c195 k x0 x1 x2 r1 hr21) an) fun a w h => ?_
 refine zi h hF (fun hF => ?_) (fun hF => ?_)
 ·refine zs [6] h an fun a w h => ?_
  cases hF
  exact wp_ret (ret_okR tok h rfl (by kernel_rfl)).1
 ·refine wp_skip ?_
  obtain ⟨hc20,hF⟩:=of_if hF
  refine zs [2,3,7] h (ac hc20 an) fun a w h => ?_
  obtain ⟨hc19,hF⟩:=of_if hF
  refine zs [3,7,8] h (ac hc19 an) fun a w h => ?_
  refine wp_seq ?_
  refine zs [3,7,8,29] h an fun a w h => ?_
  refine zi h hF (fun hF => ?_) (fun hF => ?_)
  ·refine zs [6] h an fun a w h => ?_
   cases hF
   exact wp_ret (ret_okR tok h rfl (by kernel_rfl)).1
  ·refine wp_skip ?_
   obtain ⟨hc16,hF⟩:=of_if hF
   obtain ⟨hc17,hF⟩:=of_if hF
   obtain ⟨r2,hr18,hF⟩:=of_bind hF
   refine wp_regy_seq tok (orc:=orcL [(44,[⟨iS,r2⟩])]) (l:=[3,8,9]) ([],[],[],[]) 16 nw h (by kernel_rfl) (by kernel_rfl) (ac hc16 (ac hc17 (ac (c196 k (gD x0.1 (tZ (gD x0.2.1 (tZ x1) zR).1) (iO,(iO,iO))).2 (gD x0.1 (tZ (gD x0.2.1 (tZ x1) zR).2.1) (iO,(iO,iO))).2 r2 hr18) an))) fun a w h => ?_
   obtain ⟨hc13,hF⟩:=of_if hF
   obtain ⟨hc14,hF⟩:=of_if hF
   obtain ⟨r3,hr15,hF⟩:=of_bind hF
   refine wp_regy_seq tok (orc:=orcL [(59,[⟨iS,r3⟩])]) (l:=[9,10]) ([],[],[],[]) 16 nw h (by kernel_rfl) (by kernel_rfl) (ac hc13 (ac hc14 (ac (c196 k (gD x0.1 (tZ (gD x0.2.1 (tZ x2) zR).1) (iO,(iO,iO))).2 (gD x0.1 (tZ (gD x0.2.1 (tZ x2) zR).2.1) (iO,(iO,iO))).2 r3 hr15) an))) fun a w h => ?_
   refine wp_seq ?_
   refine zs [9,10,65] h an fun a w h => ?_
   refine zi h hF (fun hF => ?_) (fun hF => ?_)
   ·refine zs [6] h an fun a w h => ?_
    cases hF
    exact wp_ret (ret_okR tok h rfl (by kernel_rfl)).1
   ·refine wp_skip ?_
    refine wp_seq ?_
    obtain ⟨hc12,hF⟩:=of_if hF
    refine zs [70] h (ac hc12 an) fun a w h => ?_
    refine wp_block ?_
    refine wp_seq ?_
    refine zs [70,71] h an fun a w h => ?_
    refine wp_midT (fun a w => ∃ v:Bool,f153.j9 k r3 r2 v=some r∧Rel w0 (fun _ => False) Zi Try.f153.ntmps ((fun (v8:Bool) => ([(70,.val iS (Int.tmod (w64 ((w64 (r3 - r2)) + (8:Int))) (8:Int))),(71,.val .bool v8)]:SS)) v) a w) ?_ ?_
    ·
     refine zi h hF (fun hF => ?_) (fun hF => ?_)
     ·refine wp_skip ?_
      exact ⟨(((Int.tmod (w64 ((w64 (r3 - r2)) + (8:Int))) (8:Int)):Int) == (2:Int)),hF,ar h [70,71]⟩
     ·refine zs [70,71] h an fun a w h => ?_
      refine zi h hF (fun hF => ?_) (fun hF => ?_)
      ·refine wp_skip ?_
       exact ⟨(((Int.tmod (w64 ((w64 (r3 - r2)) + (8:Int))) (8:Int)):Int) == (3:Int)),hF,ar h [70,71]⟩
      ·refine zt [70,71] h an fun a w h => ?_
       exact ⟨(((Int.tmod (w64 ((w64 (r3 - r2)) + (8:Int))) (8:Int)):Int) == (4:Int)),hF,ar h [70,71]⟩
    ·rintro a w ⟨v8,hF,h⟩
     rw [f153.j9] at hF
     refine zi h hF (fun hF => ?_) (fun hF => ?_)
     ·refine zs [6] h an fun a w h => ?_
      cases hF
      exact wp_ret (ret_okR tok h rfl (by kernel_rfl)).1
     ·refine wp_seq ?_
      refine zs [70,75] h an fun a w h => ?_
      refine wp_midT (fun a w => ∃ v:Bool,f153.j11 k v=some r∧Rel w0 (fun _ => False) Zi Try.f153.ntmps ((fun (v10:Bool) => ([(75,.val .bool v10)]:SS)) v) a w) ?_ ?_
      ·
       refine zi h hF (fun hF => ?_) (fun hF => ?_)
       ·refine wp_skip ?_
        exact ⟨(((Int.tmod (w64 ((w64 (r3 - r2)) + (8:Int))) (8:Int)):Int) == (5:Int)),hF,ar h [75]⟩
       ·refine zt [75] h an fun a w h => ?_
        exact ⟨(((Int.tmod (w64 ((w64 (r3 - r2)) + (8:Int))) (8:Int)):Int) == (6:Int)),hF,ar h [75]⟩
      ·rintro a w ⟨v10,hF,h⟩
       rw [f153.j11] at hF
       refine zi h hF (fun hF => ?_) (fun hF => ?_)
       ·refine zs [6] h an fun a w h => ?_
        cases hF
        exact wp_ret (ret_okR tok h rfl (by kernel_rfl)).1
       ·refine wp_skip ?_
        refine zs [6] h an fun a w h => ?_
        cases hF
        exact wp_ret (ret_okR tok h rfl (by kernel_rfl)).1
def f88.j1658 (k:Nat) (v1652:Int) (q1624:(Int × Int)→Option (List Int)):Int→Option (List Int)
 | v1657 => q1624 (v1657,(IntKind.i64.wrap (v1652 + (1:Int))))
def f88.j1817 (k:Nat) (v1790:Int) (q1668:((List Int) × (List Int) × Int)→Option (List Int)):((List Int) × (List Int))→Option (List Int)
 | (v1815,v1816) => q1668 (v1815,v1816,(IntKind.i64.wrap (v1790 + (1:Int))))
def f88.j1825 (k:Nat) (v1790:Int) (r31:(List (List Int))) (x0:((List (Int × (Int × Int))) × ((List (Int × (Int × (Int × (Int × (Int × ByteArray)))))) × (List (Int × Int))))) (v1584:(List Int)) (v1651:Int) (v1788:(List Int)) (v1819:Int) (q1817:((List Int) × (List Int))→Option (List Int)):(List Int)→Option (List Int)
 | v1824 => if (0≤v1790∧v1790 < (List.length (List.getD r31 (Int.toNat (List.getD x0.2.1 (Int.toNat (List.getD v1584 (Int.toNat v1651) (0:Int))) ((0:Int),((0:Int),((0:Int),((0:Int),((0:Int),(⟨#[]⟩:ByteArray))))))).2.1) ([]:(List Int))):Int)) then (if (0 ≤ (List.getD (List.getD r31 (Int.toNat (List.getD x0.2.1 (Int.toNat (List.getD v1584 (Int.toNat v1651) (0:Int))) ((0:Int),((0:Int),((0:Int),((0:Int),((0:Int),(⟨#[]⟩:ByteArray))))))).2.1) ([]:(List Int))) (Int.toNat v1790) (0:Int)) ∧ (List.getD (List.getD r31 (Int.toNat (List.getD x0.2.1 (Int.toNat (List.getD v1584 (Int.toNat v1651) (0:Int))) ((0:Int),((0:Int),((0:Int),((0:Int),((0:Int),(⟨#[]⟩:ByteArray))))))).2.1) ([]:(List Int))) (Int.toNat v1790) (0:Int)) < (List.length v1788:Int)) then (q1817 ((List.set v1788 (Int.toNat (List.getD (List.getD r31 (Int.toNat (List.getD x0.2.1 (Int.toNat (List.getD v1584 (Int.toNat v1651) (0:Int))) ((0:Int),((0:Int),((0:Int),((0:Int),((0:Int),(⟨#[]⟩:ByteArray))))))).2.1) ([]:(List Int))) (Int.toNat v1790) (0:Int))) v1819),v1824)) else none) else none
def f88.l1668 (k:Nat) (r31:(List (List Int))) (x0:((List (Int × (Int × Int))) × ((List (Int × (Int × (Int × (Int × (Int × ByteArray)))))) × (List (Int × Int))))) (v1584:(List Int)) (v1651:Int) (v1583:(List Bool)) (v1666:(List Int)) (q1028:((List Int) × (List Int) × (List Bool) × (List Int))→Option (List Int)):Nat → ((List Int) × (List Int) × Int)→Option (List Int)
 | 0,_ => none
 | m1668+1,(v1788,v1789,v1790) => if (decide (v1790 < (List.length (List.getD r31 (Int.toNat (List.getD x0.2.1 (Int.toNat (List.getD v1584 (Int.toNat v1651) (0:Int))) ((0:Int),((0:Int),((0:Int),((0:Int),((0:Int),(⟨#[]⟩:ByteArray))))))).2.1) ([]:(List Int))):Int))) then (if (0≤v1790∧v1790 < (List.length (List.getD r31 (Int.toNat (List.getD x0.2.1 (Int.toNat (List.getD v1584 (Int.toNat v1651) (0:Int))) ((0:Int),((0:Int),((0:Int),((0:Int),((0:Int),(⟨#[]⟩:ByteArray))))))).2.1) ([]:(List Int))):Int)) then ((f153 k x0 (List.getD v1584 (Int.toNat v1651) (0:Int)) (List.getD (List.getD r31 (Int.toNat (List.getD x0.2.1 (Int.toNat (List.getD v1584 (Int.toNat v1651) (0:Int))) ((0:Int),((0:Int),((0:Int),((0:Int),((0:Int),(⟨#[]⟩:ByteArray))))))).2.1) ([]:(List Int))) (Int.toNat v1790) (0:Int))).bind fun r1818 => (if (0≤v1790∧v1790 < (List.length (List.getD r31 (Int.toNat (List.getD x0.2.1 (Int.toNat (List.getD v1584 (Int.toNat v1651) (0:Int))) ((0:Int),((0:Int),((0:Int),((0:Int),((0:Int),(⟨#[]⟩:ByteArray))))))).2.1) ([]:(List Int))):Int)) then (if (0 ≤ (List.getD (List.getD r31 (Int.toNat (List.getD x0.2.1 (Int.toNat (List.getD v1584 (Int.toNat v1651) (0:Int))) ((0:Int),((0:Int),((0:Int),((0:Int),((0:Int),(⟨#[]⟩:ByteArray))))))).2.1) ([]:(List Int))) (Int.toNat v1790) (0:Int)) ∧ (List.getD (List.getD r31 (Int.toNat (List.getD x0.2.1 (Int.toNat (List.getD v1584 (Int.toNat v1651) (0:Int))) ((0:Int),((0:Int),((0:Int),((0:Int),((0:Int),(⟨#[]⟩:ByteArray))))))).2.1) ([]:(List Int))) (Int.toNat v1790) (0:Int)) < (List.length (List.set v1583 (Int.toNat (List.getD v1584 (Int.toNat v1651) (0:Int))) true):Int)) then (if (bif (List.getD (List.set v1583 (Int.toNat (List.getD v1584 (Int.toNat v1651) (0:Int))) true) (Int.toNat (List.getD (List.getD r31 (Int.toNat (List.getD x0.2.1 (Int.toNat (List.getD v1584 (Int.toNat v1651) (0:Int))) ((0:Int),((0:Int),((0:Int),((0:Int),((0:Int),(⟨#[]⟩:ByteArray))))))).2.1) ([]:(List Int))) (Int.toNat v1790) (0:Int))) false) then true else (decide (r1818 < (0:Int)))) then (f88.j1817 k v1790 ((f88.l1668 k r31 x0 v1584 v1651 v1583 v1666 q1028) m1668) (v1788,v1789)) else (if (0 ≤ (List.getD v1584 (Int.toNat v1651) (0:Int)) ∧ (List.getD v1584 (Int.toNat v1651) (0:Int)) < (List.length v1788:Int)) then (if (0≤v1790∧v1790 < (List.length (List.getD r31 (Int.toNat (List.getD x0.2.1 (Int.toNat (List.getD v1584 (Int.toNat v1651) (0:Int))) ((0:Int),((0:Int),((0:Int),((0:Int),((0:Int),(⟨#[]⟩:ByteArray))))))).2.1) ([]:(List Int))):Int)) then (if (0 ≤ (List.getD (List.getD r31 (Int.toNat (List.getD x0.2.1 (Int.toNat (List.getD v1584 (Int.toNat v1651) (0:Int))) ((0:Int),((0:Int),((0:Int),((0:Int),((0:Int),(⟨#[]⟩:ByteArray))))))).2.1) ([]:(List Int))) (Int.toNat v1790) (0:Int)) ∧ (List.getD (List.getD r31 (Int.toNat (List.getD x0.2.1 (Int.toNat (List.getD v1584 (Int.toNat v1651) (0:Int))) ((0:Int),((0:Int),((0:Int),((0:Int),((0:Int),(⟨#[]⟩:ByteArray))))))).2.1) ([]:(List Int))) (Int.toNat v1790) (0:Int)) < (List.length x0.2.1:Int)) then ((some ((IntKind.i64.wrap ((IntKind.i64.wrap ((List.getD v1788 (Int.toNat (List.getD v1584 (Int.toNat v1651) (0:Int))) (0:Int))+r1818)) + (List.getD x0.2.1 (Int.toNat (List.getD (List.getD r31 (Int.toNat (List.getD x0.2.1 (Int.toNat (List.getD v1584 (Int.toNat v1651) (0:Int))) ((0:Int),((0:Int),((0:Int),((0:Int),((0:Int),(⟨#[]⟩:ByteArray))))))).2.1) ([]:(List Int))) (Int.toNat v1790) (0:Int))) ((0:Int),((0:Int),((0:Int),((0:Int),((0:Int),(⟨#[]⟩:ByteArray))))))).2.2.2.1)):Int)).bind fun v1819 => (if (0≤v1790∧v1790 < (List.length (List.getD r31 (Int.toNat (List.getD x0.2.1 (Int.toNat (List.getD v1584 (Int.toNat v1651) (0:Int))) ((0:Int),((0:Int),((0:Int),((0:Int),((0:Int),(⟨#[]⟩:ByteArray))))))).2.1) ([]:(List Int))):Int)) then (if (0 ≤ (List.getD (List.getD r31 (Int.toNat (List.getD x0.2.1 (Int.toNat (List.getD v1584 (Int.toNat v1651) (0:Int))) ((0:Int),((0:Int),((0:Int),((0:Int),((0:Int),(⟨#[]⟩:ByteArray))))))).2.1) ([]:(List Int))) (Int.toNat v1790) (0:Int)) ∧ (List.getD (List.getD r31 (Int.toNat (List.getD x0.2.1 (Int.toNat (List.getD v1584 (Int.toNat v1651) (0:Int))) ((0:Int),((0:Int),((0:Int),((0:Int),((0:Int),(⟨#[]⟩:ByteArray))))))).2.1) ([]:(List Int))) (Int.toNat v1790) (0:Int)) < (List.length v1788:Int)) then (if (decide (((List.getD v1788 (Int.toNat (List.getD (List.getD r31 (Int.toNat (List.getD x0.2.1 (Int.toNat (List.getD v1584 (Int.toNat v1651) (0:Int))) ((0:Int),((0:Int),((0:Int),((0:Int),((0:Int),(⟨#[]⟩:ByteArray))))))).2.1) ([]:(List Int))) (Int.toNat v1790) (0:Int))) (0:Int)):Int) < (0:Int))) then (if (0≤v1790∧v1790 < (List.length (List.getD r31 (Int.toNat (List.getD x0.2.1 (Int.toNat (List.getD v1584 (Int.toNat v1651) (0:Int))) ((0:Int),((0:Int),((0:Int),((0:Int),((0:Int),(⟨#[]⟩:ByteArray))))))).2.1) ([]:(List Int))):Int)) then (if ((List.length v1789+List.length [(List.getD (List.getD r31 (Int.toNat (List.getD x0.2.1 (Int.toNat (List.getD v1584 (Int.toNat v1651) (0:Int))) ((0:Int),((0:Int),((0:Int),((0:Int),((0:Int),(⟨#[]⟩:ByteArray))))))).2.1) ([]:(List Int))) (Int.toNat v1790) (0:Int))])*8≤140737488355328) then (f88.j1825 k v1790 r31 x0 v1584 v1651 v1788 v1819 (f88.j1817 k v1790 ((f88.l1668 k r31 x0 v1584 v1651 v1583 v1666 q1028) m1668)) (v1789 ++ [(List.getD (List.getD r31 (Int.toNat (List.getD x0.2.1 (Int.toNat (List.getD v1584 (Int.toNat v1651) (0:Int))) ((0:Int),((0:Int),((0:Int),((0:Int),((0:Int),(⟨#[]⟩:ByteArray))))))).2.1) ([]:(List Int))) (Int.toNat v1790) (0:Int))])) else none) else none) else (if (0≤v1790∧v1790 < (List.length (List.getD r31 (Int.toNat (List.getD x0.2.1 (Int.toNat (List.getD v1584 (Int.toNat v1651) (0:Int))) ((0:Int),((0:Int),((0:Int),((0:Int),((0:Int),(⟨#[]⟩:ByteArray))))))).2.1) ([]:(List Int))):Int)) then (if (0 ≤ (List.getD (List.getD r31 (Int.toNat (List.getD x0.2.1 (Int.toNat (List.getD v1584 (Int.toNat v1651) (0:Int))) ((0:Int),((0:Int),((0:Int),((0:Int),((0:Int),(⟨#[]⟩:ByteArray))))))).2.1) ([]:(List Int))) (Int.toNat v1790) (0:Int)) ∧ (List.getD (List.getD r31 (Int.toNat (List.getD x0.2.1 (Int.toNat (List.getD v1584 (Int.toNat v1651) (0:Int))) ((0:Int),((0:Int),((0:Int),((0:Int),((0:Int),(⟨#[]⟩:ByteArray))))))).2.1) ([]:(List Int))) (Int.toNat v1790) (0:Int)) < (List.length v1788:Int)) then (if (decide (v1819 ≥ (List.getD v1788 (Int.toNat (List.getD (List.getD r31 (Int.toNat (List.getD x0.2.1 (Int.toNat (List.getD v1584 (Int.toNat v1651) (0:Int))) ((0:Int),((0:Int),((0:Int),((0:Int),((0:Int),(⟨#[]⟩:ByteArray))))))).2.1) ([]:(List Int))) (Int.toNat v1790) (0:Int))) (0:Int)))) then (f88.j1817 k v1790 ((f88.l1668 k r31 x0 v1584 v1651 v1583 v1666 q1028) m1668) (v1788,v1789)) else (f88.j1825 k v1790 r31 x0 v1584 v1651 v1788 v1819 (f88.j1817 k v1790 ((f88.l1668 k r31 x0 v1584 v1651 v1583 v1666 q1028) m1668)) v1789)) else none) else none)) else none) else none)) else none) else none) else none)) else none) else none)) else none) else (q1028 (v1666,v1788,(List.set v1583 (Int.toNat (List.getD v1584 (Int.toNat v1651) (0:Int))) true),v1789))
def f88.j1667 (k:Nat) (x0:((List (Int × (Int × Int))) × ((List (Int × (Int × (Int × (Int × (Int × ByteArray)))))) × (List (Int × Int))))) (v1584:(List Int)) (v1651:Int) (r31:(List (List Int))) (v1583:(List Bool)) (v1582:(List Int)) (q1028:((List Int) × (List Int) × (List Bool) × (List Int))→Option (List Int)):(List Int)→Option (List Int)
 | v1666 => if (0 ≤ (List.getD x0.2.1 (Int.toNat (List.getD v1584 (Int.toNat v1651) (0:Int))) ((0:Int),((0:Int),((0:Int),((0:Int),((0:Int),(⟨#[]⟩:ByteArray))))))).2.1 ∧ (List.getD x0.2.1 (Int.toNat (List.getD v1584 (Int.toNat v1651) (0:Int))) ((0:Int),((0:Int),((0:Int),((0:Int),((0:Int),(⟨#[]⟩:ByteArray))))))).2.1 < (List.length r31:Int)) then (f88.l1668 k r31 x0 v1584 v1651 v1583 v1666 (q1028) k (v1582,(List.take (Int.toNat (IntKind.i64.wrap ((List.length (List.set v1584 (Int.toNat v1651) (List.getD v1584 (Int.toNat (IntKind.i64.wrap ((List.length v1584:Int) - (1:Int)))) (0:Int))):Int) - (1:Int)))) (List.set v1584 (Int.toNat v1651) (List.getD v1584 (Int.toNat (IntKind.i64.wrap ((List.length v1584:Int) - (1:Int)))) (0:Int)))),(0:Int))) else none
def f88.l1624 (k:Nat) (v1584:(List Int)) (v1582:(List Int)) (v1583:(List Bool)) (x0:((List (Int × (Int × Int))) × ((List (Int × (Int × (Int × (Int × (Int × ByteArray)))))) × (List (Int × Int))))) (v1581:(List Int)) (r31:(List (List Int))) (q1028:((List Int) × (List Int) × (List Bool) × (List Int))→Option (List Int)):Nat → (Int × Int)→Option (List Int)
 | 0,_ => none
 | m1624+1,(v1651,v1652) => if (decide (v1652 < (List.length v1584:Int))) then (if (0≤v1652∧v1652 < (List.length v1584:Int)) then (if (0 ≤ (List.getD v1584 (Int.toNat v1652) (0:Int)) ∧ (List.getD v1584 (Int.toNat v1652) (0:Int)) < (List.length v1582:Int)) then (if (0≤v1651∧v1651 < (List.length v1584:Int)) then (if (0 ≤ (List.getD v1584 (Int.toNat v1651) (0:Int)) ∧ (List.getD v1584 (Int.toNat v1651) (0:Int)) < (List.length v1582:Int)) then (if (decide (((List.getD v1582 (Int.toNat (List.getD v1584 (Int.toNat v1652) (0:Int))) (0:Int)):Int) < (List.getD v1582 (Int.toNat (List.getD v1584 (Int.toNat v1651) (0:Int))) (0:Int)))) then (f88.j1658 k v1652 ((f88.l1624 k v1584 v1582 v1583 x0 v1581 r31 q1028) m1624) v1652) else (f88.j1658 k v1652 ((f88.l1624 k v1584 v1582 v1583 x0 v1581 r31 q1028) m1624) v1651)) else none) else none) else none) else none) else (if (0≤v1651∧v1651 < (List.length v1584:Int)) then (if (0 ≤ (IntKind.i64.wrap ((List.length v1584:Int) - (1:Int))) ∧ (IntKind.i64.wrap ((List.length v1584:Int) - (1:Int))) < (List.length v1584:Int)) then (if (0≤v1651∧v1651 < (List.length v1584:Int)) then (if ((0:Int) ≤ (IntKind.i64.wrap ((List.length (List.set v1584 (Int.toNat v1651) (List.getD v1584 (Int.toNat (IntKind.i64.wrap ((List.length v1584:Int) - (1:Int)))) (0:Int))):Int) - (1:Int))) ∧ ((IntKind.i64.wrap ((List.length (List.set v1584 (Int.toNat v1651) (List.getD v1584 (Int.toNat (IntKind.i64.wrap ((List.length v1584:Int) - (1:Int)))) (0:Int))):Int) - (1:Int))):Int) ≤ (List.length (List.set v1584 (Int.toNat v1651) (List.getD v1584 (Int.toNat (IntKind.i64.wrap ((List.length v1584:Int) - (1:Int)))) (0:Int))):Int)) then (if (0 ≤ (List.getD v1584 (Int.toNat v1651) (0:Int)) ∧ (List.getD v1584 (Int.toNat v1651) (0:Int)) < (List.length v1583:Int)) then (if (0 ≤ (List.getD v1584 (Int.toNat v1651) (0:Int)) ∧ (List.getD v1584 (Int.toNat v1651) (0:Int)) < (List.length x0.2.1:Int)) then (if (0 ≤ (List.getD x0.2.1 (Int.toNat (List.getD v1584 (Int.toNat v1651) (0:Int))) ((0:Int),((0:Int),((0:Int),((0:Int),((0:Int),(⟨#[]⟩:ByteArray))))))).2.1 ∧ (List.getD x0.2.1 (Int.toNat (List.getD v1584 (Int.toNat v1651) (0:Int))) ((0:Int),((0:Int),((0:Int),((0:Int),((0:Int),(⟨#[]⟩:ByteArray))))))).2.1 < (List.length v1581:Int)) then (if (((decide (((List.getD v1581 (Int.toNat (List.getD x0.2.1 (Int.toNat (List.getD v1584 (Int.toNat v1651) (0:Int))) ((0:Int),((0:Int),((0:Int),((0:Int),((0:Int),(⟨#[]⟩:ByteArray))))))).2.1) (0:Int)):Int) < (0:Int)))=false) → (0 ≤ (List.getD v1584 (Int.toNat v1651) (0:Int)) ∧ (List.getD v1584 (Int.toNat v1651) (0:Int)) < (List.length v1582:Int))) then (if (((decide (((List.getD v1581 (Int.toNat (List.getD x0.2.1 (Int.toNat (List.getD v1584 (Int.toNat v1651) (0:Int))) ((0:Int),((0:Int),((0:Int),((0:Int),((0:Int),(⟨#[]⟩:ByteArray))))))).2.1) (0:Int)):Int) < (0:Int)))=false) → (0 ≤ (List.getD x0.2.1 (Int.toNat (List.getD v1584 (Int.toNat v1651) (0:Int))) ((0:Int),((0:Int),((0:Int),((0:Int),((0:Int),(⟨#[]⟩:ByteArray))))))).2.1 ∧ (List.getD x0.2.1 (Int.toNat (List.getD v1584 (Int.toNat v1651) (0:Int))) ((0:Int),((0:Int),((0:Int),((0:Int),((0:Int),(⟨#[]⟩:ByteArray))))))).2.1 < (List.length v1581:Int))) then ((some ((bif (decide (((List.getD v1581 (Int.toNat (List.getD x0.2.1 (Int.toNat (List.getD v1584 (Int.toNat v1651) (0:Int))) ((0:Int),((0:Int),((0:Int),((0:Int),((0:Int),(⟨#[]⟩:ByteArray))))))).2.1) (0:Int)):Int) < (0:Int))) then true else (decide (((List.getD v1582 (Int.toNat (List.getD v1584 (Int.toNat v1651) (0:Int))) (0:Int)):Int) < (List.getD v1581 (Int.toNat (List.getD x0.2.1 (Int.toNat (List.getD v1584 (Int.toNat v1651) (0:Int))) ((0:Int),((0:Int),((0:Int),((0:Int),((0:Int),(⟨#[]⟩:ByteArray))))))).2.1) (0:Int))))):Bool)).bind fun v1663 => (if v1663 then (if (0 ≤ (List.getD v1584 (Int.toNat v1651) (0:Int)) ∧ (List.getD v1584 (Int.toNat v1651) (0:Int)) < (List.length v1582:Int)) then (if (0 ≤ (List.getD x0.2.1 (Int.toNat (List.getD v1584 (Int.toNat v1651) (0:Int))) ((0:Int),((0:Int),((0:Int),((0:Int),((0:Int),(⟨#[]⟩:ByteArray))))))).2.1 ∧ (List.getD x0.2.1 (Int.toNat (List.getD v1584 (Int.toNat v1651) (0:Int))) ((0:Int),((0:Int),((0:Int),((0:Int),((0:Int),(⟨#[]⟩:ByteArray))))))).2.1 < (List.length v1581:Int)) then (f88.j1667 k x0 v1584 v1651 r31 v1583 v1582 (q1028) (List.set v1581 (Int.toNat (List.getD x0.2.1 (Int.toNat (List.getD v1584 (Int.toNat v1651) (0:Int))) ((0:Int),((0:Int),((0:Int),((0:Int),((0:Int),(⟨#[]⟩:ByteArray))))))).2.1) (List.getD v1582 (Int.toNat (List.getD v1584 (Int.toNat v1651) (0:Int))) (0:Int)))) else none) else none) else (f88.j1667 k x0 v1584 v1651 r31 v1583 v1582 (q1028) v1581))) else none) else none) else none) else none) else none) else none) else none) else none) else none)
def f88.l1028 (k:Nat) (x0:((List (Int × (Int × Int))) × ((List (Int × (Int × (Int × (Int × (Int × ByteArray)))))) × (List (Int × Int))))) (r31:(List (List Int))):Nat → ((List Int) × (List Int) × (List Bool) × (List Int))→Option (List Int)
 | 0,_ => none
 | m1028+1,(v1581,v1582,v1583,v1584) => if (decide (((List.length v1584:Int):Int) > (0:Int))) then (f88.l1624 k v1584 v1582 v1583 x0 v1581 r31 ((f88.l1028 k x0 r31) m1028) k ((0:Int),(1:Int))) else (some v1581)
def f88.l132 (k:Nat) (x1:Int) (r31:(List (List Int))) (x0:((List (Int × (Int × Int))) × ((List (Int × (Int × (Int × (Int × (Int × ByteArray)))))) × (List (Int × Int))))) (v27:(List Int)):Nat → ((List Int) × (List Int) × Int)→Option (List Int)
 | 0,_ => none
 | m132+1,(v180,v181,v182) => if (0≤x1∧x1 < (List.length r31:Int)) then (if (decide (v182 < (List.length (List.getD r31 (Int.toNat x1) ([]:(List Int))):Int))) then (if (0≤x1∧x1 < (List.length r31:Int)) then (if (0≤v182∧v182 < (List.length (List.getD r31 (Int.toNat x1) ([]:(List Int))):Int)) then (if (0≤x1∧x1 < (List.length r31:Int)) then (if (0≤v182∧v182 < (List.length (List.getD r31 (Int.toNat x1) ([]:(List Int))):Int)) then (if (0 ≤ (List.getD (List.getD r31 (Int.toNat x1) ([]:(List Int))) (Int.toNat v182) (0:Int)) ∧ (List.getD (List.getD r31 (Int.toNat x1) ([]:(List Int))) (Int.toNat v182) (0:Int)) < (List.length x0.2.1:Int)) then (if (0 ≤ (List.getD (List.getD r31 (Int.toNat x1) ([]:(List Int))) (Int.toNat v182) (0:Int)) ∧ (List.getD (List.getD r31 (Int.toNat x1) ([]:(List Int))) (Int.toNat v182) (0:Int)) < (List.length v180:Int)) then (if (0≤x1∧x1 < (List.length r31:Int)) then (if (0≤v182∧v182 < (List.length (List.getD r31 (Int.toNat x1) ([]:(List Int))):Int)) then (if ((List.length v181+List.length [(List.getD (List.getD r31 (Int.toNat x1) ([]:(List Int))) (Int.toNat v182) (0:Int))])*8≤140737488355328) then ((f88.l132 k x1 r31 x0 v27) m132 ((List.set v180 (Int.toNat (List.getD (List.getD r31 (Int.toNat x1) ([]:(List Int))) (Int.toNat v182) (0:Int))) (List.getD x0.2.1 (Int.toNat (List.getD (List.getD r31 (Int.toNat x1) ([]:(List Int))) (Int.toNat v182) (0:Int))) ((0:Int),((0:Int),((0:Int),((0:Int),((0:Int),(⟨#[]⟩:ByteArray))))))).2.2.2.1),(v181 ++ [(List.getD (List.getD r31 (Int.toNat x1) ([]:(List Int))) (Int.toNat v182) (0:Int))]),(IntKind.i64.wrap (v182 + (1:Int))))) else none) else none) else none) else none) else none) else none) else none) else none) else none) else (f88.l1028 k x0 r31 k ((List.set v27 (Int.toNat x1) (0:Int)),v180,(List.replicate (Int.toNat (List.length x0.2.1:Int)) false),v181))) else none
def f88.l47 (k:Nat) (x0:((List (Int × (Int × Int))) × ((List (Int × (Int × (Int × (Int × (Int × ByteArray)))))) × (List (Int × Int))))) (x1:Int) (r31:(List (List Int))) (v27:(List Int)):Nat → ((List Int) × Int)→Option (List Int)
 | 0,_ => none
 | m47+1,(v58,v59) => if (decide (v59 < (List.length x0.2.1:Int))) then (if (0≤v59∧v59 < (List.length v58:Int)) then ((f88.l47 k x0 x1 r31 v27) m47 ((List.set v58 (Int.toNat v59) (-1:Int)),(IntKind.i64.wrap (v59 + (1:Int))))) else none) else (f88.l132 k x1 r31 x0 v27 k (v58,([]:List Int),(0:Int)))
def f88.l16 (k:Nat) (x1:Int) (x0:((List (Int × (Int × Int))) × ((List (Int × (Int × (Int × (Int × (Int × ByteArray)))))) × (List (Int × Int))))):Nat → ((List Int) × Int)→Option (List Int)
 | 0,_ => none
 | m16+1,(v27,v28) => if (decide (v28 < (List.length v27:Int))) then (if (0≤v28∧v28 < (List.length v27:Int)) then ((f88.l16 k x1 x0) m16 ((List.set v27 (Int.toNat v28) (-1:Int)),(IntKind.i64.wrap (v28 + (1:Int))))) else none) else (if (0≤x1∧x1 < (List.length v27:Int)) then (if (0 ≤ (List.length x0.2.1:Int)∧Int.toNat (List.length x0.2.1:Int)*8≤140737488355328) then (if (0 ≤ (List.length x0.2.1:Int)∧Int.toNat (List.length x0.2.1:Int)*1≤140737488355328) then ((f152 k x0 false).bind fun r31 => (f88.l47 k x0 x1 r31 v27 k ((List.replicate (Int.toNat (List.length x0.2.1:Int)) (0:Int)),(0:Int)))) else none) else none) else none)
def f88 (k:Nat) (x0:((List (Int × (Int × Int))) × ((List (Int × (Int × (Int × (Int × (Int × ByteArray)))))) × (List (Int × Int))))) (x1:Int):Option (List Int):=if (0 ≤ (List.length x0.1:Int)∧Int.toNat (List.length x0.1:Int)*8≤140737488355328) then (f88.l16 k x1 x0 k ((List.replicate (Int.toNat (List.length x0.1:Int)) (0:Int)),(0:Int))) else none
theorem c88 (k:Nat) (x0:tG) (x1:Int) (r:(List Int)) (hF:f88 k x0 x1=some r):PCall Try.prog 88 [⟨sh12,x0⟩,⟨iS,x1⟩] [⟨(.sl true 2 iS),r⟩]:=by
 refine pcall_intro Try.func88 rfl rfl (Nat.le_of_ble_eq_true rfl) ?_
 intro w0 Zi a w h
 rw [f88] at hF
 refine zs [1,2] h an fun a w h => ?_
 refine zs [1,2,5] h an fun a w h => ?_
 obtain ⟨hc1860,hF⟩:=of_if hF
 refine zs [1,2,5,6] h (ac hc1860 an) fun a w h => ?_
 refine wp_seq ?_
 refine zs [1,2,5,6,7] h an fun a w h => ?_
 refine wp_block ?_
 refine wp_loop_fuel (f88.l16 k x1 x0) (fun ((v27,v28):((List Int) × Int)) => [(1,.val iS x1),(2,.val sh11 (some x0)),(5,.val iS (List.length x0.2.1:Int)),(6,.val (.sl true 2 iS) v27),(7,.val iS v28)]) (fun v h => by obtain ⟨v27,v28⟩:=v; rw [f88.l16] at h; cases h) ?_ hF (ar h [1,2,5,6,7])
 intro m16 v a w hF h
 obtain ⟨v27,v28⟩:=v
 rw [f88.l16] at hF
 refine wp_seq ?_
 refine zs [1,2,5,6,7,32] h an fun a w h => ?_
 refine zi h hF (fun hF => ?_) (fun hF => ?_)
 ·refine wp_skip ?_
  refine wp_seq <| wp_block ?_
  obtain ⟨hc30,hF⟩:=of_if hF
  refine zt [1,2,5,6,7] h (ac hc30 an) fun a w h => ?_
  refine zt [1,2,5,6,7] h an fun a w h => ?_
  exact ⟨((List.set v27 (tZ v28) (-1:Int)),(w64 (v28 + (1:Int)))),hF,ar h [1,2,5,6,7]⟩
 ·refine wp_exit ?_
  obtain ⟨hc1859,hF⟩:=of_if hF
  refine zs [1,2,5,6] h (ac hc1859 an) fun a w h => ?_
  obtain ⟨hc1858,hF⟩:=of_if hF
  refine zs [1,2,5,6,8] h (ac hc1858 an) fun a w h => ?_
  obtain ⟨hc1857,hF⟩:=of_if hF
  refine zs [1,2,5,6,8,9] h (ac hc1857 an) fun a w h => ?_
  refine zs [1,2,5,6,8,9,10] h an fun a w h => ?_
  obtain ⟨r31,hr1856,hF⟩:=of_bind hF
  refine zc (orcL [(47,[⟨sh13,r31⟩])]) [1,2,5,6,8,9,10,11] h (ac (c152 k x0 false r31 hr1856) an) fun a w h => ?_
  refine wp_seq ?_
  refine zs [1,2,5,6,8,9,10,11,12] h an fun a w h => ?_
  refine wp_block ?_
  refine wp_loop_fuel (f88.l47 k x0 x1 r31 v27) (fun ((v58,v59):((List Int) × Int)) => [(1,.val iS x1),(2,.val sh11 (some x0)),(5,.val iS (List.length x0.2.1:Int)),(6,.val (.sl true 2 iS) (List.set v27 (tZ x1) iO)),(8,.val (.sl true 2 iS) v58),(9,.val (.sl true 4 .bool) (List.replicate (tZ (List.length x0.2.1:Int)) false)),(10,.val (.sl true 2 iS) ([]:List Int)),(11,.val sh13 r31),(12,.val iS v59)]) (fun v h => by obtain ⟨v58,v59⟩:=v; rw [f88.l47] at h; cases h) ?_ hF (ar h [1,2,5,6,8,9,10,11,12])
  intro m47 v a w hF h
  obtain ⟨v58,v59⟩:=v
  rw [f88.l47] at hF
  refine wp_seq ?_
  refine zs [1,2,5,6,8,9,10,11,12,50] h an fun a w h => ?_
  refine zi h hF (fun hF => ?_) (fun hF => ?_)
  ·refine wp_skip ?_
   refine wp_seq <| wp_block ?_
   obtain ⟨hc61,hF⟩:=of_if hF
   refine zt [1,2,5,6,8,9,10,11,12] h (ac hc61 an) fun a w h => ?_
   refine zt [1,2,5,6,8,9,10,11,12] h an fun a w h => ?_
   exact ⟨((List.set v58 (tZ v59) (-1:Int)),(w64 (v59 + (1:Int)))),hF,ar h [1,2,5,6,8,9,10,11,12]⟩
  ·refine wp_exit ?_
   refine wp_seq ?_
   refine zs [1,2,6,8,9,10,11,13] h an fun a w h => ?_
   refine wp_block ?_
   refine wp_loop_fuel (f88.l132 k x1 r31 x0 v27) (fun ((v180,v181,v182):((List Int) × (List Int) × Int)) => [(1,.val iS x1),(2,.val sh11 (some x0)),(6,.val (.sl true 2 iS) (List.set v27 (tZ x1) iO)),(8,.val (.sl true 2 iS) v180),(9,.val (.sl true 4 .bool) (List.replicate (tZ (List.length x0.2.1:Int)) false)),(10,.val (.sl true 2 iS) v181),(11,.val sh13 r31),(13,.val iS v182)]) (fun v h => by obtain ⟨v180,v181,v182⟩:=v; rw [f88.l132] at h; cases h) ?_ hF (ar h [1,2,6,8,9,10,11,13])
   intro m132 v a w hF h
   obtain ⟨v180,v181,v182⟩:=v
   rw [f88.l132] at hF
   refine wp_seq ?_
   obtain ⟨hc1855,hF⟩:=of_if hF
   refine zs [1,2,6,8,9,10,11,13,62] h (ac hc1855 an) fun a w h => ?_
   refine zi h hF (fun hF => ?_) (fun hF => ?_)
   ·refine wp_skip ?_
    refine wp_seq <| wp_block ?_
    obtain ⟨hc195,hF⟩:=of_if hF
    obtain ⟨hc196,hF⟩:=of_if hF
    obtain ⟨hc197,hF⟩:=of_if hF
    obtain ⟨hc198,hF⟩:=of_if hF
    obtain ⟨hc199,hF⟩:=of_if hF
    obtain ⟨hc200,hF⟩:=of_if hF
    refine wp_regy_seq tok (orc:=o0) (l:=[1,2,6,8,9,10,11,13]) ([],[],[],[]) 21 nw h (by kernel_rfl) (by kernel_rfl) (ac hc195 (ac hc196 (ac hc197 (ac hc198 (ac hc199 (ac hc200 an)))))) fun a w h => ?_
    obtain ⟨hc192,hF⟩:=of_if hF
    obtain ⟨hc193,hF⟩:=of_if hF
    obtain ⟨hc194,hF⟩:=of_if hF
    refine zt [1,2,6,8,9,10,11,13] h (ac hc192 (ac hc193 (ac hc194 an))) fun a w h => ?_
    refine zt [1,2,6,8,9,10,11,13] h an fun a w h => ?_
    exact ⟨((List.set v180 (tZ (gD (gD r31 (tZ x1) lO) (tZ v182) iO)) (gD x0.2.1 (tZ (gD (gD r31 (tZ x1) lO) (tZ v182) iO)) zR).2.2.2.1),(v181 ++ [(gD (gD r31 (tZ x1) lO) (tZ v182) iO)]),(w64 (v182 + (1:Int)))),hF,ar h [1,2,6,8,9,10,11,13]⟩
   ·refine wp_exit ?_
    refine wp_seq <| wp_block ?_
    refine wp_loop_fuel (f88.l1028 k x0 r31) (fun ((v1581,v1582,v1583,v1584):((List Int) × (List Int) × (List Bool) × (List Int))) => [(2,.val sh11 (some x0)),(6,.val (.sl true 2 iS) v1581),(8,.val (.sl true 2 iS) v1582),(9,.val (.sl true 4 .bool) v1583),(10,.val (.sl true 2 iS) v1584),(11,.val sh13 r31)]) (fun v h => by obtain ⟨v1581,v1582,v1583,v1584⟩:=v; rw [f88.l1028] at h; cases h) ?_ hF (ar h [2,6,8,9,10,11])
    intro m1028 v a w hF h
    obtain ⟨v1581,v1582,v1583,v1584⟩:=v
    rw [f88.l1028] at hF
    refine wp_seq ?_
    refine zs [2,6,8,9,10,11,98] h an fun a w h => ?_
    refine zi h hF (fun hF => ?_) (fun hF => ?_)
    ·refine wp_skip ?_
     refine wp_block ?_
     refine zs [2,6,8,9,10,11,14] h an fun a w h => ?_
     refine wp_seq ?_
     refine zs [2,6,8,9,10,11,14,15] h an fun a w h => ?_
     refine wp_block ?_
     refine wp_loop_fuel (f88.l1624 k v1584 v1582 v1583 x0 v1581 r31 ((f88.l1028 k x0 r31) m1028)) (fun ((v1651,v1652):(Int × Int)) => [(2,.val sh11 (some x0)),(6,.val (.sl true 2 iS) v1581),(8,.val (.sl true 2 iS) v1582),(9,.val (.sl true 4 .bool) v1583),(10,.val (.sl true 2 iS) v1584),(11,.val sh13 r31),(14,.val iS v1651),(15,.val iS v1652)]) (fun v h => by obtain ⟨v1651,v1652⟩:=v; rw [f88.l1624] at h; cases h) ?_ hF (ar h [2,6,8,9,10,11,14,15])
     intro m1624 v a w hF h
     obtain ⟨v1651,v1652⟩:=v
     rw [f88.l1624] at hF
     refine wp_seq ?_
     refine zs [2,6,8,9,10,11,14,15,102] h an fun a w h => ?_
     refine zi h hF (fun hF => ?_) (fun hF => ?_)
     ·refine wp_skip ?_
      refine wp_mid (fun a w => ∃ v:Int,f88.j1658 k v1652 ((f88.l1624 k v1584 v1582 v1583 x0 v1581 r31 ((f88.l1028 k x0 r31) m1028)) m1624) v=some r∧Rel w0 (fun _ => False) Zi Try.f88.ntmps ((fun v1657 => ([(2,.val sh11 (some x0)),(6,.val (.sl true 2 iS) v1581),(8,.val (.sl true 2 iS) v1582),(9,.val (.sl true 4 .bool) v1583),(10,.val (.sl true 2 iS) v1584),(11,.val sh13 r31),(14,.val iS v1657),(15,.val iS v1652)]:SS)) v) a w) ?_ ?_
      ·
       refine wp_block ?_
       obtain ⟨hc1659,hF⟩:=of_if hF
       obtain ⟨hc1660,hF⟩:=of_if hF
       obtain ⟨hc1661,hF⟩:=of_if hF
       obtain ⟨hc1662,hF⟩:=of_if hF
       refine wp_regy_seq tok (orc:=o0) (l:=[2,6,8,9,10,11,14,15,119]) ([],[],[],[]) 15 nw h (by kernel_rfl) (by kernel_rfl) (ac hc1659 (ac hc1660 (ac hc1661 (ac hc1662 an)))) fun a w h => ?_
       refine zi h hF (fun hF => ?_) (fun hF => ?_)
       ·refine zt [2,6,8,9,10,11,14,15] h an fun a w h => ?_
        exact ⟨v1652,hF,ar h [2,6,8,9,10,11,14,15]⟩
       ·refine wp_skip ?_
        exact ⟨v1651,hF,ar h [2,6,8,9,10,11,14,15]⟩
      ·rintro a w ⟨v1657,hF,h⟩
       rw [f88.j1658] at hF
       refine zt [2,6,8,9,10,11,14,15] h an fun a w h => ?_
       exact ⟨(v1657,(w64 (v1652 + (1:Int)))),hF,ar h [2,6,8,9,10,11,14,15]⟩
     ·refine wp_exit ?_
      obtain ⟨hc1854,hF⟩:=of_if hF
      refine zs [2,6,8,9,10,11,14,16] h (ac hc1854 an) fun a w h => ?_
      obtain ⟨hc1852,hF⟩:=of_if hF
      obtain ⟨hc1853,hF⟩:=of_if hF
      refine zs [2,6,8,9,10,11,16] h (ac hc1852 (ac hc1853 an)) fun a w h => ?_
      obtain ⟨hc1851,hF⟩:=of_if hF
      refine zs [2,6,8,9,10,11,16] h (ac hc1851 an) fun a w h => ?_
      obtain ⟨hc1850,hF⟩:=of_if hF
      refine zs [2,6,8,9,10,11,16] h (ac hc1850 an) fun a w h => ?_
      obtain ⟨hc1849,hF⟩:=of_if hF
      refine zs [2,6,8,9,10,11,16,17] h (ac hc1849 an) fun a w h => ?_
      refine wp_seq ?_
      obtain ⟨hc1846,hF⟩:=of_if hF
      obtain ⟨hc1847,hF⟩:=of_if hF
      obtain ⟨hc1848,hF⟩:=of_if hF
      refine wp_regy_seq tok (orc:=o0) (l:=[2,6,8,9,10,11,16,17,163]) ([],[],[],[]) 16 nw h (by kernel_rfl) (by kernel_rfl) (ac hc1846 (ac hc1847 (ac hc1848 an))) fun a w h => ?_
      obtain ⟨v1663,hv1845,hF⟩:=of_bind hF
      replace h:=h.cast (S':=[(2,.val sh11 (some x0)),(6,.val (.sl true 2 iS) v1581),(8,.val (.sl true 2 iS) v1582),(9,.val (.sl true 4 .bool) (List.set v1583 (tZ (gD v1584 (tZ v1651) iO)) true)),(10,.val (.sl true 2 iS) (List.take (tZ (w64 ((List.length (List.set v1584 (tZ v1651) (gD v1584 (tZ (w64 ((List.length v1584:Int) - (1:Int)))) iO)):Int) - (1:Int)))) (List.set v1584 (tZ v1651) (gD v1584 (tZ (w64 ((List.length v1584:Int) - (1:Int)))) iO)))),(11,.val sh13 r31),(16,.val iS (gD v1584 (tZ v1651) iO)),(17,.val iS (gD x0.2.1 (tZ (gD v1584 (tZ v1651) iO)) zR).2.1),(163,.val .bool v1663)]) (by cases hv1845; kernel_rfl)
      refine wp_midT (fun a w => ∃ v:(List Int),f88.j1667 k x0 v1584 v1651 r31 v1583 v1582 ((f88.l1028 k x0 r31) m1028) v=some r∧Rel w0 (fun _ => False) Zi Try.f88.ntmps ((fun (v1666:(List Int)) => ([(2,.val sh11 (some x0)),(6,.val (.sl true 2 iS) v1666),(8,.val (.sl true 2 iS) v1582),(9,.val (.sl true 4 .bool) (List.set v1583 (tZ (gD v1584 (tZ v1651) iO)) true)),(10,.val (.sl true 2 iS) (List.take (tZ (w64 ((List.length (List.set v1584 (tZ v1651) (gD v1584 (tZ (w64 ((List.length v1584:Int) - (1:Int)))) iO)):Int) - (1:Int)))) (List.set v1584 (tZ v1651) (gD v1584 (tZ (w64 ((List.length v1584:Int) - (1:Int)))) iO)))),(11,.val sh13 r31),(16,.val iS (gD v1584 (tZ v1651) iO)),(17,.val iS (gD x0.2.1 (tZ (gD v1584 (tZ v1651) iO)) zR).2.1)]:SS)) v) a w) ?_ ?_
      ·
       refine zi h hF (fun hF => ?_) (fun hF => ?_)
       ·obtain ⟨hc1843,hF⟩:=of_if hF
        obtain ⟨hc1844,hF⟩:=of_if hF
        refine zt [2,6,8,9,10,11,16,17] h (ac hc1843 (ac hc1844 an)) fun a w h => ?_
        exact ⟨(List.set v1581 (tZ (gD x0.2.1 (tZ (gD v1584 (tZ v1651) iO)) zR).2.1) (gD v1582 (tZ (gD v1584 (tZ v1651) iO)) iO)),hF,ar h [2,6,8,9,10,11,16,17]⟩
       ·refine wp_skip ?_
        exact ⟨v1581,hF,ar h [2,6,8,9,10,11,16,17]⟩
      ·rintro a w ⟨v1666,hF,h⟩
       rw [f88.j1667] at hF
       obtain ⟨hc1842,hF⟩:=of_if hF
       refine zs [2,6,8,9,10,11,16,18] h (ac hc1842 an) fun a w h => ?_
       refine zs [2,6,8,9,10,11,16,18,19] h an fun a w h => ?_
       refine wp_block ?_
       refine wp_loop_fuel (f88.l1668 k r31 x0 v1584 v1651 v1583 v1666 ((f88.l1028 k x0 r31) m1028)) (fun ((v1788,v1789,v1790):((List Int) × (List Int) × Int)) => [(2,.val sh11 (some x0)),(6,.val (.sl true 2 iS) v1666),(8,.val (.sl true 2 iS) v1788),(9,.val (.sl true 4 .bool) (List.set v1583 (tZ (gD v1584 (tZ v1651) iO)) true)),(10,.val (.sl true 2 iS) v1789),(11,.val sh13 r31),(16,.val iS (gD v1584 (tZ v1651) iO)),(18,.copy 11 [.idx (tZ (gD x0.2.1 (tZ (gD v1584 (tZ v1651) iO)) zR).2.1)]),(19,.val iS v1790)]) (fun v h => by obtain ⟨v1788,v1789,v1790⟩:=v; rw [f88.l1668] at h; cases h) ?_ hF (ar h [2,6,8,9,10,11,16,18,19])
       intro m1668 v a w hF h
       obtain ⟨v1788,v1789,v1790⟩:=v
       rw [f88.l1668] at hF
       refine wp_seq ?_
       refine zs [2,6,8,9,10,11,16,18,19,178] h an fun a w h => ?_
       refine zi h hF (fun hF => ?_) (fun hF => ?_)
       ·refine wp_skip ?_
        refine wp_mid (fun a w => ∃ v:((List Int) × (List Int)),f88.j1817 k v1790 ((f88.l1668 k r31 x0 v1584 v1651 v1583 v1666 ((f88.l1028 k x0 r31) m1028)) m1668) v=some r∧Rel w0 (fun _ => False) Zi Try.f88.ntmps ((fun ((v1815,v1816):((List Int) × (List Int))) => ([(2,.val sh11 (some x0)),(6,.val (.sl true 2 iS) v1666),(8,.val (.sl true 2 iS) v1815),(9,.val (.sl true 4 .bool) (List.set v1583 (tZ (gD v1584 (tZ v1651) iO)) true)),(10,.val (.sl true 2 iS) v1816),(11,.val sh13 r31),(16,.val iS (gD v1584 (tZ v1651) iO)),(18,.copy 11 [.idx (tZ (gD x0.2.1 (tZ (gD v1584 (tZ v1651) iO)) zR).2.1)]),(19,.val iS v1790)]:SS)) v) a w) ?_ ?_
        ·
         refine wp_block ?_
         obtain ⟨hc1840,hF⟩:=of_if hF
         obtain ⟨r1818,hr1841,hF⟩:=of_bind hF
         refine wp_regy_seq tok (orc:=orcL [(187,[⟨iS,r1818⟩])]) (l:=[2,6,8,9,10,11,16,18,19,20]) ([],[],[],[]) 8 nw h (by kernel_rfl) (by kernel_rfl) (ac hc1840 (ac (c153 k x0 (gD v1584 (tZ v1651) iO) (gD (gD r31 (tZ (gD x0.2.1 (tZ (gD v1584 (tZ v1651) iO)) zR).2.1) lO) (tZ v1790) iO) r1818 hr1841) an)) fun a w h => ?_
         refine wp_seq ?_
         obtain ⟨hc1838,hF⟩:=of_if hF
         obtain ⟨hc1839,hF⟩:=of_if hF
         refine zs [2,6,8,9,10,11,16,18,19,20,198] h (ac hc1838 (ac hc1839 an)) fun a w h => ?_
         refine zi h hF (fun hF => ?_) (fun hF => ?_)
         ·refine wp_exit ?_
          exact ⟨(v1788,v1789),hF,ar h [2,6,8,9,10,11,16,18,19]⟩
         ·refine wp_skip ?_
          obtain ⟨hc1835,hF⟩:=of_if hF
          obtain ⟨hc1836,hF⟩:=of_if hF
          obtain ⟨hc1837,hF⟩:=of_if hF
          refine wp_regy_seq tok (orc:=o0) (l:=[2,6,8,9,10,11,16,18,19,21]) ([],[],[],[]) 17 nw h (by kernel_rfl) (by kernel_rfl) (ac hc1835 (ac hc1836 (ac hc1837 an))) fun a w h => ?_
          obtain ⟨v1819,hv1834,hF⟩:=of_bind hF
          replace h:=h.cast (S':=[(2,.val sh11 (some x0)),(6,.val (.sl true 2 iS) v1666),(8,.val (.sl true 2 iS) v1788),(9,.val (.sl true 4 .bool) (List.set v1583 (tZ (gD v1584 (tZ v1651) iO)) true)),(10,.val (.sl true 2 iS) v1789),(11,.val sh13 r31),(16,.val iS (gD v1584 (tZ v1651) iO)),(18,.copy 11 [.idx (tZ (gD x0.2.1 (tZ (gD v1584 (tZ v1651) iO)) zR).2.1)]),(19,.val iS v1790),(21,.val iS v1819)]) (by cases hv1834; kernel_rfl)
          refine wp_seq ?_
          obtain ⟨hc1832,hF⟩:=of_if hF
          obtain ⟨hc1833,hF⟩:=of_if hF
          refine zs [2,6,8,9,10,11,16,18,19,21,222] h (ac hc1832 (ac hc1833 an)) fun a w h => ?_
          refine wp_midT (fun a w => ∃ v:(List Int),f88.j1825 k v1790 r31 x0 v1584 v1651 v1788 v1819 (f88.j1817 k v1790 ((f88.l1668 k r31 x0 v1584 v1651 v1583 v1666 ((f88.l1028 k x0 r31) m1028)) m1668)) v=some r∧Rel w0 (fun _ => False) Zi Try.f88.ntmps ((fun (v1824:(List Int)) => ([(2,.val sh11 (some x0)),(6,.val (.sl true 2 iS) v1666),(8,.val (.sl true 2 iS) v1788),(9,.val (.sl true 4 .bool) (List.set v1583 (tZ (gD v1584 (tZ v1651) iO)) true)),(10,.val (.sl true 2 iS) v1824),(11,.val sh13 r31),(16,.val iS (gD v1584 (tZ v1651) iO)),(18,.copy 11 [.idx (tZ (gD x0.2.1 (tZ (gD v1584 (tZ v1651) iO)) zR).2.1)]),(19,.val iS v1790),(21,.val iS v1819)]:SS)) v) a w) ?_ ?_
          ·
           refine zi h hF (fun hF => ?_) (fun hF => ?_)
           ·obtain ⟨hc1828,hF⟩:=of_if hF
            obtain ⟨hc1829,hF⟩:=of_if hF
            refine zt [2,6,8,9,10,11,16,18,19,21] h (ac hc1828 (ac hc1829 an)) fun a w h => ?_
            exact ⟨(v1789 ++ [(gD (gD r31 (tZ (gD x0.2.1 (tZ (gD v1584 (tZ v1651) iO)) zR).2.1) lO) (tZ v1790) iO)]),hF,ar h [2,6,8,9,10,11,16,18,19,21]⟩
           ·obtain ⟨hc1830,hF⟩:=of_if hF
            obtain ⟨hc1831,hF⟩:=of_if hF
            refine zs [2,6,8,9,10,11,16,18,19,21,238] h (ac hc1830 (ac hc1831 an)) fun a w h => ?_
            refine zi h hF (fun hF => ?_) (fun hF => ?_)
            ·refine wp_exit ?_
             exact ⟨(v1788,v1789),hF,ar h [2,6,8,9,10,11,16,18,19]⟩
            ·refine wp_skip ?_
             exact ⟨v1789,hF,ar h [2,6,8,9,10,11,16,18,19,21]⟩
          ·rintro a w ⟨v1824,hF,h⟩
           rw [f88.j1825] at hF
           obtain ⟨hc1826,hF⟩:=of_if hF
           obtain ⟨hc1827,hF⟩:=of_if hF
           refine zt [2,6,8,9,10,11,16,18,19] h (ac hc1826 (ac hc1827 an)) fun a w h => ?_
           exact ⟨((List.set v1788 (tZ (gD (gD r31 (tZ (gD x0.2.1 (tZ (gD v1584 (tZ v1651) iO)) zR).2.1) lO) (tZ v1790) iO)) v1819),v1824),hF,ar h [2,6,8,9,10,11,16,18,19]⟩
        ·rintro a w ⟨v,hF,h⟩
         obtain ⟨v1815,v1816⟩:=v
         rw [f88.j1817] at hF
         refine zt [2,6,8,9,10,11,16,18,19] h an fun a w h => ?_
         exact ⟨(v1815,v1816,(w64 (v1790 + (1:Int)))),hF,ar h [2,6,8,9,10,11,16,18,19]⟩
       ·refine wp_exit ?_
        exact ⟨(v1666,v1788,(List.set v1583 (tZ (gD v1584 (tZ v1651) iO)) true),v1789),hF,ar h [2,6,8,9,10,11]⟩
    ·refine wp_exit ?_
     refine zs [4,6] h an fun a w h => ?_
     cases hF
     exact wp_ret (ret_okR tok h rfl (by kernel_rfl)).1
def f41.j363 (k:Nat) (v331:Int) (q199:((List (Int × Int)) × Int)→Option (List (Int × Int))):(List (Int × Int))→Option (List (Int × Int))
 | v362 => q199 (v362,(IntKind.i64.wrap (v331 + (1:Int))))
def f41.l375 (k:Nat) (v330:(List (Int × Int))) (v331:Int) (r3:(List Int)) (q363:(List (Int × Int))→Option (List (Int × Int))):Nat→Int→Option (List (Int × Int))
 | 0,_ => none
 | m375+1,v383 => if (((decide (v383 > (0:Int)))=true) → (0 ≤ (IntKind.i64.wrap (v383 - (1:Int))) ∧ (IntKind.i64.wrap (v383 - (1:Int))) < (List.length v330:Int))) then (if (((decide (v383 > (0:Int)))=true) → (0≤v331∧v331 < (List.length r3:Int))) then (if (bif (decide (v383 > (0:Int))) then (decide (((List.getD v330 (Int.toNat (IntKind.i64.wrap (v383 - (1:Int)))) ((0:Int),(0:Int))).2:Int) > (List.getD r3 (Int.toNat v331) (0:Int)))) else false) then ((f41.l375 k v330 v331 r3 q363) m375 (IntKind.i64.wrap (v383 - (1:Int)))) else (if (True ∧ ((0:Int)≤v383)∧0 ≤ (Int.toNat v383) ∧ (Int.toNat v383) ≤ (List.length v330)) then (if ((List.length ([]:List (Int × Int))+List.length (List.drop 0 (List.take (Int.toNat v383) v330)))*16≤140737488355328) then (if (0≤v331∧v331 < (List.length r3:Int)) then (if ((List.length (([]:List (Int × Int)) ++ (List.drop 0 (List.take (Int.toNat v383) v330)))+List.length [(v331,(List.getD r3 (Int.toNat v331) (0:Int)))])*16≤140737488355328) then (if (((0:Int)≤v383)∧True ∧ (Int.toNat v383) ≤ (List.length v330) ∧ (List.length v330) ≤ (List.length v330)) then (if ((List.length ((([]:List (Int × Int)) ++ (List.drop 0 (List.take (Int.toNat v383) v330))) ++ [(v331,(List.getD r3 (Int.toNat v331) (0:Int)))])+List.length (List.drop (Int.toNat v383) (List.take (List.length v330) v330)))*16≤140737488355328) then (q363 (((([]:List (Int × Int)) ++ (List.drop 0 (List.take (Int.toNat v383) v330))) ++ [(v331,(List.getD r3 (Int.toNat v331) (0:Int)))]) ++ (List.drop (Int.toNat v383) (List.take (List.length v330) v330)))) else none) else none) else none) else none) else none) else none)) else none) else none
def f41.l199 (k:Nat) (r3:(List Int)) (x2:Int):Nat → ((List (Int × Int)) × Int)→Option (List (Int × Int))
 | 0,_ => none
 | m199+1,(v330,v331) => if (decide (v331 < (List.length r3:Int))) then (if (0≤v331∧v331 < (List.length r3:Int)) then (if (((decide (((List.getD r3 (Int.toNat v331) (0:Int)):Int) < (0:Int)))=false) → (0≤v331∧v331 < (List.length r3:Int))) then (if (bif (decide (((List.getD r3 (Int.toNat v331) (0:Int)):Int) < (0:Int))) then true else (decide (((List.getD r3 (Int.toNat v331) (0:Int)):Int) > x2))) then (f41.j363 k v331 ((f41.l199 k r3 x2) m199) v330) else (f41.l375 k v330 v331 r3 (f41.j363 k v331 ((f41.l199 k r3 x2) m199)) k (List.length v330:Int))) else none) else none) else (some v330)
def f41 (k:Nat) (x0:((List (Int × (Int × Int))) × ((List (Int × (Int × (Int × (Int × (Int × ByteArray)))))) × (List (Int × Int))))) (x1:Int) (x2:Int):Option (List (Int × Int)):=(f86 k x0).bind fun r1 => ((if ((!r1)=false) then f87 k x0 x1 else some default).bind fun r2 => (if (bif (!r1) then true else (!r2)) then (some ([]:List (Int × Int))) else ((f88 k x0 x1).bind fun r3 => (f41.l199 k r3 x2 k (([]:List (Int × Int)),(0:Int))))))
theorem c41 (k:Nat) (x0:tG) (x1:Int) (x2:Int) (r:(List (Int × Int))) (hF:f41 k x0 x1 x2=some r):PCall Try.prog 41 [⟨sh12,x0⟩,⟨iS,x1⟩,⟨iS,x2⟩] [⟨sh15,r⟩]:=by
 refine pcall_intro Try.func41 rfl rfl (Nat.le_of_ble_eq_true rfl) ?_
 intro w0 Zi a w h
 rw [f41] at hF
 refine zs [1,2,3] h an fun a w h => ?_
 refine zs [1,2,3,7] h an fun a w h => ?_
 refine wp_seq ?_
 obtain ⟨r1,hr395,hF⟩:=of_bind hF
 obtain ⟨r2,hr396,hF⟩:=of_bind hF
 refine zc (orcL [(13,[⟨.bool,r1⟩]),(18,[⟨.bool,r2⟩])]) [1,2,3,7,20] h (ac (c86 k x0 r1 hr395) (ac (fun (hg:((!r1)=false)) => c87 k x0 x1 r2 (of_g hg hr396)) an)) fun a w h => ?_
 refine zi h hF (fun hF => ?_) (fun hF => ?_)
 ·refine zs [6,7] h an fun a w h => ?_
  cases hF
  exact wp_ret (ret_okR tok h rfl (by kernel_rfl)).1
 ·refine wp_skip ?_
  obtain ⟨r3,hr394,hF⟩:=of_bind hF
  refine zc (orcL [(24,[⟨(.sl true 2 iS),r3⟩])]) [2,7,8] h (ac (c88 k x0 x1 r3 hr394) an) fun a w h => ?_
  refine wp_seq ?_
  refine zs [2,7,8,9] h an fun a w h => ?_
  refine wp_block ?_
  refine wp_loop_fuel (f41.l199 k r3 x2) (fun ((v330,v331):((List (Int × Int)) × Int)) => [(2,.val iS x2),(7,.val sh15 v330),(8,.val (.sl true 2 iS) r3),(9,.val iS v331)]) (fun v h => by obtain ⟨v330,v331⟩:=v; rw [f41.l199] at h; cases h) ?_ hF (ar h [2,7,8,9])
  intro m199 v a w hF h
  obtain ⟨v330,v331⟩:=v
  rw [f41.l199] at hF
  refine wp_seq ?_
  refine zs [2,7,8,9,28] h an fun a w h => ?_
  refine zi h hF (fun hF => ?_) (fun hF => ?_)
  ·refine wp_skip ?_
   refine wp_mid (fun a w => ∃ v:(List (Int × Int)),f41.j363 k v331 ((f41.l199 k r3 x2) m199) v=some r∧Rel w0 (fun _ => False) Zi Try.f41.ntmps ((fun (v362:(List (Int × Int))) => ([(2,.val iS x2),(7,.val sh15 v362),(8,.val (.sl true 2 iS) r3),(9,.val iS v331)]:SS)) v) a w) ?_ ?_
   ·
    refine wp_block ?_
    refine wp_seq ?_
    obtain ⟨hc392,hF⟩:=of_if hF
    obtain ⟨hc393,hF⟩:=of_if hF
    refine zs [2,7,8,9,43] h (ac hc392 (ac hc393 an)) fun a w h => ?_
    refine zi h hF (fun hF => ?_) (fun hF => ?_)
    ·refine wp_exit ?_
     exact ⟨v330,hF,ar h [2,7,8,9]⟩
    ·refine wp_skip ?_
     refine zs [2,7,8,9,10] h an fun a w h => ?_
     refine wp_seq <| wp_block ?_
     refine wp_loop_fuel (f41.l375 k v330 v331 r3 (f41.j363 k v331 ((f41.l199 k r3 x2) m199))) (fun v383 => [(2,.val iS x2),(7,.val sh15 v330),(8,.val (.sl true 2 iS) r3),(9,.val iS v331),(10,.val iS v383)]) (fun v h => by rw [f41.l375] at h; cases h) ?_ hF (ar h [2,7,8,9,10])
     intro m375 v383 a w hF h
     rw [f41.l375] at hF
     refine wp_seq ?_
     obtain ⟨hc390,hF⟩:=of_if hF
     obtain ⟨hc391,hF⟩:=of_if hF
     refine wp_regy_seq tok (orc:=o0) (l:=[2,7,8,9,10,60]) ([],[],[],[]) 15 nw h (by kernel_rfl) (by kernel_rfl) (ac hc390 (ac hc391 an)) fun a w h => ?_
     refine zi h hF (fun hF => ?_) (fun hF => ?_)
     ·refine wp_skip ?_
      refine wp_block ?_
      refine zt [2,7,8,9,10] h an fun a w h => ?_
      exact ⟨(w64 (v383 - (1:Int))),hF,ar h [2,7,8,9,10]⟩
     ·refine wp_exit ?_
      obtain ⟨hc384,hF⟩:=of_if hF
      obtain ⟨hc385,hF⟩:=of_if hF
      obtain ⟨hc386,hF⟩:=of_if hF
      obtain ⟨hc387,hF⟩:=of_if hF
      obtain ⟨hc388,hF⟩:=of_if hF
      obtain ⟨hc389,hF⟩:=of_if hF
      refine wp_regy tok (orc:=o0) (fz:=[7]) (l:=[2,7,8,9]) ([],[(4,[63]),(12,[67])],[],[(5,[9]),(6,[8]),(7,[9]),(8,[8,69,70]),(9,[8,71]),(10,[68,72]),(11,[73]),(13,[7]),(14,[10]),(15,[76,77])]) 16 (.inr fun i h => h) h (by kernel_rfl) (by kernel_rfl) (ac hc384 (ac hc385 (ac hc386 (ac hc387 (ac hc388 (ac hc389 an)))))) fun a w h => ?_
      exact ⟨(((([]:List (Int × Int)) ++ (List.drop 0 (List.take (tZ v383) v330))) ++ [(v331,(gD r3 (tZ v331) iO))]) ++ (List.drop (tZ v383) (List.take (List.length v330) v330))),hF,ar h [2,7,8,9]⟩
   ·rintro a w ⟨v362,hF,h⟩
    rw [f41.j363] at hF
    refine zt [2,7,8,9] h an fun a w h => ?_
    exact ⟨(v362,(w64 (v331 + (1:Int)))),hF,ar h [2,7,8,9]⟩
  ·refine wp_exit ?_
   refine zs [6,7] h an fun a w h => ?_
   cases hF
   exact wp_ret (ret_okR tok h rfl (by kernel_rfl)).1
def f146 (k:Nat) (x0:Int):Option Bool:=some (bif (decide (x0 ≥ (1:Int))) then (decide (x0 ≤ (1000000000:Int))) else false)
theorem c146 (k:Nat) (x0:Int) (r:Bool) (hF:f146 k x0=some r):PCall Try.prog 146 [⟨iS,x0⟩] [⟨.bool,r⟩]:=by
 refine pcall_intro Try.func146 rfl rfl (Nat.le_of_ble_eq_true rfl) ?_
 intro w0 Zi a w h
 rw [f146] at hF
 refine zs [0] h an fun a w h => ?_
 refine zs [2] h an fun a w h => ?_
 cases hF
 exact wp_ret (ret_okR tok h rfl (by kernel_rfl)).1
def f147 (k:Nat) (x0:(Int × Int)):Option Bool:=some (bif (bif (bif (decide (x0.1 ≥ (-10000000:Int))) then (decide (x0.1 ≤ (10000000:Int))) else false) then (decide (x0.2 ≥ (-10000000:Int))) else false) then (decide (x0.2 ≤ (10000000:Int))) else false)
theorem c147 (k:Nat) (x0:(Int × Int)) (r:Bool) (hF:f147 k x0=some r):PCall Try.prog 147 [⟨sh5,x0⟩] [⟨.bool,r⟩]:=by
 refine pcall_intro Try.func147 rfl rfl (Nat.le_of_ble_eq_true rfl) ?_
 intro w0 Zi a w h
 rw [f147] at hF
 refine zs [1] h an fun a w h => ?_
 refine zs [2] h an fun a w h => ?_
 cases hF
 exact wp_ret (ret_okR tok h rfl (by kernel_rfl)).1
def f92.j256 (k:Nat) (v247:Int) (q209:Int→Option Bool):Unit→Option Bool
 | _ => q209 (IntKind.i64.wrap (v247 + (1:Int)))
def f92.l209 (k:Nat) (x0:((List (Int × (Int × Int))) × ((List (Int × (Int × (Int × (Int × (Int × ByteArray)))))) × (List (Int × Int))))):Nat→Int→Option Bool
 | 0,_ => none
 | m209+1,v247 => if (decide (v247 < (List.length x0.2.2:Int))) then (if (0≤v247∧v247 < (List.length x0.2.2:Int)) then (if (((bif (bif (bif (decide (((List.getD x0.2.2 (Int.toNat v247) ((0:Int),(0:Int))).1:Int) < (0:Int))) then true else (decide (((List.getD x0.2.2 (Int.toNat v247) ((0:Int),(0:Int))).1:Int) ≥ (List.length x0.2.1:Int)))) then true else (decide (((List.getD x0.2.2 (Int.toNat v247) ((0:Int),(0:Int))).2:Int) < (0:Int)))) then true else (decide (((List.getD x0.2.2 (Int.toNat v247) ((0:Int),(0:Int))).2:Int) ≥ (List.length x0.2.1:Int))))=false) → (0 ≤ (List.getD x0.2.2 (Int.toNat v247) ((0:Int),(0:Int))).1 ∧ (List.getD x0.2.2 (Int.toNat v247) ((0:Int),(0:Int))).1 < (List.length x0.2.1:Int))) then (if (((bif (bif (bif (decide (((List.getD x0.2.2 (Int.toNat v247) ((0:Int),(0:Int))).1:Int) < (0:Int))) then true else (decide (((List.getD x0.2.2 (Int.toNat v247) ((0:Int),(0:Int))).1:Int) ≥ (List.length x0.2.1:Int)))) then true else (decide (((List.getD x0.2.2 (Int.toNat v247) ((0:Int),(0:Int))).2:Int) < (0:Int)))) then true else (decide (((List.getD x0.2.2 (Int.toNat v247) ((0:Int),(0:Int))).2:Int) ≥ (List.length x0.2.1:Int))))=false) → (0 ≤ (List.getD x0.2.2 (Int.toNat v247) ((0:Int),(0:Int))).2 ∧ (List.getD x0.2.2 (Int.toNat v247) ((0:Int),(0:Int))).2 < (List.length x0.2.1:Int))) then ((some ((bif (bif (bif (bif (decide (((List.getD x0.2.2 (Int.toNat v247) ((0:Int),(0:Int))).1:Int) < (0:Int))) then true else (decide (((List.getD x0.2.2 (Int.toNat v247) ((0:Int),(0:Int))).1:Int) ≥ (List.length x0.2.1:Int)))) then true else (decide (((List.getD x0.2.2 (Int.toNat v247) ((0:Int),(0:Int))).2:Int) < (0:Int)))) then true else (decide (((List.getD x0.2.2 (Int.toNat v247) ((0:Int),(0:Int))).2:Int) ≥ (List.length x0.2.1:Int)))) then true else (((List.getD x0.2.1 (Int.toNat (List.getD x0.2.2 (Int.toNat v247) ((0:Int),(0:Int))).1) ((0:Int),((0:Int),((0:Int),((0:Int),((0:Int),(⟨#[]⟩:ByteArray))))))).2.1:Int) != (List.getD x0.2.1 (Int.toNat (List.getD x0.2.2 (Int.toNat v247) ((0:Int),(0:Int))).2) ((0:Int),((0:Int),((0:Int),((0:Int),((0:Int),(⟨#[]⟩:ByteArray))))))).1)):Bool)).bind fun v257 => (if v257 then (some false) else (if (decide (v247 > (0:Int))) then (if (0 ≤ (IntKind.i64.wrap (v247 - (1:Int))) ∧ (IntKind.i64.wrap (v247 - (1:Int))) < (List.length x0.2.2:Int)) then ((some ((bif (decide (((List.getD x0.2.2 (Int.toNat (IntKind.i64.wrap (v247 - (1:Int)))) ((0:Int),(0:Int))).1:Int) > (List.getD x0.2.2 (Int.toNat v247) ((0:Int),(0:Int))).1)) then true else (bif (((List.getD x0.2.2 (Int.toNat (IntKind.i64.wrap (v247 - (1:Int)))) ((0:Int),(0:Int))).1:Int) == (List.getD x0.2.2 (Int.toNat v247) ((0:Int),(0:Int))).1) then (decide (((List.getD x0.2.2 (Int.toNat (IntKind.i64.wrap (v247 - (1:Int)))) ((0:Int),(0:Int))).2:Int) ≥ (List.getD x0.2.2 (Int.toNat v247) ((0:Int),(0:Int))).2)) else false)):Bool)).bind fun v258 => (if v258 then (some false) else (f92.j256 k v247 ((f92.l209 k x0) m209) ()))) else none) else (f92.j256 k v247 ((f92.l209 k x0) m209) ())))) else none) else none) else none) else (some true)
def f92.l118 (k:Nat) (x0:((List (Int × (Int × Int))) × ((List (Int × (Int × (Int × (Int × (Int × ByteArray)))))) × (List (Int × Int))))):Nat→Int→Option Bool
 | 0,_ => none
 | m118+1,v142 => if (decide (v142 < (List.length x0.2.1:Int))) then (if (0≤v142∧v142 < (List.length x0.2.1:Int)) then ((if ((bif (bif (bif (decide (((List.getD x0.2.1 (Int.toNat v142) ((0:Int),((0:Int),((0:Int),((0:Int),((0:Int),(⟨#[]⟩:ByteArray))))))).1:Int) < (0:Int))) then true else (decide (((List.getD x0.2.1 (Int.toNat v142) ((0:Int),((0:Int),((0:Int),((0:Int),((0:Int),(⟨#[]⟩:ByteArray))))))).1:Int) ≥ (List.length x0.1:Int)))) then true else (decide (((List.getD x0.2.1 (Int.toNat v142) ((0:Int),((0:Int),((0:Int),((0:Int),((0:Int),(⟨#[]⟩:ByteArray))))))).2.1:Int) < (0:Int)))) then true else (decide (((List.getD x0.2.1 (Int.toNat v142) ((0:Int),((0:Int),((0:Int),((0:Int),((0:Int),(⟨#[]⟩:ByteArray))))))).2.1:Int) ≥ (List.length x0.1:Int))))=false) then f146 k (List.getD x0.2.1 (Int.toNat v142) ((0:Int),((0:Int),((0:Int),((0:Int),((0:Int),(⟨#[]⟩:ByteArray))))))).2.2.1 else some default).bind fun r148 => ((some ((bif (bif (bif (bif (bif (bif (bif (bif (decide (((List.getD x0.2.1 (Int.toNat v142) ((0:Int),((0:Int),((0:Int),((0:Int),((0:Int),(⟨#[]⟩:ByteArray))))))).1:Int) < (0:Int))) then true else (decide (((List.getD x0.2.1 (Int.toNat v142) ((0:Int),((0:Int),((0:Int),((0:Int),((0:Int),(⟨#[]⟩:ByteArray))))))).1:Int) ≥ (List.length x0.1:Int)))) then true else (decide (((List.getD x0.2.1 (Int.toNat v142) ((0:Int),((0:Int),((0:Int),((0:Int),((0:Int),(⟨#[]⟩:ByteArray))))))).2.1:Int) < (0:Int)))) then true else (decide (((List.getD x0.2.1 (Int.toNat v142) ((0:Int),((0:Int),((0:Int),((0:Int),((0:Int),(⟨#[]⟩:ByteArray))))))).2.1:Int) ≥ (List.length x0.1:Int)))) then true else (!r148)) then true else (decide (((List.getD x0.2.1 (Int.toNat v142) ((0:Int),((0:Int),((0:Int),((0:Int),((0:Int),(⟨#[]⟩:ByteArray))))))).2.2.2.1:Int) < (1:Int)))) then true else (decide (((List.getD x0.2.1 (Int.toNat v142) ((0:Int),((0:Int),((0:Int),((0:Int),((0:Int),(⟨#[]⟩:ByteArray))))))).2.2.2.1:Int) > (1000000:Int)))) then true else (decide (((List.getD x0.2.1 (Int.toNat v142) ((0:Int),((0:Int),((0:Int),((0:Int),((0:Int),(⟨#[]⟩:ByteArray))))))).2.2.2.2.1:Int) < (0:Int)))) then true else (decide (((List.getD x0.2.1 (Int.toNat v142) ((0:Int),((0:Int),((0:Int),((0:Int),((0:Int),(⟨#[]⟩:ByteArray))))))).2.2.2.2.1:Int) > (1000000000:Int)))):Bool)).bind fun v149 => (if v149 then (some false) else ((f92.l118 k x0) m118 (IntKind.i64.wrap (v142 + (1:Int))))))) else none) else (f92.l209 k x0 k (0:Int))
def f92.l42 (k:Nat) (x0:((List (Int × (Int × Int))) × ((List (Int × (Int × (Int × (Int × (Int × ByteArray)))))) × (List (Int × Int))))):Nat→Int→Option Bool
 | 0,_ => none
 | m42+1,v70 => if (decide (v70 < (List.length x0.1:Int))) then (if (0≤v70∧v70 < (List.length x0.1:Int)) then ((f146 k (List.getD x0.1 (Int.toNat v70) ((0:Int),((0:Int),(0:Int)))).1).bind fun r77 => ((if ((!r77)=false) then f147 k (List.getD x0.1 (Int.toNat v70) ((0:Int),((0:Int),(0:Int)))).2 else some default).bind fun r78 => (if ((((bif (!r77) then true else (!r78))=false) ∧ ((decide (v70 > (0:Int)))=true)) → (0 ≤ (IntKind.i64.wrap (v70 - (1:Int))) ∧ (IntKind.i64.wrap (v70 - (1:Int))) < (List.length x0.1:Int))) then (if (bif (bif (!r77) then true else (!r78)) then true else (bif (decide (v70 > (0:Int))) then (decide (((List.getD x0.1 (Int.toNat (IntKind.i64.wrap (v70 - (1:Int)))) ((0:Int),((0:Int),(0:Int)))).1:Int) ≥ (List.getD x0.1 (Int.toNat v70) ((0:Int),((0:Int),(0:Int)))).1)) else false)) then (some false) else ((f92.l42 k x0) m42 (IntKind.i64.wrap (v70 + (1:Int))))) else none))) else none) else (f92.l118 k x0 k (0:Int))
def f92 (k:Nat) (x0:((List (Int × (Int × Int))) × ((List (Int × (Int × (Int × (Int × (Int × ByteArray)))))) × (List (Int × Int))))):Option Bool:=if (bif (bif (decide (((List.length x0.1:Int):Int) > (5000:Int))) then true else (decide (((List.length x0.2.1:Int):Int) > (8000:Int)))) then true else (decide (((List.length x0.2.2:Int):Int) > (2000:Int)))) then (some false) else (f92.l42 k x0 k (0:Int))
theorem c92 (k:Nat) (x0:tG) (r:Bool) (hF:f92 k x0=some r):PCall Try.prog 92 [⟨sh12,x0⟩] [⟨.bool,r⟩]:=by
 refine pcall_intro Try.func92 rfl rfl (Nat.le_of_ble_eq_true rfl) ?_
 intro w0 Zi a w h
 rw [f92] at hF
 refine zs [1] h an fun a w h => ?_
 refine wp_seq ?_
 refine zs [1,27] h an fun a w h => ?_
 refine zi h hF (fun hF => ?_) (fun hF => ?_)
 ·refine zs [2] h an fun a w h => ?_
  cases hF
  exact wp_ret (ret_okR tok h rfl (by kernel_rfl)).1
 ·refine wp_skip ?_
  refine wp_seq ?_
  refine zs [1,29,30,31] h an fun a w h => ?_
  refine wp_block ?_
  refine wp_loop_fuel (f92.l42 k x0) (fun v70 => [(1,.val sh11 (some x0)),(29,.val sh16 x0.1),(30,.val iS (List.length x0.1:Int)),(31,.val iS v70)]) (fun v h => by rw [f92.l42] at h; cases h) ?_ hF (ar h [1,29,30,31])
  intro m42 v70 a w hF h
  rw [f92.l42] at hF
  refine zs [1,29,30,31,32] h an fun a w h => ?_
  refine wp_seq <| zi h hF (fun hF => ?_) (fun hF => ?_)
  ·refine wp_skip ?_
   refine wp_seq <| wp_block ?_
   obtain ⟨hc82,hF⟩:=of_if hF
   refine zs [1,3,4,29,30,31] h (ac hc82 an) fun a w h => ?_
   obtain ⟨r77,hr79,hF⟩:=of_bind hF
   obtain ⟨r78,hr80,hF⟩:=of_bind hF
   obtain ⟨hc81,hF⟩:=of_if hF
   refine wp_regy_seq tok (orc:=orcL [(38,[⟨.bool,r77⟩]),(43,[⟨.bool,r78⟩])]) (l:=[1,29,30,31,61]) ([],[],[],[]) 26 nw h (by kernel_rfl) (by kernel_rfl) (ac (c146 k (gD x0.1 (tZ v70) (iO,(iO,iO))).1 r77 hr79) (ac (fun (hg:((!r77)=false)) => c147 k (gD x0.1 (tZ v70) (iO,(iO,iO))).2 r78 (of_g hg hr80)) (ac hc81 an))) fun a w h => ?_
   refine zi h hF (fun hF => ?_) (fun hF => ?_)
   ·refine zs [2] h an fun a w h => ?_
    cases hF
    exact wp_ret (ret_okR tok h rfl (by kernel_rfl)).1
   ·refine wp_skip ?_
    refine zt [1,29,30,31] h an fun a w h => ?_
    exact ⟨(w64 (v70 + (1:Int))),hF,ar h [1,29,30,31]⟩
  ·refine wp_exit ?_
   refine zs [1,5] h an fun a w h => ?_
   refine wp_seq ?_
   refine zs [1,5,67,68,69] h an fun a w h => ?_
   refine wp_block ?_
   refine wp_loop_fuel (f92.l118 k x0) (fun v142 => [(1,.val sh11 (some x0)),(5,.val iS (List.length x0.1:Int)),(67,.val sh17 x0.2.1),(68,.val iS (List.length x0.2.1:Int)),(69,.val iS v142)]) (fun v h => by rw [f92.l118] at h; cases h) ?_ hF (ar h [1,5,67,68,69])
   intro m118 v142 a w hF h
   rw [f92.l118] at hF
   refine zs [1,5,67,68,69,70] h an fun a w h => ?_
   refine wp_seq <| zi h hF (fun hF => ?_) (fun hF => ?_)
   ·refine wp_skip ?_
    refine wp_seq <| wp_block ?_
    obtain ⟨hc152,hF⟩:=of_if hF
    refine zs [1,5,7,67,68,69] h (ac hc152 an) fun a w h => ?_
    obtain ⟨r148,hr151,hF⟩:=of_bind hF
    refine zc (orcL [(96,[⟨.bool,r148⟩])]) [1,5,67,68,69,118] h (ac (fun (hg:((bif (bif (bif (decide (((gD x0.2.1 (tZ v142) zR).1:Int) < iO)) then true else (decide (((gD x0.2.1 (tZ v142) zR).1:Int) ≥ (List.length x0.1:Int)))) then true else (decide (((gD x0.2.1 (tZ v142) zR).2.1:Int) < iO))) then true else (decide (((gD x0.2.1 (tZ v142) zR).2.1:Int) ≥ (List.length x0.1:Int))))=false)) => c146 k (gD x0.2.1 (tZ v142) zR).2.2.1 r148 (of_g hg hr151)) an) fun a w h => ?_
    obtain ⟨v149,hv150,hF⟩:=of_bind hF
    replace h:=h.cast (S':=[(1,.val sh11 (some x0)),(5,.val iS (List.length x0.1:Int)),(67,.val sh17 x0.2.1),(68,.val iS (List.length x0.2.1:Int)),(69,.val iS v142),(118,.val .bool v149)]) (by cases hv150; kernel_rfl)
    refine zi h hF (fun hF => ?_) (fun hF => ?_)
    ·refine zs [2] h an fun a w h => ?_
     cases hF
     exact wp_ret (ret_okR tok h rfl (by kernel_rfl)).1
    ·refine wp_skip ?_
     refine zt [1,5,67,68,69] h an fun a w h => ?_
     exact ⟨(w64 (v142 + (1:Int))),hF,ar h [1,5,67,68,69]⟩
   ·refine wp_exit ?_
    refine zs [1,8] h an fun a w h => ?_
    refine wp_seq ?_
    refine zs [1,8,124,125,126] h an fun a w h => ?_
    refine wp_block ?_
    refine wp_loop_fuel (f92.l209 k x0) (fun v247 => [(1,.val sh11 (some x0)),(8,.val iS (List.length x0.2.1:Int)),(124,.val sh18 x0.2.2),(125,.val iS (List.length x0.2.2:Int)),(126,.val iS v247)]) (fun v h => by rw [f92.l209] at h; cases h) ?_ hF (ar h [1,8,124,125,126])
    intro m209 v247 a w hF h
    rw [f92.l209] at hF
    refine zs [1,8,124,125,126,127] h an fun a w h => ?_
    refine wp_seq <| zi h hF (fun hF => ?_) (fun hF => ?_)
    ·refine wp_skip ?_
     refine wp_mid (fun a w => ∃ v:Unit,f92.j256 k v247 ((f92.l209 k x0) m209) v=some r∧Rel w0 (fun _ => False) Zi Try.f92.ntmps ((fun (_:Unit) => ([(1,.val sh11 (some x0)),(8,.val iS (List.length x0.2.1:Int)),(124,.val sh18 x0.2.2),(125,.val iS (List.length x0.2.2:Int)),(126,.val iS v247)]:SS)) v) a w) ?_ ?_
     ·
      refine wp_block ?_
      obtain ⟨hc264,hF⟩:=of_if hF
      refine zs [1,8,9,10,124,125,126] h (ac hc264 an) fun a w h => ?_
      refine wp_seq ?_
      obtain ⟨hc262,hF⟩:=of_if hF
      obtain ⟨hc263,hF⟩:=of_if hF
      refine wp_regy_seq tok (orc:=o0) (l:=[1,8,9,10,124,125,126,167]) ([],[],[],[]) 37 nw h (by kernel_rfl) (by kernel_rfl) (ac hc262 (ac hc263 an)) fun a w h => ?_
      obtain ⟨v257,hv261,hF⟩:=of_bind hF
      replace h:=h.cast (S':=[(1,.val sh11 (some x0)),(8,.val iS (List.length x0.2.1:Int)),(9,.val iS v247),(10,.val sh14 (some (gD x0.2.2 (tZ v247) (iO,iO)))),(124,.val sh18 x0.2.2),(125,.val iS (List.length x0.2.2:Int)),(126,.val iS v247),(167,.val .bool v257)]) (by cases hv261; kernel_rfl)
      refine zi h hF (fun hF => ?_) (fun hF => ?_)
      ·refine zs [2] h an fun a w h => ?_
       cases hF
       exact wp_ret (ret_okR tok h rfl (by kernel_rfl)).1
      ·refine wp_skip ?_
       refine zs [1,8,9,10,124,125,126,169] h an fun a w h => ?_
       refine zi h hF (fun hF => ?_) (fun hF => ?_)
       ·obtain ⟨hc260,hF⟩:=of_if hF
        refine zs [1,8,10,11,124,125,126] h (ac hc260 an) fun a w h => ?_
        refine zs [1,8,124,125,126,194] h an fun a w h => ?_
        obtain ⟨v258,hv259,hF⟩:=of_bind hF
        replace h:=h.cast (S':=[(1,.val sh11 (some x0)),(8,.val iS (List.length x0.2.1:Int)),(124,.val sh18 x0.2.2),(125,.val iS (List.length x0.2.2:Int)),(126,.val iS v247),(194,.val .bool v258)]) (by cases hv259; kernel_rfl)
        refine zi h hF (fun hF => ?_) (fun hF => ?_)
        ·refine zs [2] h an fun a w h => ?_
         cases hF
         exact wp_ret (ret_okR tok h rfl (by kernel_rfl)).1
        ·refine wp_skip ?_
         exact ⟨(),hF,ar h [1,8,124,125,126]⟩
       ·refine wp_skip ?_
        exact ⟨(),hF,ar h [1,8,124,125,126]⟩
     ·rintro a w ⟨v,hF,h⟩
      obtain ⟨⟩:=v
      rw [f92.j256] at hF
      refine zt [1,8,124,125,126] h an fun a w h => ?_
      exact ⟨(w64 (v247 + (1:Int))),hF,ar h [1,8,124,125,126]⟩
    ·refine wp_exit ?_
     refine zs [2] h an fun a w h => ?_
     cases hF
     exact wp_ret (ret_okR tok h rfl (by kernel_rfl)).1
def f93.l126 (k:Nat) (x0:((List (Int × (Int × Int))) × ((List (Int × (Int × (Int × (Int × (Int × ByteArray)))))) × (List (Int × Int))))) (v94:(List (List Int))) (v95:(List (List Int))):Nat → ((List ((Int × Int) × Bool)) × Int)→Option (((List (Int × (Int × Int))) × ((List (Int × (Int × (Int × (Int × (Int × ByteArray)))))) × (List (Int × Int)))) × ((List (List Int)) × ((List (List Int)) × (Option (List ((Int × Int) × Bool))))))
 | 0,_ => none
 | m126+1,(v137,v138) => if (decide (v138 < (List.length x0.2.2:Int))) then (if (0≤v138∧v138 < (List.length x0.2.2:Int)) then ((f93.l126 k x0 v94 v95) m126 ((mput (Sh.beq sh5) (List.getD x0.2.2 (Int.toNat v138) ((0:Int),(0:Int))) true v137),(IntKind.i64.wrap (v138 + (1:Int))))) else none) else (some (x0,(v94,(v95,(some v137)))))
def f93.l56 (k:Nat) (x0:((List (Int × (Int × Int))) × ((List (Int × (Int × (Int × (Int × (Int × ByteArray)))))) × (List (Int × Int))))):Nat → ((List (List Int)) × (List (List Int)) × Int)→Option (((List (Int × (Int × Int))) × ((List (Int × (Int × (Int × (Int × (Int × ByteArray)))))) × (List (Int × Int)))) × ((List (List Int)) × ((List (List Int)) × (Option (List ((Int × Int) × Bool))))))
 | 0,_ => none
 | m56+1,(v94,v95,v96) => if (decide (v96 < (List.length x0.2.1:Int))) then (if (0≤v96∧v96 < (List.length x0.2.1:Int)) then (if (0 ≤ (List.getD x0.2.1 (Int.toNat v96) ((0:Int),((0:Int),((0:Int),((0:Int),((0:Int),(⟨#[]⟩:ByteArray))))))).1 ∧ (List.getD x0.2.1 (Int.toNat v96) ((0:Int),((0:Int),((0:Int),((0:Int),((0:Int),(⟨#[]⟩:ByteArray))))))).1 < (List.length v94:Int)) then (if ((List.length (List.getD v94 (Int.toNat (List.getD x0.2.1 (Int.toNat v96) ((0:Int),((0:Int),((0:Int),((0:Int),((0:Int),(⟨#[]⟩:ByteArray))))))).1) ([]:(List Int)))+List.length [v96])*8≤140737488355328) then (if (0 ≤ (List.getD x0.2.1 (Int.toNat v96) ((0:Int),((0:Int),((0:Int),((0:Int),((0:Int),(⟨#[]⟩:ByteArray))))))).1 ∧ (List.getD x0.2.1 (Int.toNat v96) ((0:Int),((0:Int),((0:Int),((0:Int),((0:Int),(⟨#[]⟩:ByteArray))))))).1 < (List.length v94:Int)) then (if (0 ≤ (List.getD x0.2.1 (Int.toNat v96) ((0:Int),((0:Int),((0:Int),((0:Int),((0:Int),(⟨#[]⟩:ByteArray))))))).2.1 ∧ (List.getD x0.2.1 (Int.toNat v96) ((0:Int),((0:Int),((0:Int),((0:Int),((0:Int),(⟨#[]⟩:ByteArray))))))).2.1 < (List.length v95:Int)) then (if ((List.length (List.getD v95 (Int.toNat (List.getD x0.2.1 (Int.toNat v96) ((0:Int),((0:Int),((0:Int),((0:Int),((0:Int),(⟨#[]⟩:ByteArray))))))).2.1) ([]:(List Int)))+List.length [v96])*8≤140737488355328) then (if (0 ≤ (List.getD x0.2.1 (Int.toNat v96) ((0:Int),((0:Int),((0:Int),((0:Int),((0:Int),(⟨#[]⟩:ByteArray))))))).2.1 ∧ (List.getD x0.2.1 (Int.toNat v96) ((0:Int),((0:Int),((0:Int),((0:Int),((0:Int),(⟨#[]⟩:ByteArray))))))).2.1 < (List.length v95:Int)) then ((f93.l56 k x0) m56 ((List.set v94 (Int.toNat (List.getD x0.2.1 (Int.toNat v96) ((0:Int),((0:Int),((0:Int),((0:Int),((0:Int),(⟨#[]⟩:ByteArray))))))).1) (List.append (List.getD v94 (Int.toNat (List.getD x0.2.1 (Int.toNat v96) ((0:Int),((0:Int),((0:Int),((0:Int),((0:Int),(⟨#[]⟩:ByteArray))))))).1) ([]:(List Int))) [v96])),(List.set v95 (Int.toNat (List.getD x0.2.1 (Int.toNat v96) ((0:Int),((0:Int),((0:Int),((0:Int),((0:Int),(⟨#[]⟩:ByteArray))))))).2.1) (List.append (List.getD v95 (Int.toNat (List.getD x0.2.1 (Int.toNat v96) ((0:Int),((0:Int),((0:Int),((0:Int),((0:Int),(⟨#[]⟩:ByteArray))))))).2.1) ([]:(List Int))) [v96])),(IntKind.i64.wrap (v96 + (1:Int))))) else none) else none) else none) else none) else none) else none) else none) else (f93.l126 k x0 v94 v95 k (([]:(List ((Int × Int) × Bool))),(0:Int)))
def f93 (k:Nat) (x0:((List (Int × (Int × Int))) × ((List (Int × (Int × (Int × (Int × (Int × ByteArray)))))) × (List (Int × Int))))):Option (((List (Int × (Int × Int))) × ((List (Int × (Int × (Int × (Int × (Int × ByteArray)))))) × (List (Int × Int)))) × ((List (List Int)) × ((List (List Int)) × (Option (List ((Int × Int) × Bool)))))):=if (0 ≤ (List.length x0.1:Int)∧Int.toNat (List.length x0.1:Int)*24≤140737488355328) then (if (0 ≤ (List.length x0.1:Int)∧Int.toNat (List.length x0.1:Int)*24≤140737488355328) then (f93.l56 k x0 k ((List.replicate (Int.toNat (List.length x0.1:Int)) ([]:(List Int))),(List.replicate (Int.toNat (List.length x0.1:Int)) ([]:(List Int))),(0:Int))) else none) else none
theorem c93 (k:Nat) (x0:tG) (r:tN) (hF:f93 k x0=some r):PCall Try.prog 93 [⟨sh12,x0⟩] [⟨sh19,some r⟩]:=by
 refine pcall_intro Try.func93 rfl rfl (Nat.le_of_ble_eq_true rfl) ?_
 intro w0 Zi a w h
 rw [f93] at hF
 refine zs [1] h an fun a w h => ?_
 obtain ⟨hc141,hF⟩:=of_if hF
 obtain ⟨hc142,hF⟩:=of_if hF
 refine wp_regy_seq tok (orc:=o0) (l:=[1,3]) ([],[],[],[]) 10 nw h (by kernel_rfl) (by kernel_rfl) (ac hc141 (ac hc142 an)) fun a w h => ?_
 refine wp_seq ?_
 refine zs [1,3,21,22,23] h an fun a w h => ?_
 refine wp_block ?_
 refine wp_loop_fuel (f93.l56 k x0) (fun ((v94,v95,v96):((List (List Int)) × (List (List Int)) × Int)) => [(1,.val sh11 (some x0)),(3,.val sh19 (some (x0,(v94,(v95,(some ([]:(List ((Int × Int) × Bool))))))))),(21,.val sh17 x0.2.1),(22,.val iS (List.length x0.2.1:Int)),(23,.val iS v96)]) (fun v h => by obtain ⟨v94,v95,v96⟩:=v; rw [f93.l56] at h; cases h) ?_ hF (ar h [1,3,21,22,23])
 intro m56 v a w hF h
 obtain ⟨v94,v95,v96⟩:=v
 rw [f93.l56] at hF
 refine zs [1,3,21,22,23,24] h an fun a w h => ?_
 refine wp_seq <| zi h hF (fun hF => ?_) (fun hF => ?_)
 ·refine wp_skip ?_
  refine wp_seq <| wp_block ?_
  obtain ⟨hc110,hF⟩:=of_if hF
  refine zs [1,3,4,5,21,22,23] h (ac hc110 an) fun a w h => ?_
  obtain ⟨hc107,hF⟩:=of_if hF
  obtain ⟨hc108,hF⟩:=of_if hF
  obtain ⟨hc109,hF⟩:=of_if hF
  refine wp_regy_seq tok (orc:=orcL [(44,[⟨.pt false 4294967293 .unit,some ()⟩])]) (l:=[1,3,4,5,21,22,23]) ([],[],[],[]) 18 nw h (by kernel_rfl) (by kernel_rfl) (ac hc107 (ac (PrefL.mk (l:=[[],[],[.der,.snd,.fst],[.der,.snd,.fst],[],[],[.der,.snd,.fst],[.der,.snd,.fst],[.der,.snd,.fst,.idx (tZ (gD x0.2.1 (tZ v96) zR).1)],[.der,.snd,.fst,.idx (tZ (gD x0.2.1 (tZ v96) zR).1)]]) (p:=[.der,.snd,.fst,.idx (tZ (gD x0.2.1 (tZ v96) zR).1)]) rfl) (ac hc108 (ac hc109 (ac (show ([.der,.snd,.fst,.idx (tZ (gD x0.2.1 (tZ v96) zR).1)]:Path)=[.der,.snd,.fst,.idx (tZ (gD x0.2.1 (tZ v96) zR).1)] from rfl) an))))) fun a w h => ?_
  obtain ⟨hc104,hF⟩:=of_if hF
  obtain ⟨hc105,hF⟩:=of_if hF
  obtain ⟨hc106,hF⟩:=of_if hF
  refine wp_regy tok (orc:=orcL [(62,[⟨.pt false 4294967293 .unit,some ()⟩])]) (l:=[1,3,21,22,23]) ([],[],[],[]) 18 nw h (by kernel_rfl) (by kernel_rfl) (ac hc104 (ac (PrefL.mk (l:=[[],[],[.der,.snd,.snd,.fst],[.der,.snd,.snd,.fst],[],[],[.der,.snd,.snd,.fst],[.der,.snd,.snd,.fst],[.der,.snd,.snd,.fst,.idx (tZ (gD x0.2.1 (tZ v96) zR).2.1)],[.der,.snd,.snd,.fst,.idx (tZ (gD x0.2.1 (tZ v96) zR).2.1)]]) (p:=[.der,.snd,.snd,.fst,.idx (tZ (gD x0.2.1 (tZ v96) zR).2.1)]) rfl) (ac hc105 (ac hc106 (ac (show ([.der,.snd,.snd,.fst,.idx (tZ (gD x0.2.1 (tZ v96) zR).2.1)]:Path)=[.der,.snd,.snd,.fst,.idx (tZ (gD x0.2.1 (tZ v96) zR).2.1)] from rfl) an))))) fun a w h => ?_
  refine zt [1,3,21,22,23] h an fun a w h => ?_
  exact ⟨((List.set v94 (tZ (gD x0.2.1 (tZ v96) zR).1) (List.append (gD v94 (tZ (gD x0.2.1 (tZ v96) zR).1) lO) [v96])),(List.set v95 (tZ (gD x0.2.1 (tZ v96) zR).2.1) (List.append (gD v95 (tZ (gD x0.2.1 (tZ v96) zR).2.1) lO) [v96])),(w64 (v96 + (1:Int)))),hF,ar h [1,3,21,22,23]⟩
 ·refine wp_exit ?_
  refine wp_seq ?_
  refine zs [3,66,67,68] h an fun a w h => ?_
  refine wp_block ?_
  refine wp_loop_fuel (f93.l126 k x0 v94 v95) (fun ((v137,v138):((List ((Int × Int) × Bool)) × Int)) => [(3,.val sh19 (some (x0,(v94,(v95,(some v137)))))),(66,.val sh18 x0.2.2),(67,.val iS (List.length x0.2.2:Int)),(68,.val iS v138)]) (fun v h => by obtain ⟨v137,v138⟩:=v; rw [f93.l126] at h; cases h) ?_ hF (ar h [3,66,67,68])
  intro m126 v a w hF h
  obtain ⟨v137,v138⟩:=v
  rw [f93.l126] at hF
  refine zs [3,66,67,68,69] h an fun a w h => ?_
  refine wp_seq <| zi h hF (fun hF => ?_) (fun hF => ?_)
  ·refine wp_skip ?_
   refine wp_seq <| wp_block ?_
   obtain ⟨hc140,hF⟩:=of_if hF
   refine zs [3,7,66,67,68] h (ac hc140 an) fun a w h => ?_
   refine wp_regy tok (orc:=o0) (l:=[3,66,67,68]) ([],[],[],[]) 5 nw h (by kernel_rfl) (by kernel_rfl) (ac (show eqTy Try.prog 9 174 (.st (.pair iS iS))=true from by kernel_rfl) an) fun a w h => ?_
   refine zt [3,66,67,68] h an fun a w h => ?_
   exact ⟨((mput (Sh.beq sh5) (gD x0.2.2 (tZ v138) (iO,iO)) true v137),(w64 (v138 + (1:Int)))),hF,ar h [3,66,67,68]⟩
  ·refine wp_exit ?_
   refine zs [2,3] h an fun a w h => ?_
   cases hF
   exact wp_ret (ret_okR tok h rfl (by kernel_rfl)).1
end Go.Proofs.Ytnpaokckkbhdjaa.V
