/-
  THE CONTRACTS OF SOME FUNCTIONS OF THIS SEAT, PRINTED BY A PROGRAM OF THIS PROJECT (wip/gen/vgen.py).
-/
import Derived.Test.YtajigednlopmjaaProg
import Derived.Test.YtajigednlopmjaaVmW
import Derived.Test.YtajigednlopmjaaVmAn
import Derived.KernelRfl
import Derived.Test.YtajigednlopmjaaVmAr
set_option linter.unusedVariables false
open Go Go.Vm Go.Proofs
namespace Go.Proofs.Ytajigednlopmjaa.V
set_option maxRecDepth 100000
abbrev zR:Int × (Int × (Int × (Int × (Int × ByteArray)))):=((0:Int),((0:Int),((0:Int),((0:Int),((0:Int),(⟨#[]⟩:ByteArray))))))
abbrev tG:=((List (Int × (Int × Int))) × ((List (Int × (Int × (Int × (Int × (Int × ByteArray)))))) × (List (Int × Int))))
abbrev tN:=(((List (Int × (Int × Int))) × ((List (Int × (Int × (Int × (Int × (Int × ByteArray)))))) × (List (Int × Int)))) × ((List (List Int)) × ((List (List Int)) × (Option (List ((Int × Int) × Bool))))))
abbrev gD {α:Type} (l:List α) (i:Nat) (d:α):α:=List.getD l i d
abbrev tZ (n:Int):Nat:=Int.toNat n
abbrev iO:Int:=0
abbrev lO:List Int:=[]
theorem nw {p:Prop}:([]:List Nat)=[]∨p:=.inl rfl
abbrev o0:=orcL []
theorem ac {p:Prop} {l:List Prop} (h:p) (t:AllP l):AllP (p :: l):=AllP.cons h t
theorem an:AllP []:=AllP.nil
abbrev sh0:Sh:=(.sl false 96 (.st (.pair (.int .i64) (.st (.pair (.int .i64) (.int .i64))))))
abbrev sh1:Sh:=(.st (.pair (.int .i64) (.pair (.int .i64) (.pair (.int .i64) (.pair (.int .i64) (.pair (.int .i64) .str))))))
abbrev sh2:Sh:=(.sl false 78 (.st (.pair (.int .i64) (.pair (.int .i64) (.pair (.int .i64) (.pair (.int .i64) (.pair (.int .i64) .str)))))))
abbrev sh3:Sh:=(.sl false 102 (.st (.pair (.int .i64) (.int .i64))))
abbrev sh4:Sh:=(.st (.pair (.sl false 96 (.st (.pair (.int .i64) (.st (.pair (.int .i64) (.int .i64)))))) (.pair (.sl false 78 (.st (.pair (.int .i64) (.pair (.int .i64) (.pair (.int .i64) (.pair (.int .i64) (.pair (.int .i64) .str))))))) (.sl false 102 (.st (.pair (.int .i64) (.int .i64)))))))
abbrev sh5:Sh:=(.sl false 104 (.st (.pair (.int .i64) (.pair (.int .i64) (.pair (.int .i64) (.pair (.int .i64) (.int .i64)))))))
abbrev sh6:Sh:=(.st (.pair (.int .i64) (.pair (.int .i64) (.pair (.int .i64) (.pair (.int .i64) (.sl false 104 (.st (.pair (.int .i64) (.pair (.int .i64) (.pair (.int .i64) (.pair (.int .i64) (.int .i64))))))))))))
abbrev sh7:Sh:=(.st (.pair (.int .i64) (.int .i64)))
abbrev sh8:Sh:=(.st (.pair (.int .i64) (.st (.pair (.int .i64) (.int .i64)))))
abbrev sh9:Sh:=(.sl true 92 (.st (.pair (.int .i64) (.st (.pair (.int .i64) (.int .i64))))))
abbrev sh10:Sh:=(.sl true 97 (.st (.pair (.int .i64) (.pair (.int .i64) (.pair (.int .i64) (.pair (.int .i64) (.pair (.int .i64) .str)))))))
abbrev sh11:Sh:=(.sl true 100 (.st (.pair (.int .i64) (.int .i64))))
abbrev sh12:Sh:=(.st (.pair (.sl true 92 (.st (.pair (.int .i64) (.st (.pair (.int .i64) (.int .i64)))))) (.pair (.sl true 97 (.st (.pair (.int .i64) (.pair (.int .i64) (.pair (.int .i64) (.pair (.int .i64) (.pair (.int .i64) .str))))))) (.sl true 100 (.st (.pair (.int .i64) (.int .i64)))))))
abbrev sh13:Sh:=(.st (.pair (.int .i64) (.pair (.int .i64) (.pair (.int .i64) (.pair (.int .i64) (.int .i64))))))
abbrev sh14:Sh:=(.sl true 82 (.st (.pair (.int .i64) (.pair (.int .i64) (.pair (.int .i64) (.pair (.int .i64) (.int .i64)))))))
abbrev sh15:Sh:=(.st (.pair (.int .i64) (.pair (.int .i64) (.pair (.int .i64) (.pair (.int .i64) (.sl true 82 (.st (.pair (.int .i64) (.pair (.int .i64) (.pair (.int .i64) (.pair (.int .i64) (.int .i64))))))))))))
abbrev sh16:Sh:=(.pt true 38 (.st (.pair (.sl false 92 (.st (.pair (.int .i64) (.st (.pair (.int .i64) (.int .i64)))))) (.pair (.sl false 97 (.st (.pair (.int .i64) (.pair (.int .i64) (.pair (.int .i64) (.pair (.int .i64) (.pair (.int .i64) .str))))))) (.sl false 100 (.st (.pair (.int .i64) (.int .i64))))))))
abbrev sh17:Sh:=(.st (.pair (.sl false 92 (.st (.pair (.int .i64) (.st (.pair (.int .i64) (.int .i64)))))) (.pair (.sl false 97 (.st (.pair (.int .i64) (.pair (.int .i64) (.pair (.int .i64) (.pair (.int .i64) (.pair (.int .i64) .str))))))) (.sl false 100 (.st (.pair (.int .i64) (.int .i64)))))))
abbrev sh18:Sh:=(.pt true 42 (.st (.pair (.int .i64) (.pair (.int .i64) (.pair (.int .i64) (.pair (.int .i64) (.sl false 82 (.st (.pair (.int .i64) (.pair (.int .i64) (.pair (.int .i64) (.pair (.int .i64) (.int .i64)))))))))))))
abbrev sh19:Sh:=(.st (.pair (.int .i64) (.pair (.int .i64) (.pair (.int .i64) (.pair (.int .i64) (.sl false 82 (.st (.pair (.int .i64) (.pair (.int .i64) (.pair (.int .i64) (.pair (.int .i64) (.int .i64))))))))))))
abbrev sh20:Sh:=(.sl true 30 (.sl true 2 (.int .i64)))
abbrev sh21:Sh:=(.pt true 100 (.st (.pair (.int .i64) (.int .i64))))
abbrev sh22:Sh:=(.st (.pair (.int .i64) (.pair (.int .i64) (.pair (.int .i64) (.int .i64)))))
abbrev sh23:Sh:=(.pt true 84 (.st (.pair (.int .i64) (.pair (.int .i64) (.pair (.int .i64) (.int .i64))))))
abbrev sh24:Sh:=(.pt true 82 (.st (.pair (.int .i64) (.pair (.int .i64) (.pair (.int .i64) (.pair (.int .i64) (.int .i64)))))))
abbrev sh25:Sh:=(.sl false 30 (.sl false 2 (.int .i64)))
abbrev sh26:Sh:=(.sl false 92 (.st (.pair (.int .i64) (.st (.pair (.int .i64) (.int .i64))))))
abbrev sh27:Sh:=(.sl false 97 (.st (.pair (.int .i64) (.pair (.int .i64) (.pair (.int .i64) (.pair (.int .i64) (.pair (.int .i64) .str)))))))
abbrev sh28:Sh:=(.sl false 100 (.st (.pair (.int .i64) (.int .i64))))
abbrev sh29:Sh:=(.sl false 82 (.st (.pair (.int .i64) (.pair (.int .i64) (.pair (.int .i64) (.pair (.int .i64) (.int .i64)))))))
abbrev sh30:Sh:=(.pt true 124 (.st (.pair (.st (.pair (.sl false 92 (.st (.pair (.int .i64) (.st (.pair (.int .i64) (.int .i64)))))) (.pair (.sl false 97 (.st (.pair (.int .i64) (.pair (.int .i64) (.pair (.int .i64) (.pair (.int .i64) (.pair (.int .i64) .str))))))) (.sl false 100 (.st (.pair (.int .i64) (.int .i64))))))) (.pair (.sl true 30 (.sl true 2 (.int .i64))) (.pair (.sl true 30 (.sl true 2 (.int .i64))) (.mp true (.st (.pair (.int .i64) (.int .i64))) .bool))))))
abbrev sh31:Sh:=(.pt false 0 (.st (.pair (.st (.pair (.sl false 92 (.st (.pair (.int .i64) (.st (.pair (.int .i64) (.int .i64)))))) (.pair (.sl false 97 (.st (.pair (.int .i64) (.pair (.int .i64) (.pair (.int .i64) (.pair (.int .i64) (.pair (.int .i64) .str))))))) (.sl false 100 (.st (.pair (.int .i64) (.int .i64))))))) (.pair (.sl false 30 (.sl false 2 (.int .i64))) (.pair (.sl false 30 (.sl false 2 (.int .i64))) (.mp false (.st (.pair (.int .i64) (.int .i64))) .bool))))))
abbrev sh32:Sh:=(.st (.pair (.int .i64) (.pair (.int .i64) (.int .i64))))
abbrev sh33:Sh:=(.pt true 132 (.st (.pair (.sl true 135 (.st (.pair (.int .i64) (.pair (.int .i64) (.int .i64))))) .unit)))
abbrev sh34:Sh:=(.pt true 135 (.st (.pair (.int .i64) (.pair (.int .i64) (.int .i64)))))
abbrev sh35:Sh:=(.pt true 97 (.st (.pair (.int .i64) (.pair (.int .i64) (.pair (.int .i64) (.pair (.int .i64) (.pair (.int .i64) .str)))))))
abbrev sh36:Sh:=(.pt false 124 (.st (.pair (.st (.pair (.sl false 92 (.st (.pair (.int .i64) (.st (.pair (.int .i64) (.int .i64)))))) (.pair (.sl false 97 (.st (.pair (.int .i64) (.pair (.int .i64) (.pair (.int .i64) (.pair (.int .i64) (.pair (.int .i64) .str))))))) (.sl false 100 (.st (.pair (.int .i64) (.int .i64))))))) (.pair (.sl false 30 (.sl false 2 (.int .i64))) (.pair (.sl false 30 (.sl false 2 (.int .i64))) (.mp false (.st (.pair (.int .i64) (.int .i64))) .bool))))))
abbrev sh37:Sh:=(.pt true 110 (.st (.pair (.st (.pair (.int .i64) (.pair (.int .i64) (.pair (.int .i64) (.pair (.int .i64) (.sl false 82 (.st (.pair (.int .i64) (.pair (.int .i64) (.pair (.int .i64) (.pair (.int .i64) (.int .i64)))))))))))) (.mp true (.int .i64) (.sl false 2 (.int .i64))))))
abbrev sh38:Sh:=(.mp true (.int .i64) (.sl false 2 (.int .i64)))
abbrev sh39:Sh:=(.st (.pair (.st (.pair (.int .i64) (.pair (.int .i64) (.pair (.int .i64) (.pair (.int .i64) (.sl false 82 (.st (.pair (.int .i64) (.pair (.int .i64) (.pair (.int .i64) (.pair (.int .i64) (.int .i64)))))))))))) (.mp true (.int .i64) (.sl false 2 (.int .i64)))))
abbrev sh40:Sh:=(.pt false 0 (.st (.pair (.st (.pair (.int .i64) (.pair (.int .i64) (.pair (.int .i64) (.pair (.int .i64) (.sl false 82 (.st (.pair (.int .i64) (.pair (.int .i64) (.pair (.int .i64) (.pair (.int .i64) (.int .i64)))))))))))) (.mp false (.int .i64) (.sl false 2 (.int .i64))))))
abbrev sh41:Sh:=(.pt false 0 (.st (.pair (.int .i64) (.pair (.int .i64) (.pair (.int .i64) (.pair (.int .i64) (.sl false 82 (.st (.pair (.int .i64) (.pair (.int .i64) (.pair (.int .i64) (.pair (.int .i64) (.int .i64)))))))))))))
abbrev sh42:Sh:=(.pt false 0 (.sl false 82 (.st (.pair (.int .i64) (.pair (.int .i64) (.pair (.int .i64) (.pair (.int .i64) (.int .i64))))))))
def tbl:Tbl:=[⟨2,.int .i64,1,8,(.int .i64)⟩,
 ⟨3,.int .i64,1,8,(.int .i64)⟩,
 ⟨4,.bool,1,1,.bool⟩,
 ⟨9,.string,1,16,.str⟩,
 ⟨22,.slice 96,1,24,(.sl true 96 (.st (.pair (.int .i64) (.st (.pair (.int .i64) (.int .i64))))))⟩,
 ⟨23,.slice 78,1,24,(.sl true 78 (.st (.pair (.int .i64) (.pair (.int .i64) (.pair (.int .i64) (.pair (.int .i64) (.pair (.int .i64) .str)))))))⟩,
 ⟨24,.slice 102,1,24,(.sl true 102 (.st (.pair (.int .i64) (.int .i64))))⟩,
 ⟨26,.struct [(22,0),(23,1),(24,2)],3,72,(.st (.pair (.sl true 96 (.st (.pair (.int .i64) (.st (.pair (.int .i64) (.int .i64)))))) (.pair (.sl true 78 (.st (.pair (.int .i64) (.pair (.int .i64) (.pair (.int .i64) (.pair (.int .i64) (.pair (.int .i64) .str))))))) (.sl true 102 (.st (.pair (.int .i64) (.int .i64)))))))⟩,
 ⟨27,.slice 104,1,24,(.sl true 104 (.st (.pair (.int .i64) (.pair (.int .i64) (.pair (.int .i64) (.pair (.int .i64) (.int .i64)))))))⟩,
 ⟨29,.struct [(2,0),(2,1),(2,2),(2,3),(27,4)],5,56,(.st (.pair (.int .i64) (.pair (.int .i64) (.pair (.int .i64) (.pair (.int .i64) (.sl true 104 (.st (.pair (.int .i64) (.pair (.int .i64) (.pair (.int .i64) (.pair (.int .i64) (.int .i64))))))))))))⟩,
 ⟨30,.slice 2,1,24,(.sl true 2 (.int .i64))⟩,
 ⟨34,.slice 92,1,24,(.sl true 92 (.st (.pair (.int .i64) (.st (.pair (.int .i64) (.int .i64))))))⟩,
 ⟨35,.slice 97,1,24,(.sl true 97 (.st (.pair (.int .i64) (.pair (.int .i64) (.pair (.int .i64) (.pair (.int .i64) (.pair (.int .i64) .str)))))))⟩,
 ⟨36,.slice 100,1,24,(.sl true 100 (.st (.pair (.int .i64) (.int .i64))))⟩,
 ⟨38,.struct [(34,0),(35,1),(36,2)],3,72,(.st (.pair (.sl true 92 (.st (.pair (.int .i64) (.st (.pair (.int .i64) (.int .i64)))))) (.pair (.sl true 97 (.st (.pair (.int .i64) (.pair (.int .i64) (.pair (.int .i64) (.pair (.int .i64) (.pair (.int .i64) .str))))))) (.sl true 100 (.st (.pair (.int .i64) (.int .i64)))))))⟩,
 ⟨40,.slice 82,1,24,(.sl true 82 (.st (.pair (.int .i64) (.pair (.int .i64) (.pair (.int .i64) (.pair (.int .i64) (.int .i64)))))))⟩,
 ⟨42,.struct [(2,0),(2,1),(2,2),(2,3),(40,4)],5,56,(.st (.pair (.int .i64) (.pair (.int .i64) (.pair (.int .i64) (.pair (.int .i64) (.sl true 82 (.st (.pair (.int .i64) (.pair (.int .i64) (.pair (.int .i64) (.pair (.int .i64) (.int .i64))))))))))))⟩,
 ⟨49,.slice 30,1,24,(.sl true 30 (.sl true 2 (.int .i64)))⟩,
 ⟨66,.ptr 110,1,8,(.pt true 110 (.st (.pair (.st (.pair (.int .i64) (.pair (.int .i64) (.pair (.int .i64) (.pair (.int .i64) (.sl false 82 (.st (.pair (.int .i64) (.pair (.int .i64) (.pair (.int .i64) (.pair (.int .i64) (.int .i64)))))))))))) (.mp true (.int .i64) (.sl false 2 (.int .i64))))))⟩,
 ⟨78,.struct [(2,0),(2,1),(2,2),(2,3),(2,4),(9,5)],6,56,(.st (.pair (.int .i64) (.pair (.int .i64) (.pair (.int .i64) (.pair (.int .i64) (.pair (.int .i64) .str))))))⟩,
 ⟨82,.struct [(2,0),(2,1),(2,2),(2,3),(2,4)],5,40,(.st (.pair (.int .i64) (.pair (.int .i64) (.pair (.int .i64) (.pair (.int .i64) (.int .i64))))))⟩,
 ⟨84,.struct [(2,0),(2,1),(2,2),(2,3)],4,32,(.st (.pair (.int .i64) (.pair (.int .i64) (.pair (.int .i64) (.int .i64)))))⟩,
 ⟨90,.struct [(2,0),(2,1)],2,16,(.st (.pair (.int .i64) (.int .i64)))⟩,
 ⟨92,.struct [(2,0),(90,1)],3,24,(.st (.pair (.int .i64) (.st (.pair (.int .i64) (.int .i64)))))⟩,
 ⟨94,.struct [(2,0),(2,1)],2,16,(.st (.pair (.int .i64) (.int .i64)))⟩,
 ⟨96,.struct [(2,0),(94,1)],3,24,(.st (.pair (.int .i64) (.st (.pair (.int .i64) (.int .i64)))))⟩,
 ⟨97,.struct [(2,0),(2,1),(2,2),(2,3),(2,4),(9,5)],6,56,(.st (.pair (.int .i64) (.pair (.int .i64) (.pair (.int .i64) (.pair (.int .i64) (.pair (.int .i64) .str))))))⟩,
 ⟨100,.struct [(2,0),(2,1)],2,16,(.st (.pair (.int .i64) (.int .i64)))⟩,
 ⟨102,.struct [(2,0),(2,1)],2,16,(.st (.pair (.int .i64) (.int .i64)))⟩,
 ⟨104,.struct [(2,0),(2,1),(2,2),(2,3),(2,4)],5,40,(.st (.pair (.int .i64) (.pair (.int .i64) (.pair (.int .i64) (.pair (.int .i64) (.int .i64))))))⟩,
 ⟨105,.ptr 124,1,8,(.pt true 124 (.st (.pair (.st (.pair (.sl true 92 (.st (.pair (.int .i64) (.st (.pair (.int .i64) (.int .i64)))))) (.pair (.sl true 97 (.st (.pair (.int .i64) (.pair (.int .i64) (.pair (.int .i64) (.pair (.int .i64) (.pair (.int .i64) .str))))))) (.sl true 100 (.st (.pair (.int .i64) (.int .i64))))))) (.pair (.sl true 30 (.sl true 2 (.int .i64))) (.pair (.sl true 30 (.sl true 2 (.int .i64))) (.mp true (.st (.pair (.int .i64) (.int .i64))) .bool))))))⟩,
 ⟨108,.map 2 30,1,8,(.mp true (.int .i64) (.sl false 2 (.int .i64)))⟩,
 ⟨110,.struct [(42,0),(108,5)],6,64,(.st (.pair (.st (.pair (.int .i64) (.pair (.int .i64) (.pair (.int .i64) (.pair (.int .i64) (.sl false 82 (.st (.pair (.int .i64) (.pair (.int .i64) (.pair (.int .i64) (.pair (.int .i64) (.int .i64)))))))))))) (.mp true (.int .i64) (.sl false 2 (.int .i64)))))⟩,
 ⟨112,.array 6 4,6,6,(.st (.pair .bool (.pair .bool (.pair .bool (.pair .bool (.pair .bool .bool))))))⟩,
 ⟨122,.map 100 4,1,8,(.mp true (.st (.pair (.int .i64) (.int .i64))) .bool)⟩,
 ⟨124,.struct [(38,0),(49,3),(49,4),(122,5)],6,128,(.st (.pair (.st (.pair (.sl true 92 (.st (.pair (.int .i64) (.st (.pair (.int .i64) (.int .i64)))))) (.pair (.sl true 97 (.st (.pair (.int .i64) (.pair (.int .i64) (.pair (.int .i64) (.pair (.int .i64) (.pair (.int .i64) .str))))))) (.sl true 100 (.st (.pair (.int .i64) (.int .i64))))))) (.pair (.sl true 30 (.sl true 2 (.int .i64))) (.pair (.sl true 30 (.sl true 2 (.int .i64))) (.mp true (.st (.pair (.int .i64) (.int .i64))) .bool)))))⟩,
 ⟨126,.slice 4,1,24,(.sl true 4 .bool)⟩,
 ⟨129,.ptr 132,1,8,(.pt true 132 (.st (.pair (.sl true 135 (.st (.pair (.int .i64) (.pair (.int .i64) (.int .i64))))) .unit)))⟩,
 ⟨130,.slice 135,1,24,(.sl true 135 (.st (.pair (.int .i64) (.pair (.int .i64) (.int .i64)))))⟩,
 ⟨132,.struct [(130,0)],1,24,(.st (.pair (.sl true 135 (.st (.pair (.int .i64) (.pair (.int .i64) (.int .i64))))) .unit))⟩,
 ⟨135,.struct [(2,0),(2,1),(2,2)],3,24,(.st (.pair (.int .i64) (.pair (.int .i64) (.int .i64))))⟩]
theorem tok:TOk Try.prog tbl:=by unfold TOk; kernel_rfl
abbrev iS:Sh:=.int .i64
section
variable {w0:World} {Wr Zi:Fp} {N:Fr} {S S':SS} {a:Act} {w:World} {Q:Exit→Act→World→Prop} {id:Nat} {ops:Array Oper} {rest:Code} {c:List Prop}
theorem zc (orc:Nat→List TV) (l:List Nat) (h:Rel w0 Wr Zi N S a w) (hc:AllP c) (hr:∀ a w,Rel w0 Wr Zi N (regS tbl Try.prog N orc [] ops l S) a w→rest.wp Try.prog Q a w) (e:regC tbl Try.prog N orc [] ops l S=c:=by kernel_rfl):((Code.region id ops false).seq rest).wp Try.prog Q a w:=wp_reg_seq tok nw h e hc hr
theorem zd (orc:Nat→List TV) (l:List Nat) (h:Rel w0 Wr Zi N S a w) (hc:AllP c) (hr:∀ a w,Rel w0 Wr Zi N (regS tbl Try.prog N orc [] ops l S) a w→Q .normal a w) (e:regC tbl Try.prog N orc [] ops l S=c:=by kernel_rfl):(Code.region id ops false).wp Try.prog Q a w:=wp_reg tok nw h e hc hr
theorem zs (l:List Nat) (h:Rel w0 Wr Zi N S a w) (hc:AllP c) (hr:∀ a w,Rel w0 Wr Zi N (regS tbl Try.prog N o0 [] ops l S) a w→rest.wp Try.prog Q a w) (e:regC tbl Try.prog N o0 [] ops l S=c:=by kernel_rfl):((Code.region id ops false).seq rest).wp Try.prog Q a w:=wp_reg_seq tok nw h e hc hr
theorem zt (l:List Nat) (h:Rel w0 Wr Zi N S a w) (hc:AllP c) (hr:∀ a w,Rel w0 Wr Zi N (regS tbl Try.prog N o0 [] ops l S) a w→Q .normal a w) (e:regC tbl Try.prog N o0 [] ops l S=c:=by kernel_rfl):(Code.region id ops false).wp Try.prog Q a w:=wp_reg tok nw h e hc hr
theorem ar (h:Rel w0 Wr Zi N S a w) (l:List Nat) (e:arr [] l S=some S':=by kernel_rfl):Rel w0 Wr Zi N S' a w:=h.arrive nw e
theorem zi {α:Type} {t:Nat} {x y:Code} {b:Bool} {X Y:α} {r:α} (h:Rel w0 Wr Zi N S a w) (hF:(if b=true then X else Y)=r) (h1:X=r→x.wp Try.prog Q a w) (h2:Y=r→y.wp Try.prog Q a w) (hb:boolAt S t=some b:=by kernel_rfl):(Code.cond (.tmp t) x y).wp Try.prog Q a w:=wp_if h hb (fun hb => h1 (of_t hb hF)) (fun hb => h2 (of_f hb hF))
end
def f20 (k:Nat) (x0:(List (Int × (Int × Int)))) (x1:Int):Option Int:=if (decide (((IntKind.i64.wrap (x1 - (List.length x0:Int))):Int) < (0:Int))) then (some (-1:Int)) else (some (IntKind.i64.wrap (x1 - (List.length x0:Int))))
theorem c20 (k:Nat) (x0:(List (Int × (Int × Int)))) (x1:Int) (r:Int) (hF:f20 k x0 x1=some r):PCall Try.prog 20 [⟨sh0,x0⟩,⟨iS,x1⟩] [⟨iS,r⟩]:=by
 refine pcall_intro Try.func20 rfl rfl (Nat.le_of_ble_eq_true rfl) ?_
 intro w0 Zi a w h
 rw [f20] at hF
 refine zs [0,1] h an fun a w h => ?_
 refine zs [1] h an fun a w h => ?_
 refine wp_seq ?_
 refine zs [1,10] h an fun a w h => ?_
 refine zi h hF (fun hF => ?_) (fun hF => ?_)
 ·refine zs [4] h an fun a w h => ?_
  cases hF
  exact wp_ret (ret_okR tok h rfl (by kernel_rfl)).1
 ·refine wp_skip ?_
  refine zs [4] h an fun a w h => ?_
  cases hF
  exact wp_ret (ret_okR tok h rfl (by kernel_rfl)).1
def f40 (k:Nat) (x0:(Int × (Int × (Int × (Int × (Int × ByteArray)))))) (x1:Int):Option Int:=if (decide (((IntKind.i64.wrap (x1 - (ByteArray.size x0.2.2.2.2.2:Int))):Int) < (0:Int))) then (some (-1:Int)) else (some (IntKind.i64.wrap (x1 - (ByteArray.size x0.2.2.2.2.2:Int))))
theorem c40 (k:Nat) (x0:(Int × (Int × (Int × (Int × (Int × ByteArray)))))) (x1:Int) (r:Int) (hF:f40 k x0 x1=some r):PCall Try.prog 40 [⟨sh1,x0⟩,⟨iS,x1⟩] [⟨iS,r⟩]:=by
 refine pcall_intro Try.func40 rfl rfl (Nat.le_of_ble_eq_true rfl) ?_
 intro w0 Zi a w h
 rw [f40] at hF
 refine zs [1,2] h an fun a w h => ?_
 refine zs [1] h an fun a w h => ?_
 refine wp_seq ?_
 refine zs [1,11] h an fun a w h => ?_
 refine zi h hF (fun hF => ?_) (fun hF => ?_)
 ·refine zs [4] h an fun a w h => ?_
  cases hF
  exact wp_ret (ret_okR tok h rfl (by kernel_rfl)).1
 ·refine wp_skip ?_
  refine zs [4] h an fun a w h => ?_
  cases hF
  exact wp_ret (ret_okR tok h rfl (by kernel_rfl)).1
def f21.l28 (k:Nat) (x0:(List (Int × (Int × (Int × (Int × (Int × ByteArray))))))):Nat → (Int × Int)→Option Int
 | 0,_ => none
 | m28+1,(v47,v48) => if (decide (v48 < (List.length x0:Int))) then (if (0≤v48∧v48 < (List.length x0:Int)) then ((f40 k (List.getD x0 (Int.toNat v48) ((0:Int),((0:Int),((0:Int),((0:Int),((0:Int),(⟨#[]⟩:ByteArray))))))) v47).bind fun r52 => (if (decide (r52 < (0:Int))) then (some (-1:Int)) else ((f21.l28 k x0) m28 (r52,(IntKind.i64.wrap (v48 + (1:Int))))))) else none) else (some v47)
def f21 (k:Nat) (x0:(List (Int × (Int × (Int × (Int × (Int × ByteArray))))))) (x1:Int):Option Int:=if (decide (((IntKind.i64.wrap (x1 - (List.length x0:Int))):Int) < (0:Int))) then (some (-1:Int)) else (f21.l28 k x0 k ((IntKind.i64.wrap (x1 - (List.length x0:Int))),(0:Int)))
theorem c21 (k:Nat) (x0:(List (Int × (Int × (Int × (Int × (Int × ByteArray))))))) (x1:Int) (r:Int) (hF:f21 k x0 x1=some r):PCall Try.prog 21 [⟨sh2,x0⟩,⟨iS,x1⟩] [⟨iS,r⟩]:=by
 refine pcall_intro Try.func21 rfl rfl (Nat.le_of_ble_eq_true rfl) ?_
 intro w0 Zi a w h
 rw [f21] at hF
 refine zs [0,1] h an fun a w h => ?_
 refine zs [0,1] h an fun a w h => ?_
 refine wp_seq ?_
 refine zs [0,1,11] h an fun a w h => ?_
 refine zi h hF (fun hF => ?_) (fun hF => ?_)
 ·refine zs [4] h an fun a w h => ?_
  cases hF
  exact wp_ret (ret_okR tok h rfl (by kernel_rfl)).1
 ·refine wp_skip ?_
  refine wp_seq ?_
  refine zs [0,1,5] h an fun a w h => ?_
  refine wp_block ?_
  refine wp_loop_fuel (f21.l28 k x0) (fun ((v47,v48):(Int × Int)) => [(0,.val sh2 x0),(1,.val iS v47),(5,.val iS v48)]) (fun v h => by obtain ⟨v47,v48⟩:=v; rw [f21.l28] at h; cases h) ?_ hF (ar h [0,1,5])
  intro m28 v a w hF h
  obtain ⟨v47,v48⟩:=v
  rw [f21.l28] at hF
  refine wp_seq ?_
  refine zs [0,1,5,15] h an fun a w h => ?_
  refine zi h hF (fun hF => ?_) (fun hF => ?_)
  ·refine wp_skip ?_
   refine wp_seq <| wp_block ?_
   obtain ⟨hc53,hF⟩:=of_if hF
   obtain ⟨r52,hr54,hF⟩:=of_bind hF
   refine zc (orcL [(23,[⟨iS,r52⟩])]) [0,1,5] h (ac hc53 (ac (c40 k (gD x0 (tZ v48) zR) v47 r52 hr54) an)) fun a w h => ?_
   refine zs [0,1,5,25] h an fun a w h => ?_
   refine zi h hF (fun hF => ?_) (fun hF => ?_)
   ·refine zs [4] h an fun a w h => ?_
    cases hF
    exact wp_ret (ret_okR tok h rfl (by kernel_rfl)).1
   ·refine wp_skip ?_
    refine zt [0,1,5] h an fun a w h => ?_
    exact ⟨(r52,(w64 (v48 + (1:Int)))),hF,ar h [0,1,5]⟩
  ·refine wp_exit ?_
   refine zs [4] h an fun a w h => ?_
   cases hF
   exact wp_ret (ret_okR tok h rfl (by kernel_rfl)).1
def f22 (k:Nat) (x0:(List (Int × Int))) (x1:Int):Option Int:=if (decide (((IntKind.i64.wrap (x1 - (List.length x0:Int))):Int) < (0:Int))) then (some (-1:Int)) else (some (IntKind.i64.wrap (x1 - (List.length x0:Int))))
theorem c22 (k:Nat) (x0:(List (Int × Int))) (x1:Int) (r:Int) (hF:f22 k x0 x1=some r):PCall Try.prog 22 [⟨sh3,x0⟩,⟨iS,x1⟩] [⟨iS,r⟩]:=by
 refine pcall_intro Try.func22 rfl rfl (Nat.le_of_ble_eq_true rfl) ?_
 intro w0 Zi a w h
 rw [f22] at hF
 refine zs [0,1] h an fun a w h => ?_
 refine zs [1] h an fun a w h => ?_
 refine wp_seq ?_
 refine zs [1,10] h an fun a w h => ?_
 refine zi h hF (fun hF => ?_) (fun hF => ?_)
 ·refine zs [4] h an fun a w h => ?_
  cases hF
  exact wp_ret (ret_okR tok h rfl (by kernel_rfl)).1
 ·refine wp_skip ?_
  refine zs [4] h an fun a w h => ?_
  cases hF
  exact wp_ret (ret_okR tok h rfl (by kernel_rfl)).1
def f5 (k:Nat) (x0:((List (Int × (Int × Int))) × ((List (Int × (Int × (Int × (Int × (Int × ByteArray)))))) × (List (Int × Int))))) (x1:Int):Option Int:=(f20 k x0.1 x1).bind fun r1 => (if (decide (r1 < (0:Int))) then (some (-1:Int)) else ((f21 k x0.2.1 r1).bind fun r2 => (if (decide (r2 < (0:Int))) then (some (-1:Int)) else ((f22 k x0.2.2 r2).bind fun r3 => (if (decide (r3 < (0:Int))) then (some (-1:Int)) else (some r3))))))
theorem c5 (k:Nat) (x0:tG) (x1:Int) (r:Int) (hF:f5 k x0 x1=some r):PCall Try.prog 5 [⟨sh4,x0⟩,⟨iS,x1⟩] [⟨iS,r⟩]:=by
 refine pcall_intro Try.func5 rfl rfl (Nat.le_of_ble_eq_true rfl) ?_
 intro w0 Zi a w h
 rw [f5] at hF
 refine zs [1,2] h an fun a w h => ?_
 obtain ⟨r1,hr6,hF⟩:=of_bind hF
 refine zc (orcL [(8,[⟨iS,r1⟩])]) [1,2] h (ac (c20 k x0.1 x1 r1 hr6) an) fun a w h => ?_
 refine wp_seq ?_
 refine zs [1,2,10] h an fun a w h => ?_
 refine zi h hF (fun hF => ?_) (fun hF => ?_)
 ·refine zs [4] h an fun a w h => ?_
  cases hF
  exact wp_ret (ret_okR tok h rfl (by kernel_rfl)).1
 ·refine wp_skip ?_
  obtain ⟨r2,hr5,hF⟩:=of_bind hF
  refine zc (orcL [(14,[⟨iS,r2⟩])]) [1,2] h (ac (c21 k x0.2.1 r1 r2 hr5) an) fun a w h => ?_
  refine wp_seq ?_
  refine zs [1,2,16] h an fun a w h => ?_
  refine zi h hF (fun hF => ?_) (fun hF => ?_)
  ·refine zs [4] h an fun a w h => ?_
   cases hF
   exact wp_ret (ret_okR tok h rfl (by kernel_rfl)).1
  ·refine wp_skip ?_
   obtain ⟨r3,hr4,hF⟩:=of_bind hF
   refine zc (orcL [(20,[⟨iS,r3⟩])]) [1] h (ac (c22 k x0.2.2 r2 r3 hr4) an) fun a w h => ?_
   refine wp_seq ?_
   refine zs [1,22] h an fun a w h => ?_
   refine zi h hF (fun hF => ?_) (fun hF => ?_)
   ·refine zs [4] h an fun a w h => ?_
    cases hF
    exact wp_ret (ret_okR tok h rfl (by kernel_rfl)).1
   ·refine wp_skip ?_
    refine zs [4] h an fun a w h => ?_
    cases hF
    exact wp_ret (ret_okR tok h rfl (by kernel_rfl)).1
def f23 (k:Nat) (x0:(List (Int × (Int × (Int × (Int × Int)))))) (x1:Int):Option Int:=if (decide (((IntKind.i64.wrap (x1 - (List.length x0:Int))):Int) < (0:Int))) then (some (-1:Int)) else (some (IntKind.i64.wrap (x1 - (List.length x0:Int))))
theorem c23 (k:Nat) (x0:(List (Int × (Int × (Int × (Int × Int)))))) (x1:Int) (r:Int) (hF:f23 k x0 x1=some r):PCall Try.prog 23 [⟨sh5,x0⟩,⟨iS,x1⟩] [⟨iS,r⟩]:=by
 refine pcall_intro Try.func23 rfl rfl (Nat.le_of_ble_eq_true rfl) ?_
 intro w0 Zi a w h
 rw [f23] at hF
 refine zs [0,1] h an fun a w h => ?_
 refine zs [1] h an fun a w h => ?_
 refine wp_seq ?_
 refine zs [1,10] h an fun a w h => ?_
 refine zi h hF (fun hF => ?_) (fun hF => ?_)
 ·refine zs [4] h an fun a w h => ?_
  cases hF
  exact wp_ret (ret_okR tok h rfl (by kernel_rfl)).1
 ·refine wp_skip ?_
  refine zs [4] h an fun a w h => ?_
  cases hF
  exact wp_ret (ret_okR tok h rfl (by kernel_rfl)).1
def f6 (k:Nat) (x0:(Int × (Int × (Int × (Int × (List (Int × (Int × (Int × (Int × Int)))))))))) (x1:Int):Option Int:=(f23 k x0.2.2.2.2 x1).bind fun r1 => (if (decide (r1 < (0:Int))) then (some (-1:Int)) else (some r1))
theorem c6 (k:Nat) (x0:(Int × (Int × (Int × (Int × (List (Int × (Int × (Int × (Int × Int)))))))))) (x1:Int) (r:Int) (hF:f6 k x0 x1=some r):PCall Try.prog 6 [⟨sh6,x0⟩,⟨iS,x1⟩] [⟨iS,r⟩]:=by
 refine pcall_intro Try.func6 rfl rfl (Nat.le_of_ble_eq_true rfl) ?_
 intro w0 Zi a w h
 rw [f6] at hF
 refine zs [1,2] h an fun a w h => ?_
 obtain ⟨r1,hr2,hF⟩:=of_bind hF
 refine zc (orcL [(8,[⟨iS,r1⟩])]) [1] h (ac (c23 k x0.2.2.2.2 x1 r1 hr2) an) fun a w h => ?_
 refine wp_seq ?_
 refine zs [1,10] h an fun a w h => ?_
 refine zi h hF (fun hF => ?_) (fun hF => ?_)
 ·refine zs [4] h an fun a w h => ?_
  cases hF
  exact wp_ret (ret_okR tok h rfl (by kernel_rfl)).1
 ·refine wp_skip ?_
  refine zs [4] h an fun a w h => ?_
  cases hF
  exact wp_ret (ret_okR tok h rfl (by kernel_rfl)).1
def f61 (k:Nat) (x0:(Int × Int)):Option (Int × Int):=some (x0.1,x0.2)
theorem c61 (k:Nat) (x0:(Int × Int)) (r:(Int × Int)) (hF:f61 k x0=some r):PCall Try.prog 61 [⟨sh7,x0⟩] [⟨sh7,r⟩]:=by
 refine pcall_intro Try.func61 rfl rfl (Nat.le_of_ble_eq_true rfl) ?_
 intro w0 Zi a w h
 rw [f61] at hF
 refine zs [1,2] h an fun a w h => ?_
 refine zs [1,2,3] h an fun a w h => ?_
 refine zs [1,2,3] h an fun a w h => ?_
 refine zs [2,3] h an fun a w h => ?_
 refine zs [2] h an fun a w h => ?_
 cases hF
 exact wp_ret (ret_okR tok h rfl (by kernel_rfl)).1
def f46 (k:Nat) (x0:(Int × (Int × Int))):Option (Int × (Int × Int)):=(f61 k x0.2).bind fun r1 => (some (x0.1,r1))
theorem c46 (k:Nat) (x0:(Int × (Int × Int))) (r:(Int × (Int × Int))) (hF:f46 k x0=some r):PCall Try.prog 46 [⟨sh8,x0⟩] [⟨sh8,r⟩]:=by
 refine pcall_intro Try.func46 rfl rfl (Nat.le_of_ble_eq_true rfl) ?_
 intro w0 Zi a w h
 rw [f46] at hF
 refine zs [1,2] h an fun a w h => ?_
 refine zs [1,2,3] h an fun a w h => ?_
 refine zs [1,2,3] h an fun a w h => ?_
 obtain ⟨r1,hr2,hF⟩:=of_bind hF
 refine zc (orcL [(9,[⟨sh7,r1⟩])]) [2,3] h (ac (c61 k x0.2 r1 hr2) an) fun a w h => ?_
 refine zs [2] h an fun a w h => ?_
 cases hF
 exact wp_ret (ret_okR tok h rfl (by kernel_rfl)).1
def f27.l34 (k:Nat) (x0:(List (Int × (Int × Int)))):Nat → ((List (Int × (Int × Int))) × Int)→Option (List (Int × (Int × Int)))
 | 0,_ => none
 | m34+1,(v57,v58) => if (decide (v58 < (List.length x0:Int))) then (if (0≤v58∧v58 < (List.length x0:Int)) then ((f46 k (List.getD x0 (Int.toNat v58) ((0:Int),((0:Int),(0:Int))))).bind fun r63 => (if (0≤v58∧v58 < (List.length v57:Int)) then ((f27.l34 k x0) m34 ((List.set v57 (Int.toNat v58) r63),(IntKind.i64.wrap (v58 + (1:Int))))) else none)) else none) else (some v57)
def f27 (k:Nat) (x0:(List (Int × (Int × Int)))):Option (List (Int × (Int × Int))):=if (0 ≤ (List.length x0:Int)∧Int.toNat (List.length x0:Int)*24≤140737488355328) then (f27.l34 k x0 k ((List.replicate (Int.toNat (List.length x0:Int)) ((0:Int),((0:Int),(0:Int)))),(0:Int))) else none
theorem c27 (k:Nat) (x0:(List (Int × (Int × Int)))) (r:(List (Int × (Int × Int)))) (hF:f27 k x0=some r):PCall Try.prog 27 [⟨sh0,x0⟩] [⟨sh9,r⟩]:=by
 refine pcall_intro Try.func27 rfl rfl (Nat.le_of_ble_eq_true rfl) ?_
 intro w0 Zi a w h
 rw [f27] at hF
 refine zs [0] h an fun a w h => ?_
 obtain ⟨hc67,hF⟩:=of_if hF
 refine zs [0,3] h (ac hc67 an) fun a w h => ?_
 refine wp_seq ?_
 refine zs [0,3,4] h an fun a w h => ?_
 refine wp_block ?_
 refine wp_loop_fuel (f27.l34 k x0) (fun ((v57,v58):((List (Int × (Int × Int))) × Int)) => [(0,.val sh0 x0),(3,.val sh9 v57),(4,.val iS v58)]) (fun v h => by obtain ⟨v57,v58⟩:=v; rw [f27.l34] at h; cases h) ?_ hF (ar h [0,3,4])
 intro m34 v a w hF h
 obtain ⟨v57,v58⟩:=v
 rw [f27.l34] at hF
 refine wp_seq ?_
 refine zs [0,3,4,11] h an fun a w h => ?_
 refine zi h hF (fun hF => ?_) (fun hF => ?_)
 ·refine wp_skip ?_
  refine wp_seq <| wp_block ?_
  obtain ⟨hc64,hF⟩:=of_if hF
  obtain ⟨r63,hr65,hF⟩:=of_bind hF
  obtain ⟨hc66,hF⟩:=of_if hF
  refine zd (orcL [(20,[⟨sh8,r63⟩])]) [0,3,4] h (ac hc64 (ac (c46 k (gD x0 (tZ v58) (iO,(iO,iO))) r63 hr65) (ac hc66 an))) fun a w h => ?_
  refine zt [0,3,4] h an fun a w h => ?_
  exact ⟨((List.set v57 (tZ v58) r63),(w64 (v58 + (1:Int)))),hF,ar h [0,3,4]⟩
 ·refine wp_exit ?_
  refine zs [2,3] h an fun a w h => ?_
  cases hF
  exact wp_ret (ret_okR tok h rfl (by kernel_rfl)).1
def f47 (k:Nat) (x0:(Int × (Int × (Int × (Int × (Int × ByteArray)))))):Option (Int × (Int × (Int × (Int × (Int × ByteArray))))):=some (x0.1,(x0.2.1,(x0.2.2.1,(x0.2.2.2.1,(x0.2.2.2.2.1,x0.2.2.2.2.2)))))
theorem c47 (k:Nat) (x0:(Int × (Int × (Int × (Int × (Int × ByteArray)))))) (r:(Int × (Int × (Int × (Int × (Int × ByteArray)))))) (hF:f47 k x0=some r):PCall Try.prog 47 [⟨sh1,x0⟩] [⟨sh1,r⟩]:=by
 refine pcall_intro Try.func47 rfl rfl (Nat.le_of_ble_eq_true rfl) ?_
 intro w0 Zi a w h
 rw [f47] at hF
 refine zs [1,2] h an fun a w h => ?_
 refine zs [1,2,3] h an fun a w h => ?_
 refine zs [1,2,3] h an fun a w h => ?_
 refine zs [1,2,3] h an fun a w h => ?_
 refine zs [1,2,3] h an fun a w h => ?_
 refine zs [1,2,3] h an fun a w h => ?_
 refine zs [1,2,3] h an fun a w h => ?_
 refine zs [2,3] h an fun a w h => ?_
 refine zs [2] h an fun a w h => ?_
 cases hF
 exact wp_ret (ret_okR tok h rfl (by kernel_rfl)).1
def f28.l34 (k:Nat) (x0:(List (Int × (Int × (Int × (Int × (Int × ByteArray))))))):Nat → ((List (Int × (Int × (Int × (Int × (Int × ByteArray)))))) × Int)→Option (List (Int × (Int × (Int × (Int × (Int × ByteArray))))))
 | 0,_ => none
 | m34+1,(v57,v58) => if (decide (v58 < (List.length x0:Int))) then (if (0≤v58∧v58 < (List.length x0:Int)) then ((f47 k (List.getD x0 (Int.toNat v58) ((0:Int),((0:Int),((0:Int),((0:Int),((0:Int),(⟨#[]⟩:ByteArray)))))))).bind fun r63 => (if (0≤v58∧v58 < (List.length v57:Int)) then ((f28.l34 k x0) m34 ((List.set v57 (Int.toNat v58) r63),(IntKind.i64.wrap (v58 + (1:Int))))) else none)) else none) else (some v57)
def f28 (k:Nat) (x0:(List (Int × (Int × (Int × (Int × (Int × ByteArray))))))):Option (List (Int × (Int × (Int × (Int × (Int × ByteArray)))))):=if (0 ≤ (List.length x0:Int)∧Int.toNat (List.length x0:Int)*56≤140737488355328) then (f28.l34 k x0 k ((List.replicate (Int.toNat (List.length x0:Int)) ((0:Int),((0:Int),((0:Int),((0:Int),((0:Int),(⟨#[]⟩:ByteArray))))))),(0:Int))) else none
theorem c28 (k:Nat) (x0:(List (Int × (Int × (Int × (Int × (Int × ByteArray))))))) (r:(List (Int × (Int × (Int × (Int × (Int × ByteArray))))))) (hF:f28 k x0=some r):PCall Try.prog 28 [⟨sh2,x0⟩] [⟨sh10,r⟩]:=by
 refine pcall_intro Try.func28 rfl rfl (Nat.le_of_ble_eq_true rfl) ?_
 intro w0 Zi a w h
 rw [f28] at hF
 refine zs [0] h an fun a w h => ?_
 obtain ⟨hc67,hF⟩:=of_if hF
 refine zs [0,3] h (ac hc67 an) fun a w h => ?_
 refine wp_seq ?_
 refine zs [0,3,4] h an fun a w h => ?_
 refine wp_block ?_
 refine wp_loop_fuel (f28.l34 k x0) (fun ((v57,v58):((List (Int × (Int × (Int × (Int × (Int × ByteArray)))))) × Int)) => [(0,.val sh2 x0),(3,.val sh10 v57),(4,.val iS v58)]) (fun v h => by obtain ⟨v57,v58⟩:=v; rw [f28.l34] at h; cases h) ?_ hF (ar h [0,3,4])
 intro m34 v a w hF h
 obtain ⟨v57,v58⟩:=v
 rw [f28.l34] at hF
 refine wp_seq ?_
 refine zs [0,3,4,11] h an fun a w h => ?_
 refine zi h hF (fun hF => ?_) (fun hF => ?_)
 ·refine wp_skip ?_
  refine wp_seq <| wp_block ?_
  obtain ⟨hc64,hF⟩:=of_if hF
  obtain ⟨r63,hr65,hF⟩:=of_bind hF
  obtain ⟨hc66,hF⟩:=of_if hF
  refine zd (orcL [(20,[⟨sh1,r63⟩])]) [0,3,4] h (ac hc64 (ac (c47 k (gD x0 (tZ v58) zR) r63 hr65) (ac hc66 an))) fun a w h => ?_
  refine zt [0,3,4] h an fun a w h => ?_
  exact ⟨((List.set v57 (tZ v58) r63),(w64 (v58 + (1:Int)))),hF,ar h [0,3,4]⟩
 ·refine wp_exit ?_
  refine zs [2,3] h an fun a w h => ?_
  cases hF
  exact wp_ret (ret_okR tok h rfl (by kernel_rfl)).1
def f48 (k:Nat) (x0:(Int × Int)):Option (Int × Int):=some (x0.1,x0.2)
theorem c48 (k:Nat) (x0:(Int × Int)) (r:(Int × Int)) (hF:f48 k x0=some r):PCall Try.prog 48 [⟨sh7,x0⟩] [⟨sh7,r⟩]:=by
 refine pcall_intro Try.func48 rfl rfl (Nat.le_of_ble_eq_true rfl) ?_
 intro w0 Zi a w h
 rw [f48] at hF
 refine zs [1,2] h an fun a w h => ?_
 refine zs [1,2,3] h an fun a w h => ?_
 refine zs [1,2,3] h an fun a w h => ?_
 refine zs [2,3] h an fun a w h => ?_
 refine zs [2] h an fun a w h => ?_
 cases hF
 exact wp_ret (ret_okR tok h rfl (by kernel_rfl)).1
def f29.l34 (k:Nat) (x0:(List (Int × Int))):Nat → ((List (Int × Int)) × Int)→Option (List (Int × Int))
 | 0,_ => none
 | m34+1,(v57,v58) => if (decide (v58 < (List.length x0:Int))) then (if (0≤v58∧v58 < (List.length x0:Int)) then ((f48 k (List.getD x0 (Int.toNat v58) ((0:Int),(0:Int)))).bind fun r63 => (if (0≤v58∧v58 < (List.length v57:Int)) then ((f29.l34 k x0) m34 ((List.set v57 (Int.toNat v58) r63),(IntKind.i64.wrap (v58 + (1:Int))))) else none)) else none) else (some v57)
def f29 (k:Nat) (x0:(List (Int × Int))):Option (List (Int × Int)):=if (0 ≤ (List.length x0:Int)∧Int.toNat (List.length x0:Int)*16≤140737488355328) then (f29.l34 k x0 k ((List.replicate (Int.toNat (List.length x0:Int)) ((0:Int),(0:Int))),(0:Int))) else none
theorem c29 (k:Nat) (x0:(List (Int × Int))) (r:(List (Int × Int))) (hF:f29 k x0=some r):PCall Try.prog 29 [⟨sh3,x0⟩] [⟨sh11,r⟩]:=by
 refine pcall_intro Try.func29 rfl rfl (Nat.le_of_ble_eq_true rfl) ?_
 intro w0 Zi a w h
 rw [f29] at hF
 refine zs [0] h an fun a w h => ?_
 obtain ⟨hc67,hF⟩:=of_if hF
 refine zs [0,3] h (ac hc67 an) fun a w h => ?_
 refine wp_seq ?_
 refine zs [0,3,4] h an fun a w h => ?_
 refine wp_block ?_
 refine wp_loop_fuel (f29.l34 k x0) (fun ((v57,v58):((List (Int × Int)) × Int)) => [(0,.val sh3 x0),(3,.val sh11 v57),(4,.val iS v58)]) (fun v h => by obtain ⟨v57,v58⟩:=v; rw [f29.l34] at h; cases h) ?_ hF (ar h [0,3,4])
 intro m34 v a w hF h
 obtain ⟨v57,v58⟩:=v
 rw [f29.l34] at hF
 refine wp_seq ?_
 refine zs [0,3,4,11] h an fun a w h => ?_
 refine zi h hF (fun hF => ?_) (fun hF => ?_)
 ·refine wp_skip ?_
  refine wp_seq <| wp_block ?_
  obtain ⟨hc64,hF⟩:=of_if hF
  obtain ⟨r63,hr65,hF⟩:=of_bind hF
  obtain ⟨hc66,hF⟩:=of_if hF
  refine zd (orcL [(20,[⟨sh7,r63⟩])]) [0,3,4] h (ac hc64 (ac (c48 k (gD x0 (tZ v58) (iO,iO)) r63 hr65) (ac hc66 an))) fun a w h => ?_
  refine zt [0,3,4] h an fun a w h => ?_
  exact ⟨((List.set v57 (tZ v58) r63),(w64 (v58 + (1:Int)))),hF,ar h [0,3,4]⟩
 ·refine wp_exit ?_
  refine zs [2,3] h an fun a w h => ?_
  cases hF
  exact wp_ret (ret_okR tok h rfl (by kernel_rfl)).1
def f8 (k:Nat) (x0:((List (Int × (Int × Int))) × ((List (Int × (Int × (Int × (Int × (Int × ByteArray)))))) × (List (Int × Int))))):Option ((List (Int × (Int × Int))) × ((List (Int × (Int × (Int × (Int × (Int × ByteArray)))))) × (List (Int × Int)))):=(f27 k x0.1).bind fun r1 => ((f28 k x0.2.1).bind fun r2 => ((f29 k x0.2.2).bind fun r3 => (some (r1,(r2,r3)))))
theorem c8 (k:Nat) (x0:tG) (r:tG) (hF:f8 k x0=some r):PCall Try.prog 8 [⟨sh4,x0⟩] [⟨sh12,r⟩]:=by
 refine pcall_intro Try.func8 rfl rfl (Nat.le_of_ble_eq_true rfl) ?_
 intro w0 Zi a w h
 rw [f8] at hF
 refine zs [1,2] h an fun a w h => ?_
 refine zs [1,2,3] h an fun a w h => ?_
 obtain ⟨r1,hr6,hF⟩:=of_bind hF
 refine zc (orcL [(6,[⟨sh9,r1⟩])]) [1,2,3] h (ac (c27 k x0.1 r1 hr6) an) fun a w h => ?_
 obtain ⟨r2,hr5,hF⟩:=of_bind hF
 refine zc (orcL [(10,[⟨sh10,r2⟩])]) [1,2,3] h (ac (c28 k x0.2.1 r2 hr5) an) fun a w h => ?_
 obtain ⟨r3,hr4,hF⟩:=of_bind hF
 refine zc (orcL [(14,[⟨sh11,r3⟩])]) [2,3] h (ac (c29 k x0.2.2 r3 hr4) an) fun a w h => ?_
 refine zs [2] h an fun a w h => ?_
 cases hF
 exact wp_ret (ret_okR tok h rfl (by kernel_rfl)).1
def f49 (k:Nat) (x0:(Int × (Int × (Int × (Int × Int))))):Option (Int × (Int × (Int × (Int × Int)))):=some (x0.1,(x0.2.1,(x0.2.2.1,(x0.2.2.2.1,x0.2.2.2.2))))
theorem c49 (k:Nat) (x0:(Int × (Int × (Int × (Int × Int))))) (r:(Int × (Int × (Int × (Int × Int))))) (hF:f49 k x0=some r):PCall Try.prog 49 [⟨sh13,x0⟩] [⟨sh13,r⟩]:=by
 refine pcall_intro Try.func49 rfl rfl (Nat.le_of_ble_eq_true rfl) ?_
 intro w0 Zi a w h
 rw [f49] at hF
 refine zs [1,2] h an fun a w h => ?_
 refine zs [1,2,3] h an fun a w h => ?_
 refine zs [1,2,3] h an fun a w h => ?_
 refine zs [1,2,3] h an fun a w h => ?_
 refine zs [1,2,3] h an fun a w h => ?_
 refine zs [1,2,3] h an fun a w h => ?_
 refine zs [2,3] h an fun a w h => ?_
 refine zs [2] h an fun a w h => ?_
 cases hF
 exact wp_ret (ret_okR tok h rfl (by kernel_rfl)).1
def f30.l34 (k:Nat) (x0:(List (Int × (Int × (Int × (Int × Int)))))):Nat → ((List (Int × (Int × (Int × (Int × Int))))) × Int)→Option (List (Int × (Int × (Int × (Int × Int)))))
 | 0,_ => none
 | m34+1,(v57,v58) => if (decide (v58 < (List.length x0:Int))) then (if (0≤v58∧v58 < (List.length x0:Int)) then ((f49 k (List.getD x0 (Int.toNat v58) ((0:Int),((0:Int),((0:Int),((0:Int),(0:Int))))))).bind fun r63 => (if (0≤v58∧v58 < (List.length v57:Int)) then ((f30.l34 k x0) m34 ((List.set v57 (Int.toNat v58) r63),(IntKind.i64.wrap (v58 + (1:Int))))) else none)) else none) else (some v57)
def f30 (k:Nat) (x0:(List (Int × (Int × (Int × (Int × Int)))))):Option (List (Int × (Int × (Int × (Int × Int))))):=if (0 ≤ (List.length x0:Int)∧Int.toNat (List.length x0:Int)*40≤140737488355328) then (f30.l34 k x0 k ((List.replicate (Int.toNat (List.length x0:Int)) ((0:Int),((0:Int),((0:Int),((0:Int),(0:Int)))))),(0:Int))) else none
theorem c30 (k:Nat) (x0:(List (Int × (Int × (Int × (Int × Int)))))) (r:(List (Int × (Int × (Int × (Int × Int)))))) (hF:f30 k x0=some r):PCall Try.prog 30 [⟨sh5,x0⟩] [⟨sh14,r⟩]:=by
 refine pcall_intro Try.func30 rfl rfl (Nat.le_of_ble_eq_true rfl) ?_
 intro w0 Zi a w h
 rw [f30] at hF
 refine zs [0] h an fun a w h => ?_
 obtain ⟨hc67,hF⟩:=of_if hF
 refine zs [0,3] h (ac hc67 an) fun a w h => ?_
 refine wp_seq ?_
 refine zs [0,3,4] h an fun a w h => ?_
 refine wp_block ?_
 refine wp_loop_fuel (f30.l34 k x0) (fun ((v57,v58):((List (Int × (Int × (Int × (Int × Int))))) × Int)) => [(0,.val sh5 x0),(3,.val sh14 v57),(4,.val iS v58)]) (fun v h => by obtain ⟨v57,v58⟩:=v; rw [f30.l34] at h; cases h) ?_ hF (ar h [0,3,4])
 intro m34 v a w hF h
 obtain ⟨v57,v58⟩:=v
 rw [f30.l34] at hF
 refine wp_seq ?_
 refine zs [0,3,4,11] h an fun a w h => ?_
 refine zi h hF (fun hF => ?_) (fun hF => ?_)
 ·refine wp_skip ?_
  refine wp_seq <| wp_block ?_
  obtain ⟨hc64,hF⟩:=of_if hF
  obtain ⟨r63,hr65,hF⟩:=of_bind hF
  obtain ⟨hc66,hF⟩:=of_if hF
  refine zd (orcL [(20,[⟨sh13,r63⟩])]) [0,3,4] h (ac hc64 (ac (c49 k (gD x0 (tZ v58) (iO,(iO,(iO,(iO,iO))))) r63 hr65) (ac hc66 an))) fun a w h => ?_
  refine zt [0,3,4] h an fun a w h => ?_
  exact ⟨((List.set v57 (tZ v58) r63),(w64 (v58 + (1:Int)))),hF,ar h [0,3,4]⟩
 ·refine wp_exit ?_
  refine zs [2,3] h an fun a w h => ?_
  cases hF
  exact wp_ret (ret_okR tok h rfl (by kernel_rfl)).1
def f9 (k:Nat) (x0:(Int × (Int × (Int × (Int × (List (Int × (Int × (Int × (Int × Int)))))))))):Option (Int × (Int × (Int × (Int × (List (Int × (Int × (Int × (Int × Int))))))))):=(f30 k x0.2.2.2.2).bind fun r1 => (some (x0.1,(x0.2.1,(x0.2.2.1,(x0.2.2.2.1,r1)))))
theorem c9 (k:Nat) (x0:(Int × (Int × (Int × (Int × (List (Int × (Int × (Int × (Int × Int)))))))))) (r:(Int × (Int × (Int × (Int × (List (Int × (Int × (Int × (Int × Int)))))))))) (hF:f9 k x0=some r):PCall Try.prog 9 [⟨sh6,x0⟩] [⟨sh15,r⟩]:=by
 refine pcall_intro Try.func9 rfl rfl (Nat.le_of_ble_eq_true rfl) ?_
 intro w0 Zi a w h
 rw [f9] at hF
 refine zs [1,2] h an fun a w h => ?_
 refine zs [1,2,3] h an fun a w h => ?_
 refine zs [1,2,3] h an fun a w h => ?_
 refine zs [1,2,3] h an fun a w h => ?_
 refine zs [1,2,3] h an fun a w h => ?_
 refine zs [1,2,3] h an fun a w h => ?_
 obtain ⟨r1,hr2,hF⟩:=of_bind hF
 refine zc (orcL [(18,[⟨sh14,r1⟩])]) [2,3] h (ac (c30 k x0.2.2.2.2 r1 hr2) an) fun a w h => ?_
 refine zs [2] h an fun a w h => ?_
 cases hF
 exact wp_ret (ret_okR tok h rfl (by kernel_rfl)).1
def f10.l22 (k:Nat) (x0:(List Int)):Nat → ((List Int) × Int)→Option (List Int)
 | 0,_ => none
 | m22+1,(v37,v38) => if (decide (v38 < (List.length x0:Int))) then (if (0≤v38∧v38 < (List.length x0:Int)) then (if (0≤v38∧v38 < (List.length v37:Int)) then ((f10.l22 k x0) m22 ((List.set v37 (Int.toNat v38) (List.getD x0 (Int.toNat v38) (0:Int))),(IntKind.i64.wrap (v38 + (1:Int))))) else none) else none) else (some v37)
def f10 (k:Nat) (x0:(List Int)):Option (List Int):=if (0 ≤ (List.length x0:Int)∧Int.toNat (List.length x0:Int)*8≤140737488355328) then (f10.l22 k x0 k ((List.replicate (Int.toNat (List.length x0:Int)) (0:Int)),(0:Int))) else none
theorem c10 (k:Nat) (x0:(List Int)) (r:(List Int)) (hF:f10 k x0=some r):PCall Try.prog 10 [⟨(.sl false 2 iS),x0⟩] [⟨(.sl true 2 iS),r⟩]:=by
 refine pcall_intro Try.func10 rfl rfl (Nat.le_of_ble_eq_true rfl) ?_
 intro w0 Zi a w h
 rw [f10] at hF
 refine zs [0] h an fun a w h => ?_
 obtain ⟨hc43,hF⟩:=of_if hF
 refine zs [0,3] h (ac hc43 an) fun a w h => ?_
 refine wp_seq ?_
 refine zs [0,3,4] h an fun a w h => ?_
 refine wp_block ?_
 refine wp_loop_fuel (f10.l22 k x0) (fun ((v37,v38):((List Int) × Int)) => [(0,.val (.sl false 2 iS) x0),(3,.val (.sl true 2 iS) v37),(4,.val iS v38)]) (fun v h => by obtain ⟨v37,v38⟩:=v; rw [f10.l22] at h; cases h) ?_ hF (ar h [0,3,4])
 intro m22 v a w hF h
 obtain ⟨v37,v38⟩:=v
 rw [f10.l22] at hF
 refine wp_seq ?_
 refine zs [0,3,4,11] h an fun a w h => ?_
 refine zi h hF (fun hF => ?_) (fun hF => ?_)
 ·refine wp_skip ?_
  refine wp_seq <| wp_block ?_
  obtain ⟨hc41,hF⟩:=of_if hF
  obtain ⟨hc42,hF⟩:=of_if hF
  refine zt [0,3,4] h (ac hc41 (ac hc42 an)) fun a w h => ?_
  refine zt [0,3,4] h an fun a w h => ?_
  exact ⟨((List.set v37 (tZ v38) (gD x0 (tZ v38) iO)),(w64 (v38 + (1:Int)))),hF,ar h [0,3,4]⟩
 ·refine wp_exit ?_
  refine zs [2,3] h an fun a w h => ?_
  cases hF
  exact wp_ret (ret_okR tok h rfl (by kernel_rfl)).1
def f57 (k:Nat) (x0:Int):Option Bool:=some (bif (decide (x0 ≥ (1:Int))) then (decide (x0 ≤ (1000000000:Int))) else false)
theorem c57 (k:Nat) (x0:Int) (r:Bool) (hF:f57 k x0=some r):PCall Try.prog 57 [⟨iS,x0⟩] [⟨.bool,r⟩]:=by
 refine pcall_intro Try.func57 rfl rfl (Nat.le_of_ble_eq_true rfl) ?_
 intro w0 Zi a w h
 rw [f57] at hF
 refine zs [0] h an fun a w h => ?_
 refine zs [2] h an fun a w h => ?_
 cases hF
 exact wp_ret (ret_okR tok h rfl (by kernel_rfl)).1
def f58 (k:Nat) (x0:(Int × Int)):Option Bool:=some (bif (bif (bif (decide (x0.1 ≥ (-10000000:Int))) then (decide (x0.1 ≤ (10000000:Int))) else false) then (decide (x0.2 ≥ (-10000000:Int))) else false) then (decide (x0.2 ≤ (10000000:Int))) else false)
theorem c58 (k:Nat) (x0:(Int × Int)) (r:Bool) (hF:f58 k x0=some r):PCall Try.prog 58 [⟨sh7,x0⟩] [⟨.bool,r⟩]:=by
 refine pcall_intro Try.func58 rfl rfl (Nat.le_of_ble_eq_true rfl) ?_
 intro w0 Zi a w h
 rw [f58] at hF
 refine zs [1] h an fun a w h => ?_
 refine zs [2] h an fun a w h => ?_
 cases hF
 exact wp_ret (ret_okR tok h rfl (by kernel_rfl)).1
def f59 (k:Nat) (x0:(Int × Int)) (x1:(Int × Int)):Option Bool:=some (bif (decide (x0.1 < x1.1)) then true else (bif (x0.1 == x1.1) then (decide (x0.2 < x1.2)) else false))
theorem c59 (k:Nat) (x0:(Int × Int)) (x1:(Int × Int)) (r:Bool) (hF:f59 k x0 x1=some r):PCall Try.prog 59 [⟨sh7,x0⟩,⟨sh7,x1⟩] [⟨.bool,r⟩]:=by
 refine pcall_intro Try.func59 rfl rfl (Nat.le_of_ble_eq_true rfl) ?_
 intro w0 Zi a w h
 rw [f59] at hF
 refine zs [2,3] h an fun a w h => ?_
 refine zs [4] h an fun a w h => ?_
 cases hF
 exact wp_ret (ret_okR tok h rfl (by kernel_rfl)).1
def f41.l206 (k:Nat) (x0:((List (Int × (Int × Int))) × ((List (Int × (Int × (Int × (Int × (Int × ByteArray)))))) × (List (Int × Int))))):Nat→Int→Option Bool
 | 0,_ => none
 | m206+1,v242 => if (decide (v242 < (List.length x0.2.2:Int))) then (if (0≤v242∧v242 < (List.length x0.2.2:Int)) then (if (((bif (bif (bif (decide (((List.getD x0.2.2 (Int.toNat v242) ((0:Int),(0:Int))).1:Int) < (0:Int))) then true else (decide (((List.getD x0.2.2 (Int.toNat v242) ((0:Int),(0:Int))).1:Int) ≥ (List.length x0.2.1:Int)))) then true else (decide (((List.getD x0.2.2 (Int.toNat v242) ((0:Int),(0:Int))).2:Int) < (0:Int)))) then true else (decide (((List.getD x0.2.2 (Int.toNat v242) ((0:Int),(0:Int))).2:Int) ≥ (List.length x0.2.1:Int))))=false) → (0 ≤ (List.getD x0.2.2 (Int.toNat v242) ((0:Int),(0:Int))).1 ∧ (List.getD x0.2.2 (Int.toNat v242) ((0:Int),(0:Int))).1 < (List.length x0.2.1:Int))) then (if (((bif (bif (bif (decide (((List.getD x0.2.2 (Int.toNat v242) ((0:Int),(0:Int))).1:Int) < (0:Int))) then true else (decide (((List.getD x0.2.2 (Int.toNat v242) ((0:Int),(0:Int))).1:Int) ≥ (List.length x0.2.1:Int)))) then true else (decide (((List.getD x0.2.2 (Int.toNat v242) ((0:Int),(0:Int))).2:Int) < (0:Int)))) then true else (decide (((List.getD x0.2.2 (Int.toNat v242) ((0:Int),(0:Int))).2:Int) ≥ (List.length x0.2.1:Int))))=false) → (0 ≤ (List.getD x0.2.2 (Int.toNat v242) ((0:Int),(0:Int))).2 ∧ (List.getD x0.2.2 (Int.toNat v242) ((0:Int),(0:Int))).2 < (List.length x0.2.1:Int))) then (if ((((bif (bif (bif (bif (decide (((List.getD x0.2.2 (Int.toNat v242) ((0:Int),(0:Int))).1:Int) < (0:Int))) then true else (decide (((List.getD x0.2.2 (Int.toNat v242) ((0:Int),(0:Int))).1:Int) ≥ (List.length x0.2.1:Int)))) then true else (decide (((List.getD x0.2.2 (Int.toNat v242) ((0:Int),(0:Int))).2:Int) < (0:Int)))) then true else (decide (((List.getD x0.2.2 (Int.toNat v242) ((0:Int),(0:Int))).2:Int) ≥ (List.length x0.2.1:Int)))) then true else (((List.getD x0.2.1 (Int.toNat (List.getD x0.2.2 (Int.toNat v242) ((0:Int),(0:Int))).1) ((0:Int),((0:Int),((0:Int),((0:Int),((0:Int),(⟨#[]⟩:ByteArray))))))).2.1:Int) != (List.getD x0.2.1 (Int.toNat (List.getD x0.2.2 (Int.toNat v242) ((0:Int),(0:Int))).2) ((0:Int),((0:Int),((0:Int),((0:Int),((0:Int),(⟨#[]⟩:ByteArray))))))).1))=false) ∧ ((decide (v242 > (0:Int)))=true)) → (0 ≤ (IntKind.i64.wrap (v242 - (1:Int))) ∧ (IntKind.i64.wrap (v242 - (1:Int))) < (List.length x0.2.2:Int))) then ((if (((bif (bif (bif (bif (decide (((List.getD x0.2.2 (Int.toNat v242) ((0:Int),(0:Int))).1:Int) < (0:Int))) then true else (decide (((List.getD x0.2.2 (Int.toNat v242) ((0:Int),(0:Int))).1:Int) ≥ (List.length x0.2.1:Int)))) then true else (decide (((List.getD x0.2.2 (Int.toNat v242) ((0:Int),(0:Int))).2:Int) < (0:Int)))) then true else (decide (((List.getD x0.2.2 (Int.toNat v242) ((0:Int),(0:Int))).2:Int) ≥ (List.length x0.2.1:Int)))) then true else (((List.getD x0.2.1 (Int.toNat (List.getD x0.2.2 (Int.toNat v242) ((0:Int),(0:Int))).1) ((0:Int),((0:Int),((0:Int),((0:Int),((0:Int),(⟨#[]⟩:ByteArray))))))).2.1:Int) != (List.getD x0.2.1 (Int.toNat (List.getD x0.2.2 (Int.toNat v242) ((0:Int),(0:Int))).2) ((0:Int),((0:Int),((0:Int),((0:Int),((0:Int),(⟨#[]⟩:ByteArray))))))).1))=false) ∧ ((decide (v242 > (0:Int)))=true)) then f59 k (List.getD x0.2.2 (Int.toNat (IntKind.i64.wrap (v242 - (1:Int)))) ((0:Int),(0:Int))) (List.getD x0.2.2 (Int.toNat v242) ((0:Int),(0:Int))) else some default).bind fun r251 => ((some ((bif (bif (bif (bif (bif (decide (((List.getD x0.2.2 (Int.toNat v242) ((0:Int),(0:Int))).1:Int) < (0:Int))) then true else (decide (((List.getD x0.2.2 (Int.toNat v242) ((0:Int),(0:Int))).1:Int) ≥ (List.length x0.2.1:Int)))) then true else (decide (((List.getD x0.2.2 (Int.toNat v242) ((0:Int),(0:Int))).2:Int) < (0:Int)))) then true else (decide (((List.getD x0.2.2 (Int.toNat v242) ((0:Int),(0:Int))).2:Int) ≥ (List.length x0.2.1:Int)))) then true else (((List.getD x0.2.1 (Int.toNat (List.getD x0.2.2 (Int.toNat v242) ((0:Int),(0:Int))).1) ((0:Int),((0:Int),((0:Int),((0:Int),((0:Int),(⟨#[]⟩:ByteArray))))))).2.1:Int) != (List.getD x0.2.1 (Int.toNat (List.getD x0.2.2 (Int.toNat v242) ((0:Int),(0:Int))).2) ((0:Int),((0:Int),((0:Int),((0:Int),((0:Int),(⟨#[]⟩:ByteArray))))))).1)) then true else (bif (decide (v242 > (0:Int))) then (!r251) else false)):Bool)).bind fun v252 => (if v252 then (some false) else ((f41.l206 k x0) m206 (IntKind.i64.wrap (v242 + (1:Int))))))) else none) else none) else none) else none) else (some true)
def f41.l118 (k:Nat) (x0:((List (Int × (Int × Int))) × ((List (Int × (Int × (Int × (Int × (Int × ByteArray)))))) × (List (Int × Int))))):Nat→Int→Option Bool
 | 0,_ => none
 | m118+1,v142 => if (decide (v142 < (List.length x0.2.1:Int))) then (if (0≤v142∧v142 < (List.length x0.2.1:Int)) then ((if ((bif (bif (bif (decide (((List.getD x0.2.1 (Int.toNat v142) ((0:Int),((0:Int),((0:Int),((0:Int),((0:Int),(⟨#[]⟩:ByteArray))))))).1:Int) < (0:Int))) then true else (decide (((List.getD x0.2.1 (Int.toNat v142) ((0:Int),((0:Int),((0:Int),((0:Int),((0:Int),(⟨#[]⟩:ByteArray))))))).1:Int) ≥ (List.length x0.1:Int)))) then true else (decide (((List.getD x0.2.1 (Int.toNat v142) ((0:Int),((0:Int),((0:Int),((0:Int),((0:Int),(⟨#[]⟩:ByteArray))))))).2.1:Int) < (0:Int)))) then true else (decide (((List.getD x0.2.1 (Int.toNat v142) ((0:Int),((0:Int),((0:Int),((0:Int),((0:Int),(⟨#[]⟩:ByteArray))))))).2.1:Int) ≥ (List.length x0.1:Int))))=false) then f57 k (List.getD x0.2.1 (Int.toNat v142) ((0:Int),((0:Int),((0:Int),((0:Int),((0:Int),(⟨#[]⟩:ByteArray))))))).2.2.1 else some default).bind fun r148 => ((some ((bif (bif (bif (bif (bif (bif (bif (bif (decide (((List.getD x0.2.1 (Int.toNat v142) ((0:Int),((0:Int),((0:Int),((0:Int),((0:Int),(⟨#[]⟩:ByteArray))))))).1:Int) < (0:Int))) then true else (decide (((List.getD x0.2.1 (Int.toNat v142) ((0:Int),((0:Int),((0:Int),((0:Int),((0:Int),(⟨#[]⟩:ByteArray))))))).1:Int) ≥ (List.length x0.1:Int)))) then true else (decide (((List.getD x0.2.1 (Int.toNat v142) ((0:Int),((0:Int),((0:Int),((0:Int),((0:Int),(⟨#[]⟩:ByteArray))))))).2.1:Int) < (0:Int)))) then true else (decide (((List.getD x0.2.1 (Int.toNat v142) ((0:Int),((0:Int),((0:Int),((0:Int),((0:Int),(⟨#[]⟩:ByteArray))))))).2.1:Int) ≥ (List.length x0.1:Int)))) then true else (!r148)) then true else (decide (((List.getD x0.2.1 (Int.toNat v142) ((0:Int),((0:Int),((0:Int),((0:Int),((0:Int),(⟨#[]⟩:ByteArray))))))).2.2.2.1:Int) < (1:Int)))) then true else (decide (((List.getD x0.2.1 (Int.toNat v142) ((0:Int),((0:Int),((0:Int),((0:Int),((0:Int),(⟨#[]⟩:ByteArray))))))).2.2.2.1:Int) > (1000000:Int)))) then true else (decide (((List.getD x0.2.1 (Int.toNat v142) ((0:Int),((0:Int),((0:Int),((0:Int),((0:Int),(⟨#[]⟩:ByteArray))))))).2.2.2.2.1:Int) < (0:Int)))) then true else (decide (((List.getD x0.2.1 (Int.toNat v142) ((0:Int),((0:Int),((0:Int),((0:Int),((0:Int),(⟨#[]⟩:ByteArray))))))).2.2.2.2.1:Int) > (1000000000:Int)))):Bool)).bind fun v149 => (if v149 then (some false) else ((f41.l118 k x0) m118 (IntKind.i64.wrap (v142 + (1:Int))))))) else none) else (f41.l206 k x0 k (0:Int))
def f41.l42 (k:Nat) (x0:((List (Int × (Int × Int))) × ((List (Int × (Int × (Int × (Int × (Int × ByteArray)))))) × (List (Int × Int))))):Nat→Int→Option Bool
 | 0,_ => none
 | m42+1,v70 => if (decide (v70 < (List.length x0.1:Int))) then (if (0≤v70∧v70 < (List.length x0.1:Int)) then ((f57 k (List.getD x0.1 (Int.toNat v70) ((0:Int),((0:Int),(0:Int)))).1).bind fun r77 => ((if ((!r77)=false) then f58 k (List.getD x0.1 (Int.toNat v70) ((0:Int),((0:Int),(0:Int)))).2 else some default).bind fun r78 => (if ((((bif (!r77) then true else (!r78))=false) ∧ ((decide (v70 > (0:Int)))=true)) → (0 ≤ (IntKind.i64.wrap (v70 - (1:Int))) ∧ (IntKind.i64.wrap (v70 - (1:Int))) < (List.length x0.1:Int))) then (if (bif (bif (!r77) then true else (!r78)) then true else (bif (decide (v70 > (0:Int))) then (decide (((List.getD x0.1 (Int.toNat (IntKind.i64.wrap (v70 - (1:Int)))) ((0:Int),((0:Int),(0:Int)))).1:Int) ≥ (List.getD x0.1 (Int.toNat v70) ((0:Int),((0:Int),(0:Int)))).1)) else false)) then (some false) else ((f41.l42 k x0) m42 (IntKind.i64.wrap (v70 + (1:Int))))) else none))) else none) else (f41.l118 k x0 k (0:Int))
def f41 (k:Nat) (x0:((List (Int × (Int × Int))) × ((List (Int × (Int × (Int × (Int × (Int × ByteArray)))))) × (List (Int × Int))))):Option Bool:=if (bif (bif (decide (((List.length x0.1:Int):Int) > (5000:Int))) then true else (decide (((List.length x0.2.1:Int):Int) > (8000:Int)))) then true else (decide (((List.length x0.2.2:Int):Int) > (2000:Int)))) then (some false) else (f41.l42 k x0 k (0:Int))
theorem c41 (k:Nat) (x0:tG) (r:Bool) (hF:f41 k x0=some r):PCall Try.prog 41 [⟨sh17,x0⟩] [⟨.bool,r⟩]:=by
 refine pcall_intro Try.func41 rfl rfl (Nat.le_of_ble_eq_true rfl) ?_
 intro w0 Zi a w h
 rw [f41] at hF
 refine zs [1] h an fun a w h => ?_
 refine wp_seq ?_
 refine zs [1,26] h an fun a w h => ?_
 refine zi h hF (fun hF => ?_) (fun hF => ?_)
 ·refine zs [2] h an fun a w h => ?_
  cases hF
  exact wp_ret (ret_okR tok h rfl (by kernel_rfl)).1
 ·refine wp_skip ?_
  refine wp_seq ?_
  refine zs [1,3] h an fun a w h => ?_
  refine wp_block ?_
  refine wp_loop_fuel (f41.l42 k x0) (fun v70 => [(1,.val sh16 (some x0)),(3,.val iS v70)]) (fun v h => by rw [f41.l42] at h; cases h) ?_ hF (ar h [1,3])
  intro m42 v70 a w hF h
  rw [f41.l42] at hF
  refine wp_seq ?_
  refine zs [1,3,31] h an fun a w h => ?_
  refine zi h hF (fun hF => ?_) (fun hF => ?_)
  ·refine wp_skip ?_
   refine wp_seq <| wp_block ?_
   obtain ⟨hc82,hF⟩:=of_if hF
   refine zs [1,3,4] h (ac hc82 an) fun a w h => ?_
   obtain ⟨r77,hr79,hF⟩:=of_bind hF
   obtain ⟨r78,hr80,hF⟩:=of_bind hF
   obtain ⟨hc81,hF⟩:=of_if hF
   refine wp_regy_seq tok (orc:=orcL [(41,[⟨.bool,r77⟩]),(46,[⟨.bool,r78⟩])]) (l:=[1,3,64]) ([],[],[],[]) 26 nw h (by kernel_rfl) (by kernel_rfl) (ac (c57 k (gD x0.1 (tZ v70) (iO,(iO,iO))).1 r77 hr79) (ac (fun (hg:((!r77)=false)) => c58 k (gD x0.1 (tZ v70) (iO,(iO,iO))).2 r78 (of_g hg hr80)) (ac hc81 an))) fun a w h => ?_
   refine zi h hF (fun hF => ?_) (fun hF => ?_)
   ·refine zs [2] h an fun a w h => ?_
    cases hF
    exact wp_ret (ret_okR tok h rfl (by kernel_rfl)).1
   ·refine wp_skip ?_
    refine zt [1,3] h an fun a w h => ?_
    exact ⟨(w64 (v70 + (1:Int))),hF,ar h [1,3]⟩
  ·refine wp_exit ?_
   refine zs [1,5] h an fun a w h => ?_
   refine wp_seq ?_
   refine zs [1,5,6] h an fun a w h => ?_
   refine wp_block ?_
   refine wp_loop_fuel (f41.l118 k x0) (fun v142 => [(1,.val sh16 (some x0)),(5,.val iS (List.length x0.1:Int)),(6,.val iS v142)]) (fun v h => by rw [f41.l118] at h; cases h) ?_ hF (ar h [1,5,6])
   intro m118 v142 a w hF h
   rw [f41.l118] at hF
   refine wp_seq ?_
   refine zs [1,5,6,72] h an fun a w h => ?_
   refine zi h hF (fun hF => ?_) (fun hF => ?_)
   ·refine wp_skip ?_
    refine wp_seq <| wp_block ?_
    obtain ⟨hc152,hF⟩:=of_if hF
    refine zs [1,5,6,7] h (ac hc152 an) fun a w h => ?_
    obtain ⟨r148,hr151,hF⟩:=of_bind hF
    refine zc (orcL [(103,[⟨.bool,r148⟩])]) [1,5,6,125] h (ac (fun (hg:((bif (bif (bif (decide (((gD x0.2.1 (tZ v142) zR).1:Int) < iO)) then true else (decide (((gD x0.2.1 (tZ v142) zR).1:Int) ≥ (List.length x0.1:Int)))) then true else (decide (((gD x0.2.1 (tZ v142) zR).2.1:Int) < iO))) then true else (decide (((gD x0.2.1 (tZ v142) zR).2.1:Int) ≥ (List.length x0.1:Int))))=false)) => c57 k (gD x0.2.1 (tZ v142) zR).2.2.1 r148 (of_g hg hr151)) an) fun a w h => ?_
    obtain ⟨v149,hv150,hF⟩:=of_bind hF
    replace h:=h.cast (S':=[(1,.val sh16 (some x0)),(5,.val iS (List.length x0.1:Int)),(6,.val iS v142),(125,.val .bool v149)]) (by cases hv150; kernel_rfl)
    refine zi h hF (fun hF => ?_) (fun hF => ?_)
    ·refine zs [2] h an fun a w h => ?_
     cases hF
     exact wp_ret (ret_okR tok h rfl (by kernel_rfl)).1
    ·refine wp_skip ?_
     refine zt [1,5,6] h an fun a w h => ?_
     exact ⟨(w64 (v142 + (1:Int))),hF,ar h [1,5,6]⟩
   ·refine wp_exit ?_
    refine zs [1,8] h an fun a w h => ?_
    refine wp_seq ?_
    refine zs [1,8,9] h an fun a w h => ?_
    refine wp_block ?_
    refine wp_loop_fuel (f41.l206 k x0) (fun v242 => [(1,.val sh16 (some x0)),(8,.val iS (List.length x0.2.1:Int)),(9,.val iS v242)]) (fun v h => by rw [f41.l206] at h; cases h) ?_ hF (ar h [1,8,9])
    intro m206 v242 a w hF h
    rw [f41.l206] at hF
    refine wp_seq ?_
    refine zs [1,8,9,133] h an fun a w h => ?_
    refine zi h hF (fun hF => ?_) (fun hF => ?_)
    ·refine wp_skip ?_
     refine wp_seq <| wp_block ?_
     obtain ⟨hc258,hF⟩:=of_if hF
     refine zs [1,8,9,10] h (ac hc258 an) fun a w h => ?_
     obtain ⟨hc254,hF⟩:=of_if hF
     obtain ⟨hc255,hF⟩:=of_if hF
     obtain ⟨hc256,hF⟩:=of_if hF
     obtain ⟨r251,hr257,hF⟩:=of_bind hF
     refine wp_regy_seq tok (orc:=orcL [(189,[⟨.bool,r251⟩])]) (l:=[1,8,9,192]) ([],[],[],[]) 52 nw h (by kernel_rfl) (by kernel_rfl) (ac hc254 (ac hc255 (ac hc256 (ac (fun (hg:(((bif (bif (bif (bif (decide (((gD x0.2.2 (tZ v242) (iO,iO)).1:Int) < iO)) then true else (decide (((gD x0.2.2 (tZ v242) (iO,iO)).1:Int) ≥ (List.length x0.2.1:Int)))) then true else (decide (((gD x0.2.2 (tZ v242) (iO,iO)).2:Int) < iO))) then true else (decide (((gD x0.2.2 (tZ v242) (iO,iO)).2:Int) ≥ (List.length x0.2.1:Int)))) then true else (((gD x0.2.1 (tZ (gD x0.2.2 (tZ v242) (iO,iO)).1) zR).2.1:Int) != (gD x0.2.1 (tZ (gD x0.2.2 (tZ v242) (iO,iO)).2) zR).1))=false) ∧ ((decide (v242 > iO))=true))) => c59 k (gD x0.2.2 (tZ (w64 (v242 - (1:Int)))) (iO,iO)) (gD x0.2.2 (tZ v242) (iO,iO)) r251 (of_g hg hr257)) an)))) fun a w h => ?_
     obtain ⟨v252,hv253,hF⟩:=of_bind hF
     replace h:=h.cast (S':=[(1,.val sh16 (some x0)),(8,.val iS (List.length x0.2.1:Int)),(9,.val iS v242),(192,.val .bool v252)]) (by cases hv253; kernel_rfl)
     refine zi h hF (fun hF => ?_) (fun hF => ?_)
     ·refine zs [2] h an fun a w h => ?_
      cases hF
      exact wp_ret (ret_okR tok h rfl (by kernel_rfl)).1
     ·refine wp_skip ?_
      refine zt [1,8,9] h an fun a w h => ?_
      exact ⟨(w64 (v242 + (1:Int))),hF,ar h [1,8,9]⟩
    ·refine wp_exit ?_
     refine zs [2] h an fun a w h => ?_
     cases hF
     exact wp_ret (ret_okR tok h rfl (by kernel_rfl)).1
def f42 (k:Nat) (x0:((List (Int × (Int × Int))) × ((List (Int × (Int × (Int × (Int × (Int × ByteArray)))))) × (List (Int × Int))))) (x1:Int):Option Bool:=some (bif (decide (x1 ≥ (0:Int))) then (decide (x1 < (List.length x0.1:Int))) else false)
theorem c42 (k:Nat) (x0:tG) (x1:Int) (r:Bool) (hF:f42 k x0 x1=some r):PCall Try.prog 42 [⟨sh17,x0⟩,⟨iS,x1⟩] [⟨.bool,r⟩]:=by
 refine pcall_intro Try.func42 rfl rfl (Nat.le_of_ble_eq_true rfl) ?_
 intro w0 Zi a w h
 rw [f42] at hF
 refine zs [1,2] h an fun a w h => ?_
 refine zs [4] h an fun a w h => ?_
 cases hF
 exact wp_ret (ret_okR tok h rfl (by kernel_rfl)).1
def f24.l38 (k:Nat) (x1:(Int × (Int × (Int × (Int × (List (Int × (Int × (Int × (Int × Int)))))))))) (x0:((List (Int × (Int × Int))) × ((List (Int × (Int × (Int × (Int × (Int × ByteArray)))))) × (List (Int × Int))))):Nat→Int→Option Bool
 | 0,_ => none
 | m38+1,v62 => if (decide (v62 < (List.length x1.2.2.2.2:Int))) then (if (0≤v62∧v62 < (List.length x1.2.2.2.2:Int)) then ((f42 k x0 (List.getD x1.2.2.2.2 (Int.toNat v62) ((0:Int),((0:Int),((0:Int),((0:Int),(0:Int)))))).1).bind fun r68 => ((some ((bif (bif (bif (bif (bif (bif (bif (!r68) then true else (decide (((List.getD x1.2.2.2.2 (Int.toNat v62) ((0:Int),((0:Int),((0:Int),((0:Int),(0:Int)))))).2.1:Int) < (0:Int)))) then true else (decide (((List.getD x1.2.2.2.2 (Int.toNat v62) ((0:Int),((0:Int),((0:Int),((0:Int),(0:Int)))))).2.1:Int) > (1000:Int)))) then true else (decide (((List.getD x1.2.2.2.2 (Int.toNat v62) ((0:Int),((0:Int),((0:Int),((0:Int),(0:Int)))))).2.2.1:Int) < (0:Int)))) then true else (decide (((List.getD x1.2.2.2.2 (Int.toNat v62) ((0:Int),((0:Int),((0:Int),((0:Int),(0:Int)))))).2.2.2.1:Int) < (List.getD x1.2.2.2.2 (Int.toNat v62) ((0:Int),((0:Int),((0:Int),((0:Int),(0:Int)))))).2.2.1))) then true else (decide (((List.getD x1.2.2.2.2 (Int.toNat v62) ((0:Int),((0:Int),((0:Int),((0:Int),(0:Int)))))).2.2.2.1:Int) > (1000000:Int)))) then true else (decide (((List.getD x1.2.2.2.2 (Int.toNat v62) ((0:Int),((0:Int),((0:Int),((0:Int),(0:Int)))))).2.2.2.2:Int) < (0:Int)))) then true else (decide (((List.getD x1.2.2.2.2 (Int.toNat v62) ((0:Int),((0:Int),((0:Int),((0:Int),(0:Int)))))).2.2.2.2:Int) > (100000:Int)))):Bool)).bind fun v69 => (if v69 then (some false) else ((f24.l38 k x1 x0) m38 (IntKind.i64.wrap (v62 + (1:Int))))))) else none) else (some true)
def f24 (k:Nat) (x0:((List (Int × (Int × Int))) × ((List (Int × (Int × (Int × (Int × (Int × ByteArray)))))) × (List (Int × Int))))) (x1:(Int × (Int × (Int × (Int × (List (Int × (Int × (Int × (Int × Int)))))))))):Option Bool:=(f41 k x0).bind fun r1 => ((if ((!r1)=false) then f42 k x0 x1.1 else some default).bind fun r2 => (if (bif (bif (bif (bif (bif (bif (bif (bif (!r1) then true else (!r2)) then true else (decide (x1.2.1 < (0:Int)))) then true else (decide (x1.2.1 > (1000000:Int)))) then true else (decide (x1.2.2.1 < (1:Int)))) then true else (decide (x1.2.2.1 > (4:Int)))) then true else (decide (x1.2.2.2.1 < (0:Int)))) then true else (decide (x1.2.2.2.1 > (10000:Int)))) then true else (decide (((List.length x1.2.2.2.2:Int):Int) > (6:Int)))) then (some false) else (f24.l38 k x1 x0 k (0:Int))))
theorem c24 (k:Nat) (x0:tG) (x1:(Int × (Int × (Int × (Int × (List (Int × (Int × (Int × (Int × Int)))))))))) (r:Bool) (hF:f24 k x0 x1=some r):PCall Try.prog 24 [⟨sh17,x0⟩,⟨sh19,x1⟩] [⟨.bool,r⟩]:=by
 refine pcall_intro Try.func24 rfl rfl (Nat.le_of_ble_eq_true rfl) ?_
 intro w0 Zi a w h
 rw [f24] at hF
 refine zs [2,3] h an fun a w h => ?_
 refine wp_seq ?_
 obtain ⟨r1,hr73,hF⟩:=of_bind hF
 obtain ⟨r2,hr74,hF⟩:=of_bind hF
 refine zc (orcL [(8,[⟨.bool,r1⟩]),(14,[⟨.bool,r2⟩])]) [2,3,52] h (ac (c41 k x0 r1 hr73) (ac (fun (hg:((!r1)=false)) => c42 k x0 x1.1 r2 (of_g hg hr74)) an)) fun a w h => ?_
 refine zi h hF (fun hF => ?_) (fun hF => ?_)
 ·refine zs [4] h an fun a w h => ?_
  cases hF
  exact wp_ret (ret_okR tok h rfl (by kernel_rfl)).1
 ·refine wp_skip ?_
  refine wp_seq ?_
  refine zs [2,3,5] h an fun a w h => ?_
  refine wp_block ?_
  refine wp_loop_fuel (f24.l38 k x1 x0) (fun v62 => [(2,.val sh16 (some x0)),(3,.val sh18 (some x1)),(5,.val iS v62)]) (fun v h => by rw [f24.l38] at h; cases h) ?_ hF (ar h [2,3,5])
  intro m38 v62 a w hF h
  rw [f24.l38] at hF
  refine wp_seq ?_
  refine zs [2,3,5,57] h an fun a w h => ?_
  refine zi h hF (fun hF => ?_) (fun hF => ?_)
  ·refine wp_skip ?_
   refine wp_seq <| wp_block ?_
   obtain ⟨hc72,hF⟩:=of_if hF
   refine zs [2,3,5,6] h (ac hc72 an) fun a w h => ?_
   obtain ⟨r68,hr71,hF⟩:=of_bind hF
   refine zc (orcL [(68,[⟨.bool,r68⟩])]) [2,3,5,106] h (ac (c42 k x0 (gD x1.2.2.2.2 (tZ v62) (iO,(iO,(iO,(iO,iO))))).1 r68 hr71) an) fun a w h => ?_
   obtain ⟨v69,hv70,hF⟩:=of_bind hF
   replace h:=h.cast (S':=[(2,.val sh16 (some x0)),(3,.val sh18 (some x1)),(5,.val iS v62),(106,.val .bool v69)]) (by cases hv70; kernel_rfl)
   refine zi h hF (fun hF => ?_) (fun hF => ?_)
   ·refine zs [4] h an fun a w h => ?_
    cases hF
    exact wp_ret (ret_okR tok h rfl (by kernel_rfl)).1
   ·refine wp_skip ?_
    refine zt [2,3,5] h an fun a w h => ?_
    exact ⟨(w64 (v62 + (1:Int))),hF,ar h [2,3,5]⟩
  ·refine wp_exit ?_
   refine zs [4] h an fun a w h => ?_
   cases hF
   exact wp_ret (ret_okR tok h rfl (by kernel_rfl)).1
def f66.j109 (k:Nat) (v97:(List (List Int))) (v98:Int) (q58:((List (List Int)) × Int)→Option (List (List Int))):Int→Option (List (List Int))
 | v108 => if (0≤v108∧v108 < (List.length v97:Int)) then (if ((List.length (List.getD v97 (Int.toNat v108) ([]:(List Int)))+List.length [v98])*8≤140737488355328) then (if (0≤v108∧v108 < (List.length v97:Int)) then (q58 ((List.set v97 (Int.toNat v108) (List.append (List.getD v97 (Int.toNat v108) ([]:(List Int))) [v98])),(IntKind.i64.wrap (v98 + (1:Int))))) else none) else none) else none
def f66.l58 (k:Nat) (x0:((List (Int × (Int × Int))) × ((List (Int × (Int × (Int × (Int × (Int × ByteArray)))))) × (List (Int × Int))))) (x1:Bool):Nat → ((List (List Int)) × Int)→Option (List (List Int))
 | 0,_ => none
 | m58+1,(v97,v98) => if (decide (v98 < (List.length x0.2.1:Int))) then (if (0≤v98∧v98 < (List.length x0.2.1:Int)) then (if x1 then (if (0≤v98∧v98 < (List.length x0.2.1:Int)) then (f66.j109 k v97 v98 ((f66.l58 k x0 x1) m58) (List.getD x0.2.1 (Int.toNat v98) ((0:Int),((0:Int),((0:Int),((0:Int),((0:Int),(⟨#[]⟩:ByteArray))))))).2.1) else none) else (f66.j109 k v97 v98 ((f66.l58 k x0 x1) m58) (List.getD x0.2.1 (Int.toNat v98) ((0:Int),((0:Int),((0:Int),((0:Int),((0:Int),(⟨#[]⟩:ByteArray))))))).1)) else none) else (some v97)
def f66 (k:Nat) (x0:((List (Int × (Int × Int))) × ((List (Int × (Int × (Int × (Int × (Int × ByteArray)))))) × (List (Int × Int))))) (x1:Bool):Option (List (List Int)):=if (0 ≤ (List.length x0.1:Int)∧Int.toNat (List.length x0.1:Int)*24≤140737488355328) then (f66.l58 k x0 x1 k ((List.replicate (Int.toNat (List.length x0.1:Int)) ([]:(List Int))),(0:Int))) else none
theorem c66 (k:Nat) (x0:tG) (x1:Bool) (r:(List (List Int))) (hF:f66 k x0 x1=some r):PCall Try.prog 66 [⟨sh17,x0⟩,⟨.bool,x1⟩] [⟨sh20,r⟩]:=by
 refine pcall_intro Try.func66 rfl rfl (Nat.le_of_ble_eq_true rfl) ?_
 intro w0 Zi a w h
 rw [f66] at hF
 refine zs [1,2] h an fun a w h => ?_
 obtain ⟨hc115,hF⟩:=of_if hF
 refine zs [1,2,5] h (ac hc115 an) fun a w h => ?_
 refine wp_seq ?_
 refine zs [1,2,5,6] h an fun a w h => ?_
 refine wp_block ?_
 refine wp_loop_fuel (f66.l58 k x0 x1) (fun ((v97,v98):((List (List Int)) × Int)) => [(1,.val .bool x1),(2,.val sh16 (some x0)),(5,.val sh20 v97),(6,.val iS v98)]) (fun v h => by obtain ⟨v97,v98⟩:=v; rw [f66.l58] at h; cases h) ?_ hF (ar h [1,2,5,6])
 intro m58 v a w hF h
 obtain ⟨v97,v98⟩:=v
 rw [f66.l58] at hF
 refine wp_seq ?_
 refine zs [1,2,5,6,16] h an fun a w h => ?_
 refine zi h hF (fun hF => ?_) (fun hF => ?_)
 ·refine wp_skip ?_
  refine wp_seq <| wp_block ?_
  obtain ⟨hc114,hF⟩:=of_if hF
  refine zs [1,2,5,6,7] h (ac hc114 an) fun a w h => ?_
  refine wp_seq ?_
  refine zs [1,2,5,6,7,25] h an fun a w h => ?_
  refine wp_midT (fun a w => ∃ v:Int,f66.j109 k v97 v98 ((f66.l58 k x0 x1) m58) v=some r∧Rel w0 (fun _ => False) Zi Try.f66.ntmps ((fun v108 => ([(1,.val .bool x1),(2,.val sh16 (some x0)),(5,.val sh20 v97),(6,.val iS v98),(7,.val iS v108)]:SS)) v) a w) ?_ ?_
  ·
   refine zi h hF (fun hF => ?_) (fun hF => ?_)
   ·obtain ⟨hc113,hF⟩:=of_if hF
    refine zt [1,2,5,6,7] h (ac hc113 an) fun a w h => ?_
    exact ⟨(gD x0.2.1 (tZ v98) zR).2.1,hF,ar h [1,2,5,6,7]⟩
   ·refine wp_skip ?_
    exact ⟨(gD x0.2.1 (tZ v98) zR).1,hF,ar h [1,2,5,6,7]⟩
  ·rintro a w ⟨v108,hF,h⟩
   rw [f66.j109] at hF
   obtain ⟨hc110,hF⟩:=of_if hF
   obtain ⟨hc111,hF⟩:=of_if hF
   obtain ⟨hc112,hF⟩:=of_if hF
   refine zd (orcL [(40,[⟨.pt false 4294967293 .unit,some ()⟩])]) [1,2,5,6] h (ac hc110 (ac (PrefL.mk (l:=[[],[],[.idx (tZ v108)],[.idx (tZ v108)]]) (p:=[.idx (tZ v108)]) rfl) (ac hc111 (ac hc112 (ac (show ([.idx (tZ v108)]:Path)=[.idx (tZ v108)] from rfl) an))))) fun a w h => ?_
   refine zt [1,2,5,6] h an fun a w h => ?_
   exact ⟨((List.set v97 (tZ v108) (List.append (gD v97 (tZ v108) lO) [v98])),(w64 (v98 + (1:Int)))),hF,ar h [1,2,5,6]⟩
 ·refine wp_exit ?_
  refine zs [4,5] h an fun a w h => ?_
  cases hF
  exact wp_ret (ret_okR tok h rfl (by kernel_rfl)).1
def f73.l22 (k:Nat) (x0:((List (Int × (Int × Int))) × ((List (Int × (Int × (Int × (Int × (Int × ByteArray)))))) × (List (Int × Int))))) (x1:Int) (x2:Int):Nat → (Int × Int)→Option Bool
 | 0,_ => none
 | m22+1,(v37,v38) => if (decide (v37 < v38)) then (if (((2:Int):Int)≠0) then (if (0 ≤ (IntKind.i64.wrap (Int.tdiv (IntKind.i64.wrap (v37+v38)) (2:Int))) ∧ (IntKind.i64.wrap (Int.tdiv (IntKind.i64.wrap (v37+v38)) (2:Int))) < (List.length x0.2.2:Int)) then ((f59 k (List.getD x0.2.2 (Int.toNat (IntKind.i64.wrap (Int.tdiv (IntKind.i64.wrap (v37+v38)) (2:Int)))) ((0:Int),(0:Int))) (x1,x2)).bind fun r39 => (if r39 then ((f73.l22 k x0 x1 x2) m22 ((IntKind.i64.wrap ((IntKind.i64.wrap (Int.tdiv (IntKind.i64.wrap (v37+v38)) (2:Int))) + (1:Int))),v38)) else ((f73.l22 k x0 x1 x2) m22 (v37,(IntKind.i64.wrap (Int.tdiv (IntKind.i64.wrap (v37+v38)) (2:Int))))))) else none) else none) else (if (((decide (v37 < (List.length x0.2.2:Int)))=true) → (0≤v37∧v37 < (List.length x0.2.2:Int))) then (some (bif (decide (v37 < (List.length x0.2.2:Int))) then (Sh.beq sh7 (List.getD x0.2.2 (Int.toNat v37) ((0:Int),(0:Int))) (x1,x2)) else false)) else none)
def f73 (k:Nat) (x0:((List (Int × (Int × Int))) × ((List (Int × (Int × (Int × (Int × (Int × ByteArray)))))) × (List (Int × Int))))) (x1:Int) (x2:Int):Option Bool:=f73.l22 k x0 x1 x2 k ((0:Int),(List.length x0.2.2:Int))
theorem c73 (k:Nat) (x0:tG) (x1:Int) (x2:Int) (r:Bool) (hF:f73 k x0 x1 x2=some r):PCall Try.prog 73 [⟨sh17,x0⟩,⟨iS,x1⟩,⟨iS,x2⟩] [⟨.bool,r⟩]:=by
 refine pcall_intro Try.func73 rfl rfl (Nat.le_of_ble_eq_true rfl) ?_
 intro w0 Zi a w h
 rw [f73] at hF
 refine zs [1,2,3] h an fun a w h => ?_
 refine zs [3,7] h an fun a w h => ?_
 refine zs [3,7,8] h an fun a w h => ?_
 refine zs [3,7,8,9] h an fun a w h => ?_
 refine wp_seq <| wp_block ?_
 refine wp_loop_fuel (f73.l22 k x0 x1 x2) (fun ((v37,v38):(Int × Int)) => [(3,.val sh16 (some x0)),(7,.val sh21 (some (x1,x2))),(8,.val iS v37),(9,.val iS v38)]) (fun v h => by obtain ⟨v37,v38⟩:=v; rw [f73.l22] at h; cases h) ?_ hF (ar h [3,7,8,9])
 intro m22 v a w hF h
 obtain ⟨v37,v38⟩:=v
 rw [f73.l22] at hF
 refine wp_seq ?_
 refine zs [3,7,8,9,19] h an fun a w h => ?_
 refine zi h hF (fun hF => ?_) (fun hF => ?_)
 ·refine wp_skip ?_
  refine wp_block ?_
  obtain ⟨hc42,hF⟩:=of_if hF
  refine zs [3,7,8,9,10] h (ac hc42 an) fun a w h => ?_
  obtain ⟨hc40,hF⟩:=of_if hF
  obtain ⟨r39,hr41,hF⟩:=of_bind hF
  refine wp_regy_seq tok (orc:=orcL [(30,[⟨.bool,r39⟩])]) (l:=[3,7,8,9,10,30]) ([],[],[],[]) 7 nw h (by kernel_rfl) (by kernel_rfl) (ac hc40 (ac (c59 k (gD x0.2.2 (tZ (w64 (Int.tdiv (w64 (v37+v38)) (2:Int)))) (iO,iO)) (x1,x2) r39 hr41) an)) fun a w h => ?_
  refine zi h hF (fun hF => ?_) (fun hF => ?_)
  ·refine zt [3,7,8,9] h an fun a w h => ?_
   exact ⟨((w64 ((w64 (Int.tdiv (w64 (v37+v38)) (2:Int))) + (1:Int))),v38),hF,ar h [3,7,8,9]⟩
  ·refine zt [3,7,8,9] h an fun a w h => ?_
   exact ⟨(v37,(w64 (Int.tdiv (w64 (v37+v38)) (2:Int)))),hF,ar h [3,7,8,9]⟩
 ·refine wp_exit ?_
  obtain ⟨hc43,hF⟩:=of_if hF
  refine wp_regy_seq tok (orc:=o0) (l:=[6]) ([],[],[],[]) 15 nw h (by kernel_rfl) (by kernel_rfl) (ac hc43 (ac (fun (_:((decide (v37 < (List.length x0.2.2:Int)))=true)) => (And.intro (show eqTy Try.prog 9 100 (.st (.pair iS iS))=true from by kernel_rfl) (show Try.prog.eqGuardType Try.prog.depth 100=false from by kernel_rfl))) an)) fun a w h => ?_
  cases hF
  exact wp_ret (ret_okR tok h rfl (by kernel_rfl)).1
def f77 (k:Nat) (x0:Int):Option Int:=if (decide (x0 < (0:Int))) then (some (IntKind.i64.wrap (0 - x0))) else (some x0)
theorem c77 (k:Nat) (x0:Int) (r:Int) (hF:f77 k x0=some r):PCall Try.prog 77 [⟨iS,x0⟩] [⟨iS,r⟩]:=by
 refine pcall_intro Try.func77 rfl rfl (Nat.le_of_ble_eq_true rfl) ?_
 intro w0 Zi a w h
 rw [f77] at hF
 refine zs [0] h an fun a w h => ?_
 refine wp_seq ?_
 refine zs [0,4] h an fun a w h => ?_
 refine zi h hF (fun hF => ?_) (fun hF => ?_)
 ·refine zs [2] h an fun a w h => ?_
  cases hF
  exact wp_ret (ret_okR tok h rfl (by kernel_rfl)).1
 ·refine wp_skip ?_
  refine zs [2] h an fun a w h => ?_
  cases hF
  exact wp_ret (ret_okR tok h rfl (by kernel_rfl)).1
def f74 (k:Nat) (x0:(Int × Int)) (x1:(Int × Int)):Option Int:=(f58 k x0).bind fun r1 => ((if ((!r1)=false) then f58 k x1 else some default).bind fun r2 => (if (bif (bif (!r1) then true else (!r2)) then true else (Sh.beq sh7 x0 x1)) then (some (-1:Int)) else ((f77 k (IntKind.i64.wrap (x1.1 - x0.1))).bind fun r3 => ((f77 k (IntKind.i64.wrap (x1.2 - x0.2))).bind fun r4 => (if (bif (decide (((IntKind.i64.wrap ((5:Int)*r4)):Int) < (IntKind.i64.wrap ((2:Int)*r3)))) then (decide (((IntKind.i64.wrap (x1.1 - x0.1)):Int) > (0:Int))) else false) then (some (0:Int)) else (if (decide (((IntKind.i64.wrap ((5:Int)*r4)):Int) < (IntKind.i64.wrap ((2:Int)*r3)))) then (some (4:Int)) else (if (bif (decide (((IntKind.i64.wrap ((5:Int)*r3)):Int) < (IntKind.i64.wrap ((2:Int)*r4)))) then (decide (((IntKind.i64.wrap (x1.2 - x0.2)):Int) > (0:Int))) else false) then (some (2:Int)) else (if (decide (((IntKind.i64.wrap ((5:Int)*r3)):Int) < (IntKind.i64.wrap ((2:Int)*r4)))) then (some (6:Int)) else (if (bif (decide (((IntKind.i64.wrap (x1.1 - x0.1)):Int) > (0:Int))) then (decide (((IntKind.i64.wrap (x1.2 - x0.2)):Int) > (0:Int))) else false) then (some (1:Int)) else (if (bif (decide (((IntKind.i64.wrap (x1.1 - x0.1)):Int) < (0:Int))) then (decide (((IntKind.i64.wrap (x1.2 - x0.2)):Int) > (0:Int))) else false) then (some (3:Int)) else (if (decide (((IntKind.i64.wrap (x1.1 - x0.1)):Int) < (0:Int))) then (some (5:Int)) else (some (7:Int)))))))))))))
theorem c74 (k:Nat) (x0:(Int × Int)) (x1:(Int × Int)) (r:Int) (hF:f74 k x0 x1=some r):PCall Try.prog 74 [⟨sh7,x0⟩,⟨sh7,x1⟩] [⟨iS,r⟩]:=by
 refine pcall_intro Try.func74 rfl rfl (Nat.le_of_ble_eq_true rfl) ?_
 intro w0 Zi a w h
 rw [f74] at hF
 refine zs [2,3] h an fun a w h => ?_
 refine wp_seq ?_
 obtain ⟨r1,hr7,hF⟩:=of_bind hF
 obtain ⟨r2,hr8,hF⟩:=of_bind hF
 refine zc (orcL [(10,[⟨.bool,r1⟩]),(14,[⟨.bool,r2⟩])]) [2,3,21] h (ac (c58 k x0 r1 hr7) (ac (fun (hg:((!r1)=false)) => c58 k x1 r2 (of_g hg hr8)) (ac (fun (_:((bif (!r1) then true else (!r2))=false)) => (And.intro (show eqTy Try.prog 9 90 (.st (.pair iS iS))=true from by kernel_rfl) (show Try.prog.eqGuardType Try.prog.depth 90=false from by kernel_rfl))) an))) fun a w h => ?_
 refine zi h hF (fun hF => ?_) (fun hF => ?_)
 ·refine zs [4] h an fun a w h => ?_
  cases hF
  exact wp_ret (ret_okR tok h rfl (by kernel_rfl)).1
 ·refine wp_skip ?_
  refine zs [2,3,5] h an fun a w h => ?_
  refine zs [5,6] h an fun a w h => ?_
  obtain ⟨r3,hr6,hF⟩:=of_bind hF
  refine zc (orcL [(33,[⟨iS,r3⟩])]) [5,6,7] h (ac (c77 k (w64 (x1.1 - x0.1)) r3 hr6) an) fun a w h => ?_
  obtain ⟨r4,hr5,hF⟩:=of_bind hF
  refine zc (orcL [(35,[⟨iS,r4⟩])]) [5,6,7,8] h (ac (c77 k (w64 (x1.2 - x0.2)) r4 hr5) an) fun a w h => ?_
  refine wp_seq <| wp_block ?_
  refine zs [5,6,7,8,36] h an fun a w h => ?_
  refine zi h hF (fun hF => ?_) (fun hF => ?_)
  ·refine zs [4] h an fun a w h => ?_
   cases hF
   exact wp_ret (ret_okR tok h rfl (by kernel_rfl)).1
  ·refine zs [5,6,7,8,46] h an fun a w h => ?_
   refine zi h hF (fun hF => ?_) (fun hF => ?_)
   ·refine zs [4] h an fun a w h => ?_
    cases hF
    exact wp_ret (ret_okR tok h rfl (by kernel_rfl)).1
   ·refine zs [5,6,7,8,52] h an fun a w h => ?_
    refine zi h hF (fun hF => ?_) (fun hF => ?_)
    ·refine zs [4] h an fun a w h => ?_
     cases hF
     exact wp_ret (ret_okR tok h rfl (by kernel_rfl)).1
    ·refine zs [5,6,62] h an fun a w h => ?_
     refine zi h hF (fun hF => ?_) (fun hF => ?_)
     ·refine zs [4] h an fun a w h => ?_
      cases hF
      exact wp_ret (ret_okR tok h rfl (by kernel_rfl)).1
     ·refine zs [5,6,68] h an fun a w h => ?_
      refine zi h hF (fun hF => ?_) (fun hF => ?_)
      ·refine zs [4] h an fun a w h => ?_
       cases hF
       exact wp_ret (ret_okR tok h rfl (by kernel_rfl)).1
      ·refine zs [5,75] h an fun a w h => ?_
       refine zi h hF (fun hF => ?_) (fun hF => ?_)
       ·refine zs [4] h an fun a w h => ?_
        cases hF
        exact wp_ret (ret_okR tok h rfl (by kernel_rfl)).1
       ·refine zs [82] h an fun a w h => ?_
        refine zi h hF (fun hF => ?_) (fun hF => ?_)
        ·refine zs [4] h an fun a w h => ?_
         cases hF
         exact wp_ret (ret_okR tok h rfl (by kernel_rfl)).1
        ·refine wp_skip ?_
         refine zs [4] h an fun a w h => ?_
         cases hF
         exact wp_ret (ret_okR tok h rfl (by kernel_rfl)).1
def f67.j11 (k:Nat):Bool→Option Int
 | v10 => if v10 then (some (3:Int)) else (some (0:Int))
def f67.j9 (k:Nat) (r3:Int) (r2:Int):Bool→Option Int
 | v8 => if v8 then (some (5:Int)) else (if (((Int.tmod (IntKind.i64.wrap ((IntKind.i64.wrap (r3 - r2)) + (8:Int))) (8:Int)):Int) == (5:Int)) then (f67.j11 k (((Int.tmod (IntKind.i64.wrap ((IntKind.i64.wrap (r3 - r2)) + (8:Int))) (8:Int)):Int) == (5:Int))) else (f67.j11 k (((Int.tmod (IntKind.i64.wrap ((IntKind.i64.wrap (r3 - r2)) + (8:Int))) (8:Int)):Int) == (6:Int))))
def f67 (k:Nat) (x0:((List (Int × (Int × Int))) × ((List (Int × (Int × (Int × (Int × (Int × ByteArray)))))) × (List (Int × Int))))) (x1:Int) (x2:Int):Option Int:=(f73 k x0 x1 x2).bind fun r1 => (if r1 then (some (-1:Int)) else (if (0≤x1∧x1 < (List.length x0.2.1:Int)) then (if (0≤x2∧x2 < (List.length x0.2.1:Int)) then (if (((List.getD x0.2.1 (Int.toNat x2) ((0:Int),((0:Int),((0:Int),((0:Int),((0:Int),(⟨#[]⟩:ByteArray))))))).2.1:Int) == (List.getD x0.2.1 (Int.toNat x1) ((0:Int),((0:Int),((0:Int),((0:Int),((0:Int),(⟨#[]⟩:ByteArray))))))).1) then (some (20:Int)) else (if (0 ≤ (List.getD x0.2.1 (Int.toNat x1) ((0:Int),((0:Int),((0:Int),((0:Int),((0:Int),(⟨#[]⟩:ByteArray))))))).1 ∧ (List.getD x0.2.1 (Int.toNat x1) ((0:Int),((0:Int),((0:Int),((0:Int),((0:Int),(⟨#[]⟩:ByteArray))))))).1 < (List.length x0.1:Int)) then (if (0 ≤ (List.getD x0.2.1 (Int.toNat x1) ((0:Int),((0:Int),((0:Int),((0:Int),((0:Int),(⟨#[]⟩:ByteArray))))))).2.1 ∧ (List.getD x0.2.1 (Int.toNat x1) ((0:Int),((0:Int),((0:Int),((0:Int),((0:Int),(⟨#[]⟩:ByteArray))))))).2.1 < (List.length x0.1:Int)) then ((f74 k (List.getD x0.1 (Int.toNat (List.getD x0.2.1 (Int.toNat x1) ((0:Int),((0:Int),((0:Int),((0:Int),((0:Int),(⟨#[]⟩:ByteArray))))))).1) ((0:Int),((0:Int),(0:Int)))).2 (List.getD x0.1 (Int.toNat (List.getD x0.2.1 (Int.toNat x1) ((0:Int),((0:Int),((0:Int),((0:Int),((0:Int),(⟨#[]⟩:ByteArray))))))).2.1) ((0:Int),((0:Int),(0:Int)))).2).bind fun r2 => (if (0 ≤ (List.getD x0.2.1 (Int.toNat x2) ((0:Int),((0:Int),((0:Int),((0:Int),((0:Int),(⟨#[]⟩:ByteArray))))))).1 ∧ (List.getD x0.2.1 (Int.toNat x2) ((0:Int),((0:Int),((0:Int),((0:Int),((0:Int),(⟨#[]⟩:ByteArray))))))).1 < (List.length x0.1:Int)) then (if (0 ≤ (List.getD x0.2.1 (Int.toNat x2) ((0:Int),((0:Int),((0:Int),((0:Int),((0:Int),(⟨#[]⟩:ByteArray))))))).2.1 ∧ (List.getD x0.2.1 (Int.toNat x2) ((0:Int),((0:Int),((0:Int),((0:Int),((0:Int),(⟨#[]⟩:ByteArray))))))).2.1 < (List.length x0.1:Int)) then ((f74 k (List.getD x0.1 (Int.toNat (List.getD x0.2.1 (Int.toNat x2) ((0:Int),((0:Int),((0:Int),((0:Int),((0:Int),(⟨#[]⟩:ByteArray))))))).1) ((0:Int),((0:Int),(0:Int)))).2 (List.getD x0.1 (Int.toNat (List.getD x0.2.1 (Int.toNat x2) ((0:Int),((0:Int),((0:Int),((0:Int),((0:Int),(⟨#[]⟩:ByteArray))))))).2.1) ((0:Int),((0:Int),(0:Int)))).2).bind fun r3 => (if (bif (decide (r2 < (0:Int))) then true else (decide (r3 < (0:Int)))) then (some (0:Int)) else (if (((8:Int):Int)≠0) then (if (((Int.tmod (IntKind.i64.wrap ((IntKind.i64.wrap (r3 - r2)) + (8:Int))) (8:Int)):Int) == (2:Int)) then (f67.j9 k r3 r2 (((Int.tmod (IntKind.i64.wrap ((IntKind.i64.wrap (r3 - r2)) + (8:Int))) (8:Int)):Int) == (2:Int))) else (if (((Int.tmod (IntKind.i64.wrap ((IntKind.i64.wrap (r3 - r2)) + (8:Int))) (8:Int)):Int) == (3:Int)) then (f67.j9 k r3 r2 (((Int.tmod (IntKind.i64.wrap ((IntKind.i64.wrap (r3 - r2)) + (8:Int))) (8:Int)):Int) == (3:Int))) else (f67.j9 k r3 r2 (((Int.tmod (IntKind.i64.wrap ((IntKind.i64.wrap (r3 - r2)) + (8:Int))) (8:Int)):Int) == (4:Int))))) else none))) else none) else none)) else none) else none)) else none) else none))
theorem c67 (k:Nat) (x0:tG) (x1:Int) (x2:Int) (r:Int) (hF:f67 k x0 x1 x2=some r):PCall Try.prog 67 [⟨sh17,x0⟩,⟨iS,x1⟩,⟨iS,x2⟩] [⟨iS,r⟩]:=by
 refine pcall_intro Try.func67 rfl rfl (Nat.le_of_ble_eq_true rfl) ?_
 intro w0 Zi a w h
 rw [f67] at hF
 refine zs [1,2,3] h an fun a w h => ?_
 refine wp_seq ?_
 obtain ⟨r1,hr21,hF⟩:=of_bind hF
 refine zc (orcL [(14,[⟨.bool,r1⟩])]) [1,2,3,14] h (ac (c73 k x0 x1 x2 r1 hr21) an) fun a w h => ?_
 refine zi h hF (fun hF => ?_) (fun hF => ?_)
 ·refine zs [6] h an fun a w h => ?_
  cases hF
  exact wp_ret (ret_okR tok h rfl (by kernel_rfl)).1
 ·refine wp_skip ?_
  obtain ⟨hc20,hF⟩:=of_if hF
  refine zs [2,3,7] h (ac hc20 an) fun a w h => ?_
  obtain ⟨hc19,hF⟩:=of_if hF
  refine zs [3,7,8] h (ac hc19 an) fun a w h => ?_
  refine wp_seq ?_
  refine zs [3,7,8,29] h an fun a w h => ?_
  refine zi h hF (fun hF => ?_) (fun hF => ?_)
  ·refine zs [6] h an fun a w h => ?_
   cases hF
   exact wp_ret (ret_okR tok h rfl (by kernel_rfl)).1
  ·refine wp_skip ?_
   obtain ⟨hc16,hF⟩:=of_if hF
   obtain ⟨hc17,hF⟩:=of_if hF
   obtain ⟨r2,hr18,hF⟩:=of_bind hF
   refine wp_regy_seq tok (orc:=orcL [(44,[⟨iS,r2⟩])]) (l:=[3,8,9]) ([],[],[],[]) 16 nw h (by kernel_rfl) (by kernel_rfl) (ac hc16 (ac hc17 (ac (c74 k (gD x0.1 (tZ (gD x0.2.1 (tZ x1) zR).1) (iO,(iO,iO))).2 (gD x0.1 (tZ (gD x0.2.1 (tZ x1) zR).2.1) (iO,(iO,iO))).2 r2 hr18) an))) fun a w h => ?_
   obtain ⟨hc13,hF⟩:=of_if hF
   obtain ⟨hc14,hF⟩:=of_if hF
   obtain ⟨r3,hr15,hF⟩:=of_bind hF
   refine wp_regy_seq tok (orc:=orcL [(59,[⟨iS,r3⟩])]) (l:=[9,10]) ([],[],[],[]) 16 nw h (by kernel_rfl) (by kernel_rfl) (ac hc13 (ac hc14 (ac (c74 k (gD x0.1 (tZ (gD x0.2.1 (tZ x2) zR).1) (iO,(iO,iO))).2 (gD x0.1 (tZ (gD x0.2.1 (tZ x2) zR).2.1) (iO,(iO,iO))).2 r3 hr15) an))) fun a w h => ?_
   refine wp_seq ?_
   refine zs [9,10,65] h an fun a w h => ?_
   refine zi h hF (fun hF => ?_) (fun hF => ?_)
   ·refine zs [6] h an fun a w h => ?_
    cases hF
    exact wp_ret (ret_okR tok h rfl (by kernel_rfl)).1
   ·refine wp_skip ?_
    refine wp_seq ?_
    obtain ⟨hc12,hF⟩:=of_if hF
    refine zs [70] h (ac hc12 an) fun a w h => ?_
    refine wp_block ?_
    refine wp_seq ?_
    refine zs [70,71] h an fun a w h => ?_
    refine wp_midT (fun a w => ∃ v:Bool,f67.j9 k r3 r2 v=some r∧Rel w0 (fun _ => False) Zi Try.f67.ntmps ((fun (v8:Bool) => ([(70,.val iS (Int.tmod (w64 ((w64 (r3 - r2)) + (8:Int))) (8:Int))),(71,.val .bool v8)]:SS)) v) a w) ?_ ?_
    ·
     refine zi h hF (fun hF => ?_) (fun hF => ?_)
     ·refine wp_skip ?_
      exact ⟨(((Int.tmod (w64 ((w64 (r3 - r2)) + (8:Int))) (8:Int)):Int) == (2:Int)),hF,ar h [70,71]⟩
     ·refine zs [70,71] h an fun a w h => ?_
      refine zi h hF (fun hF => ?_) (fun hF => ?_)
      ·refine wp_skip ?_
       exact ⟨(((Int.tmod (w64 ((w64 (r3 - r2)) + (8:Int))) (8:Int)):Int) == (3:Int)),hF,ar h [70,71]⟩
      ·refine zt [70,71] h an fun a w h => ?_
       exact ⟨(((Int.tmod (w64 ((w64 (r3 - r2)) + (8:Int))) (8:Int)):Int) == (4:Int)),hF,ar h [70,71]⟩
    ·rintro a w ⟨v8,hF,h⟩
     rw [f67.j9] at hF
     refine zi h hF (fun hF => ?_) (fun hF => ?_)
     ·refine zs [6] h an fun a w h => ?_
      cases hF
      exact wp_ret (ret_okR tok h rfl (by kernel_rfl)).1
     ·refine wp_seq ?_
      refine zs [70,75] h an fun a w h => ?_
      refine wp_midT (fun a w => ∃ v:Bool,f67.j11 k v=some r∧Rel w0 (fun _ => False) Zi Try.f67.ntmps ((fun (v10:Bool) => ([(75,.val .bool v10)]:SS)) v) a w) ?_ ?_
      ·
       refine zi h hF (fun hF => ?_) (fun hF => ?_)
       ·refine wp_skip ?_
        exact ⟨(((Int.tmod (w64 ((w64 (r3 - r2)) + (8:Int))) (8:Int)):Int) == (5:Int)),hF,ar h [75]⟩
       ·refine zt [75] h an fun a w h => ?_
        exact ⟨(((Int.tmod (w64 ((w64 (r3 - r2)) + (8:Int))) (8:Int)):Int) == (6:Int)),hF,ar h [75]⟩
      ·rintro a w ⟨v10,hF,h⟩
       rw [f67.j11] at hF
       refine zi h hF (fun hF => ?_) (fun hF => ?_)
       ·refine zs [6] h an fun a w h => ?_
        cases hF
        exact wp_ret (ret_okR tok h rfl (by kernel_rfl)).1
       ·refine wp_skip ?_
        refine zs [6] h an fun a w h => ?_
        cases hF
        exact wp_ret (ret_okR tok h rfl (by kernel_rfl)).1
def f60.j1658 (k:Nat) (v1652:Int) (q1624:(Int × Int)→Option (List Int)):Int→Option (List Int)
 | v1657 => q1624 (v1657,(IntKind.i64.wrap (v1652 + (1:Int))))
def f60.j1817 (k:Nat) (v1790:Int) (q1668:((List Int) × (List Int) × Int)→Option (List Int)):((List Int) × (List Int))→Option (List Int)
 | (v1815,v1816) => q1668 (v1815,v1816,(IntKind.i64.wrap (v1790 + (1:Int))))
def f60.j1825 (k:Nat) (v1790:Int) (r31:(List (List Int))) (x0:((List (Int × (Int × Int))) × ((List (Int × (Int × (Int × (Int × (Int × ByteArray)))))) × (List (Int × Int))))) (v1584:(List Int)) (v1651:Int) (v1788:(List Int)) (v1819:Int) (q1817:((List Int) × (List Int))→Option (List Int)):(List Int)→Option (List Int)
 | v1824 => if (0≤v1790∧v1790 < (List.length (List.getD r31 (Int.toNat (List.getD x0.2.1 (Int.toNat (List.getD v1584 (Int.toNat v1651) (0:Int))) ((0:Int),((0:Int),((0:Int),((0:Int),((0:Int),(⟨#[]⟩:ByteArray))))))).2.1) ([]:(List Int))):Int)) then (if (0 ≤ (List.getD (List.getD r31 (Int.toNat (List.getD x0.2.1 (Int.toNat (List.getD v1584 (Int.toNat v1651) (0:Int))) ((0:Int),((0:Int),((0:Int),((0:Int),((0:Int),(⟨#[]⟩:ByteArray))))))).2.1) ([]:(List Int))) (Int.toNat v1790) (0:Int)) ∧ (List.getD (List.getD r31 (Int.toNat (List.getD x0.2.1 (Int.toNat (List.getD v1584 (Int.toNat v1651) (0:Int))) ((0:Int),((0:Int),((0:Int),((0:Int),((0:Int),(⟨#[]⟩:ByteArray))))))).2.1) ([]:(List Int))) (Int.toNat v1790) (0:Int)) < (List.length v1788:Int)) then (q1817 ((List.set v1788 (Int.toNat (List.getD (List.getD r31 (Int.toNat (List.getD x0.2.1 (Int.toNat (List.getD v1584 (Int.toNat v1651) (0:Int))) ((0:Int),((0:Int),((0:Int),((0:Int),((0:Int),(⟨#[]⟩:ByteArray))))))).2.1) ([]:(List Int))) (Int.toNat v1790) (0:Int))) v1819),v1824)) else none) else none
def f60.l1668 (k:Nat) (r31:(List (List Int))) (x0:((List (Int × (Int × Int))) × ((List (Int × (Int × (Int × (Int × (Int × ByteArray)))))) × (List (Int × Int))))) (v1584:(List Int)) (v1651:Int) (v1583:(List Bool)) (v1666:(List Int)) (q1028:((List Int) × (List Int) × (List Bool) × (List Int))→Option (List Int)):Nat → ((List Int) × (List Int) × Int)→Option (List Int)
 | 0,_ => none
 | m1668+1,(v1788,v1789,v1790) => if (decide (v1790 < (List.length (List.getD r31 (Int.toNat (List.getD x0.2.1 (Int.toNat (List.getD v1584 (Int.toNat v1651) (0:Int))) ((0:Int),((0:Int),((0:Int),((0:Int),((0:Int),(⟨#[]⟩:ByteArray))))))).2.1) ([]:(List Int))):Int))) then (if (0≤v1790∧v1790 < (List.length (List.getD r31 (Int.toNat (List.getD x0.2.1 (Int.toNat (List.getD v1584 (Int.toNat v1651) (0:Int))) ((0:Int),((0:Int),((0:Int),((0:Int),((0:Int),(⟨#[]⟩:ByteArray))))))).2.1) ([]:(List Int))):Int)) then ((f67 k x0 (List.getD v1584 (Int.toNat v1651) (0:Int)) (List.getD (List.getD r31 (Int.toNat (List.getD x0.2.1 (Int.toNat (List.getD v1584 (Int.toNat v1651) (0:Int))) ((0:Int),((0:Int),((0:Int),((0:Int),((0:Int),(⟨#[]⟩:ByteArray))))))).2.1) ([]:(List Int))) (Int.toNat v1790) (0:Int))).bind fun r1818 => (if (0≤v1790∧v1790 < (List.length (List.getD r31 (Int.toNat (List.getD x0.2.1 (Int.toNat (List.getD v1584 (Int.toNat v1651) (0:Int))) ((0:Int),((0:Int),((0:Int),((0:Int),((0:Int),(⟨#[]⟩:ByteArray))))))).2.1) ([]:(List Int))):Int)) then (if (0 ≤ (List.getD (List.getD r31 (Int.toNat (List.getD x0.2.1 (Int.toNat (List.getD v1584 (Int.toNat v1651) (0:Int))) ((0:Int),((0:Int),((0:Int),((0:Int),((0:Int),(⟨#[]⟩:ByteArray))))))).2.1) ([]:(List Int))) (Int.toNat v1790) (0:Int)) ∧ (List.getD (List.getD r31 (Int.toNat (List.getD x0.2.1 (Int.toNat (List.getD v1584 (Int.toNat v1651) (0:Int))) ((0:Int),((0:Int),((0:Int),((0:Int),((0:Int),(⟨#[]⟩:ByteArray))))))).2.1) ([]:(List Int))) (Int.toNat v1790) (0:Int)) < (List.length (List.set v1583 (Int.toNat (List.getD v1584 (Int.toNat v1651) (0:Int))) true):Int)) then (if (bif (List.getD (List.set v1583 (Int.toNat (List.getD v1584 (Int.toNat v1651) (0:Int))) true) (Int.toNat (List.getD (List.getD r31 (Int.toNat (List.getD x0.2.1 (Int.toNat (List.getD v1584 (Int.toNat v1651) (0:Int))) ((0:Int),((0:Int),((0:Int),((0:Int),((0:Int),(⟨#[]⟩:ByteArray))))))).2.1) ([]:(List Int))) (Int.toNat v1790) (0:Int))) false) then true else (decide (r1818 < (0:Int)))) then (f60.j1817 k v1790 ((f60.l1668 k r31 x0 v1584 v1651 v1583 v1666 q1028) m1668) (v1788,v1789)) else (if (0 ≤ (List.getD v1584 (Int.toNat v1651) (0:Int)) ∧ (List.getD v1584 (Int.toNat v1651) (0:Int)) < (List.length v1788:Int)) then (if (0≤v1790∧v1790 < (List.length (List.getD r31 (Int.toNat (List.getD x0.2.1 (Int.toNat (List.getD v1584 (Int.toNat v1651) (0:Int))) ((0:Int),((0:Int),((0:Int),((0:Int),((0:Int),(⟨#[]⟩:ByteArray))))))).2.1) ([]:(List Int))):Int)) then (if (0 ≤ (List.getD (List.getD r31 (Int.toNat (List.getD x0.2.1 (Int.toNat (List.getD v1584 (Int.toNat v1651) (0:Int))) ((0:Int),((0:Int),((0:Int),((0:Int),((0:Int),(⟨#[]⟩:ByteArray))))))).2.1) ([]:(List Int))) (Int.toNat v1790) (0:Int)) ∧ (List.getD (List.getD r31 (Int.toNat (List.getD x0.2.1 (Int.toNat (List.getD v1584 (Int.toNat v1651) (0:Int))) ((0:Int),((0:Int),((0:Int),((0:Int),((0:Int),(⟨#[]⟩:ByteArray))))))).2.1) ([]:(List Int))) (Int.toNat v1790) (0:Int)) < (List.length x0.2.1:Int)) then ((some ((IntKind.i64.wrap ((IntKind.i64.wrap ((List.getD v1788 (Int.toNat (List.getD v1584 (Int.toNat v1651) (0:Int))) (0:Int))+r1818)) + (List.getD x0.2.1 (Int.toNat (List.getD (List.getD r31 (Int.toNat (List.getD x0.2.1 (Int.toNat (List.getD v1584 (Int.toNat v1651) (0:Int))) ((0:Int),((0:Int),((0:Int),((0:Int),((0:Int),(⟨#[]⟩:ByteArray))))))).2.1) ([]:(List Int))) (Int.toNat v1790) (0:Int))) ((0:Int),((0:Int),((0:Int),((0:Int),((0:Int),(⟨#[]⟩:ByteArray))))))).2.2.2.1)):Int)).bind fun v1819 => (if (0≤v1790∧v1790 < (List.length (List.getD r31 (Int.toNat (List.getD x0.2.1 (Int.toNat (List.getD v1584 (Int.toNat v1651) (0:Int))) ((0:Int),((0:Int),((0:Int),((0:Int),((0:Int),(⟨#[]⟩:ByteArray))))))).2.1) ([]:(List Int))):Int)) then (if (0 ≤ (List.getD (List.getD r31 (Int.toNat (List.getD x0.2.1 (Int.toNat (List.getD v1584 (Int.toNat v1651) (0:Int))) ((0:Int),((0:Int),((0:Int),((0:Int),((0:Int),(⟨#[]⟩:ByteArray))))))).2.1) ([]:(List Int))) (Int.toNat v1790) (0:Int)) ∧ (List.getD (List.getD r31 (Int.toNat (List.getD x0.2.1 (Int.toNat (List.getD v1584 (Int.toNat v1651) (0:Int))) ((0:Int),((0:Int),((0:Int),((0:Int),((0:Int),(⟨#[]⟩:ByteArray))))))).2.1) ([]:(List Int))) (Int.toNat v1790) (0:Int)) < (List.length v1788:Int)) then (if (decide (((List.getD v1788 (Int.toNat (List.getD (List.getD r31 (Int.toNat (List.getD x0.2.1 (Int.toNat (List.getD v1584 (Int.toNat v1651) (0:Int))) ((0:Int),((0:Int),((0:Int),((0:Int),((0:Int),(⟨#[]⟩:ByteArray))))))).2.1) ([]:(List Int))) (Int.toNat v1790) (0:Int))) (0:Int)):Int) < (0:Int))) then (if (0≤v1790∧v1790 < (List.length (List.getD r31 (Int.toNat (List.getD x0.2.1 (Int.toNat (List.getD v1584 (Int.toNat v1651) (0:Int))) ((0:Int),((0:Int),((0:Int),((0:Int),((0:Int),(⟨#[]⟩:ByteArray))))))).2.1) ([]:(List Int))):Int)) then (if ((List.length v1789+List.length [(List.getD (List.getD r31 (Int.toNat (List.getD x0.2.1 (Int.toNat (List.getD v1584 (Int.toNat v1651) (0:Int))) ((0:Int),((0:Int),((0:Int),((0:Int),((0:Int),(⟨#[]⟩:ByteArray))))))).2.1) ([]:(List Int))) (Int.toNat v1790) (0:Int))])*8≤140737488355328) then (f60.j1825 k v1790 r31 x0 v1584 v1651 v1788 v1819 (f60.j1817 k v1790 ((f60.l1668 k r31 x0 v1584 v1651 v1583 v1666 q1028) m1668)) (v1789 ++ [(List.getD (List.getD r31 (Int.toNat (List.getD x0.2.1 (Int.toNat (List.getD v1584 (Int.toNat v1651) (0:Int))) ((0:Int),((0:Int),((0:Int),((0:Int),((0:Int),(⟨#[]⟩:ByteArray))))))).2.1) ([]:(List Int))) (Int.toNat v1790) (0:Int))])) else none) else none) else (if (0≤v1790∧v1790 < (List.length (List.getD r31 (Int.toNat (List.getD x0.2.1 (Int.toNat (List.getD v1584 (Int.toNat v1651) (0:Int))) ((0:Int),((0:Int),((0:Int),((0:Int),((0:Int),(⟨#[]⟩:ByteArray))))))).2.1) ([]:(List Int))):Int)) then (if (0 ≤ (List.getD (List.getD r31 (Int.toNat (List.getD x0.2.1 (Int.toNat (List.getD v1584 (Int.toNat v1651) (0:Int))) ((0:Int),((0:Int),((0:Int),((0:Int),((0:Int),(⟨#[]⟩:ByteArray))))))).2.1) ([]:(List Int))) (Int.toNat v1790) (0:Int)) ∧ (List.getD (List.getD r31 (Int.toNat (List.getD x0.2.1 (Int.toNat (List.getD v1584 (Int.toNat v1651) (0:Int))) ((0:Int),((0:Int),((0:Int),((0:Int),((0:Int),(⟨#[]⟩:ByteArray))))))).2.1) ([]:(List Int))) (Int.toNat v1790) (0:Int)) < (List.length v1788:Int)) then (if (decide (v1819 ≥ (List.getD v1788 (Int.toNat (List.getD (List.getD r31 (Int.toNat (List.getD x0.2.1 (Int.toNat (List.getD v1584 (Int.toNat v1651) (0:Int))) ((0:Int),((0:Int),((0:Int),((0:Int),((0:Int),(⟨#[]⟩:ByteArray))))))).2.1) ([]:(List Int))) (Int.toNat v1790) (0:Int))) (0:Int)))) then (f60.j1817 k v1790 ((f60.l1668 k r31 x0 v1584 v1651 v1583 v1666 q1028) m1668) (v1788,v1789)) else (f60.j1825 k v1790 r31 x0 v1584 v1651 v1788 v1819 (f60.j1817 k v1790 ((f60.l1668 k r31 x0 v1584 v1651 v1583 v1666 q1028) m1668)) v1789)) else none) else none)) else none) else none)) else none) else none) else none)) else none) else none)) else none) else (q1028 (v1666,v1788,(List.set v1583 (Int.toNat (List.getD v1584 (Int.toNat v1651) (0:Int))) true),v1789))
def f60.j1667 (k:Nat) (x0:((List (Int × (Int × Int))) × ((List (Int × (Int × (Int × (Int × (Int × ByteArray)))))) × (List (Int × Int))))) (v1584:(List Int)) (v1651:Int) (r31:(List (List Int))) (v1583:(List Bool)) (v1582:(List Int)) (q1028:((List Int) × (List Int) × (List Bool) × (List Int))→Option (List Int)):(List Int)→Option (List Int)
 | v1666 => if (0 ≤ (List.getD x0.2.1 (Int.toNat (List.getD v1584 (Int.toNat v1651) (0:Int))) ((0:Int),((0:Int),((0:Int),((0:Int),((0:Int),(⟨#[]⟩:ByteArray))))))).2.1 ∧ (List.getD x0.2.1 (Int.toNat (List.getD v1584 (Int.toNat v1651) (0:Int))) ((0:Int),((0:Int),((0:Int),((0:Int),((0:Int),(⟨#[]⟩:ByteArray))))))).2.1 < (List.length r31:Int)) then (f60.l1668 k r31 x0 v1584 v1651 v1583 v1666 (q1028) k (v1582,(List.take (Int.toNat (IntKind.i64.wrap ((List.length (List.set v1584 (Int.toNat v1651) (List.getD v1584 (Int.toNat (IntKind.i64.wrap ((List.length v1584:Int) - (1:Int)))) (0:Int))):Int) - (1:Int)))) (List.set v1584 (Int.toNat v1651) (List.getD v1584 (Int.toNat (IntKind.i64.wrap ((List.length v1584:Int) - (1:Int)))) (0:Int)))),(0:Int))) else none
def f60.l1624 (k:Nat) (v1584:(List Int)) (v1582:(List Int)) (v1583:(List Bool)) (x0:((List (Int × (Int × Int))) × ((List (Int × (Int × (Int × (Int × (Int × ByteArray)))))) × (List (Int × Int))))) (v1581:(List Int)) (r31:(List (List Int))) (q1028:((List Int) × (List Int) × (List Bool) × (List Int))→Option (List Int)):Nat → (Int × Int)→Option (List Int)
 | 0,_ => none
 | m1624+1,(v1651,v1652) => if (decide (v1652 < (List.length v1584:Int))) then (if (0≤v1652∧v1652 < (List.length v1584:Int)) then (if (0 ≤ (List.getD v1584 (Int.toNat v1652) (0:Int)) ∧ (List.getD v1584 (Int.toNat v1652) (0:Int)) < (List.length v1582:Int)) then (if (0≤v1651∧v1651 < (List.length v1584:Int)) then (if (0 ≤ (List.getD v1584 (Int.toNat v1651) (0:Int)) ∧ (List.getD v1584 (Int.toNat v1651) (0:Int)) < (List.length v1582:Int)) then (if (decide (((List.getD v1582 (Int.toNat (List.getD v1584 (Int.toNat v1652) (0:Int))) (0:Int)):Int) < (List.getD v1582 (Int.toNat (List.getD v1584 (Int.toNat v1651) (0:Int))) (0:Int)))) then (f60.j1658 k v1652 ((f60.l1624 k v1584 v1582 v1583 x0 v1581 r31 q1028) m1624) v1652) else (f60.j1658 k v1652 ((f60.l1624 k v1584 v1582 v1583 x0 v1581 r31 q1028) m1624) v1651)) else none) else none) else none) else none) else (if (0≤v1651∧v1651 < (List.length v1584:Int)) then (if (0 ≤ (IntKind.i64.wrap ((List.length v1584:Int) - (1:Int))) ∧ (IntKind.i64.wrap ((List.length v1584:Int) - (1:Int))) < (List.length v1584:Int)) then (if (0≤v1651∧v1651 < (List.length v1584:Int)) then (if ((0:Int) ≤ (IntKind.i64.wrap ((List.length (List.set v1584 (Int.toNat v1651) (List.getD v1584 (Int.toNat (IntKind.i64.wrap ((List.length v1584:Int) - (1:Int)))) (0:Int))):Int) - (1:Int))) ∧ ((IntKind.i64.wrap ((List.length (List.set v1584 (Int.toNat v1651) (List.getD v1584 (Int.toNat (IntKind.i64.wrap ((List.length v1584:Int) - (1:Int)))) (0:Int))):Int) - (1:Int))):Int) ≤ (List.length (List.set v1584 (Int.toNat v1651) (List.getD v1584 (Int.toNat (IntKind.i64.wrap ((List.length v1584:Int) - (1:Int)))) (0:Int))):Int)) then (if (0 ≤ (List.getD v1584 (Int.toNat v1651) (0:Int)) ∧ (List.getD v1584 (Int.toNat v1651) (0:Int)) < (List.length v1583:Int)) then (if (0 ≤ (List.getD v1584 (Int.toNat v1651) (0:Int)) ∧ (List.getD v1584 (Int.toNat v1651) (0:Int)) < (List.length x0.2.1:Int)) then (if (0 ≤ (List.getD x0.2.1 (Int.toNat (List.getD v1584 (Int.toNat v1651) (0:Int))) ((0:Int),((0:Int),((0:Int),((0:Int),((0:Int),(⟨#[]⟩:ByteArray))))))).2.1 ∧ (List.getD x0.2.1 (Int.toNat (List.getD v1584 (Int.toNat v1651) (0:Int))) ((0:Int),((0:Int),((0:Int),((0:Int),((0:Int),(⟨#[]⟩:ByteArray))))))).2.1 < (List.length v1581:Int)) then (if (((decide (((List.getD v1581 (Int.toNat (List.getD x0.2.1 (Int.toNat (List.getD v1584 (Int.toNat v1651) (0:Int))) ((0:Int),((0:Int),((0:Int),((0:Int),((0:Int),(⟨#[]⟩:ByteArray))))))).2.1) (0:Int)):Int) < (0:Int)))=false) → (0 ≤ (List.getD v1584 (Int.toNat v1651) (0:Int)) ∧ (List.getD v1584 (Int.toNat v1651) (0:Int)) < (List.length v1582:Int))) then (if (((decide (((List.getD v1581 (Int.toNat (List.getD x0.2.1 (Int.toNat (List.getD v1584 (Int.toNat v1651) (0:Int))) ((0:Int),((0:Int),((0:Int),((0:Int),((0:Int),(⟨#[]⟩:ByteArray))))))).2.1) (0:Int)):Int) < (0:Int)))=false) → (0 ≤ (List.getD x0.2.1 (Int.toNat (List.getD v1584 (Int.toNat v1651) (0:Int))) ((0:Int),((0:Int),((0:Int),((0:Int),((0:Int),(⟨#[]⟩:ByteArray))))))).2.1 ∧ (List.getD x0.2.1 (Int.toNat (List.getD v1584 (Int.toNat v1651) (0:Int))) ((0:Int),((0:Int),((0:Int),((0:Int),((0:Int),(⟨#[]⟩:ByteArray))))))).2.1 < (List.length v1581:Int))) then ((some ((bif (decide (((List.getD v1581 (Int.toNat (List.getD x0.2.1 (Int.toNat (List.getD v1584 (Int.toNat v1651) (0:Int))) ((0:Int),((0:Int),((0:Int),((0:Int),((0:Int),(⟨#[]⟩:ByteArray))))))).2.1) (0:Int)):Int) < (0:Int))) then true else (decide (((List.getD v1582 (Int.toNat (List.getD v1584 (Int.toNat v1651) (0:Int))) (0:Int)):Int) < (List.getD v1581 (Int.toNat (List.getD x0.2.1 (Int.toNat (List.getD v1584 (Int.toNat v1651) (0:Int))) ((0:Int),((0:Int),((0:Int),((0:Int),((0:Int),(⟨#[]⟩:ByteArray))))))).2.1) (0:Int))))):Bool)).bind fun v1663 => (if v1663 then (if (0 ≤ (List.getD v1584 (Int.toNat v1651) (0:Int)) ∧ (List.getD v1584 (Int.toNat v1651) (0:Int)) < (List.length v1582:Int)) then (if (0 ≤ (List.getD x0.2.1 (Int.toNat (List.getD v1584 (Int.toNat v1651) (0:Int))) ((0:Int),((0:Int),((0:Int),((0:Int),((0:Int),(⟨#[]⟩:ByteArray))))))).2.1 ∧ (List.getD x0.2.1 (Int.toNat (List.getD v1584 (Int.toNat v1651) (0:Int))) ((0:Int),((0:Int),((0:Int),((0:Int),((0:Int),(⟨#[]⟩:ByteArray))))))).2.1 < (List.length v1581:Int)) then (f60.j1667 k x0 v1584 v1651 r31 v1583 v1582 (q1028) (List.set v1581 (Int.toNat (List.getD x0.2.1 (Int.toNat (List.getD v1584 (Int.toNat v1651) (0:Int))) ((0:Int),((0:Int),((0:Int),((0:Int),((0:Int),(⟨#[]⟩:ByteArray))))))).2.1) (List.getD v1582 (Int.toNat (List.getD v1584 (Int.toNat v1651) (0:Int))) (0:Int)))) else none) else none) else (f60.j1667 k x0 v1584 v1651 r31 v1583 v1582 (q1028) v1581))) else none) else none) else none) else none) else none) else none) else none) else none) else none)
def f60.l1028 (k:Nat) (x0:((List (Int × (Int × Int))) × ((List (Int × (Int × (Int × (Int × (Int × ByteArray)))))) × (List (Int × Int))))) (r31:(List (List Int))):Nat → ((List Int) × (List Int) × (List Bool) × (List Int))→Option (List Int)
 | 0,_ => none
 | m1028+1,(v1581,v1582,v1583,v1584) => if (decide (((List.length v1584:Int):Int) > (0:Int))) then (f60.l1624 k v1584 v1582 v1583 x0 v1581 r31 ((f60.l1028 k x0 r31) m1028) k ((0:Int),(1:Int))) else (some v1581)
def f60.l132 (k:Nat) (x1:Int) (r31:(List (List Int))) (x0:((List (Int × (Int × Int))) × ((List (Int × (Int × (Int × (Int × (Int × ByteArray)))))) × (List (Int × Int))))) (v27:(List Int)):Nat → ((List Int) × (List Int) × Int)→Option (List Int)
 | 0,_ => none
 | m132+1,(v180,v181,v182) => if (0≤x1∧x1 < (List.length r31:Int)) then (if (decide (v182 < (List.length (List.getD r31 (Int.toNat x1) ([]:(List Int))):Int))) then (if (0≤x1∧x1 < (List.length r31:Int)) then (if (0≤v182∧v182 < (List.length (List.getD r31 (Int.toNat x1) ([]:(List Int))):Int)) then (if (0≤x1∧x1 < (List.length r31:Int)) then (if (0≤v182∧v182 < (List.length (List.getD r31 (Int.toNat x1) ([]:(List Int))):Int)) then (if (0 ≤ (List.getD (List.getD r31 (Int.toNat x1) ([]:(List Int))) (Int.toNat v182) (0:Int)) ∧ (List.getD (List.getD r31 (Int.toNat x1) ([]:(List Int))) (Int.toNat v182) (0:Int)) < (List.length x0.2.1:Int)) then (if (0 ≤ (List.getD (List.getD r31 (Int.toNat x1) ([]:(List Int))) (Int.toNat v182) (0:Int)) ∧ (List.getD (List.getD r31 (Int.toNat x1) ([]:(List Int))) (Int.toNat v182) (0:Int)) < (List.length v180:Int)) then (if (0≤x1∧x1 < (List.length r31:Int)) then (if (0≤v182∧v182 < (List.length (List.getD r31 (Int.toNat x1) ([]:(List Int))):Int)) then (if ((List.length v181+List.length [(List.getD (List.getD r31 (Int.toNat x1) ([]:(List Int))) (Int.toNat v182) (0:Int))])*8≤140737488355328) then ((f60.l132 k x1 r31 x0 v27) m132 ((List.set v180 (Int.toNat (List.getD (List.getD r31 (Int.toNat x1) ([]:(List Int))) (Int.toNat v182) (0:Int))) (List.getD x0.2.1 (Int.toNat (List.getD (List.getD r31 (Int.toNat x1) ([]:(List Int))) (Int.toNat v182) (0:Int))) ((0:Int),((0:Int),((0:Int),((0:Int),((0:Int),(⟨#[]⟩:ByteArray))))))).2.2.2.1),(v181 ++ [(List.getD (List.getD r31 (Int.toNat x1) ([]:(List Int))) (Int.toNat v182) (0:Int))]),(IntKind.i64.wrap (v182 + (1:Int))))) else none) else none) else none) else none) else none) else none) else none) else none) else none) else (f60.l1028 k x0 r31 k ((List.set v27 (Int.toNat x1) (0:Int)),v180,(List.replicate (Int.toNat (List.length x0.2.1:Int)) false),v181))) else none
def f60.l47 (k:Nat) (x0:((List (Int × (Int × Int))) × ((List (Int × (Int × (Int × (Int × (Int × ByteArray)))))) × (List (Int × Int))))) (x1:Int) (r31:(List (List Int))) (v27:(List Int)):Nat → ((List Int) × Int)→Option (List Int)
 | 0,_ => none
 | m47+1,(v58,v59) => if (decide (v59 < (List.length x0.2.1:Int))) then (if (0≤v59∧v59 < (List.length v58:Int)) then ((f60.l47 k x0 x1 r31 v27) m47 ((List.set v58 (Int.toNat v59) (-1:Int)),(IntKind.i64.wrap (v59 + (1:Int))))) else none) else (f60.l132 k x1 r31 x0 v27 k (v58,([]:List Int),(0:Int)))
def f60.l16 (k:Nat) (x1:Int) (x0:((List (Int × (Int × Int))) × ((List (Int × (Int × (Int × (Int × (Int × ByteArray)))))) × (List (Int × Int))))):Nat → ((List Int) × Int)→Option (List Int)
 | 0,_ => none
 | m16+1,(v27,v28) => if (decide (v28 < (List.length v27:Int))) then (if (0≤v28∧v28 < (List.length v27:Int)) then ((f60.l16 k x1 x0) m16 ((List.set v27 (Int.toNat v28) (-1:Int)),(IntKind.i64.wrap (v28 + (1:Int))))) else none) else (if (0≤x1∧x1 < (List.length v27:Int)) then (if (0 ≤ (List.length x0.2.1:Int)∧Int.toNat (List.length x0.2.1:Int)*8≤140737488355328) then (if (0 ≤ (List.length x0.2.1:Int)∧Int.toNat (List.length x0.2.1:Int)*1≤140737488355328) then ((f66 k x0 false).bind fun r31 => (f60.l47 k x0 x1 r31 v27 k ((List.replicate (Int.toNat (List.length x0.2.1:Int)) (0:Int)),(0:Int)))) else none) else none) else none)
def f60 (k:Nat) (x0:((List (Int × (Int × Int))) × ((List (Int × (Int × (Int × (Int × (Int × ByteArray)))))) × (List (Int × Int))))) (x1:Int):Option (List Int):=if (0 ≤ (List.length x0.1:Int)∧Int.toNat (List.length x0.1:Int)*8≤140737488355328) then (f60.l16 k x1 x0 k ((List.replicate (Int.toNat (List.length x0.1:Int)) (0:Int)),(0:Int))) else none
theorem c60 (k:Nat) (x0:tG) (x1:Int) (r:(List Int)) (hF:f60 k x0 x1=some r):PCall Try.prog 60 [⟨sh17,x0⟩,⟨iS,x1⟩] [⟨(.sl true 2 iS),r⟩]:=by
 refine pcall_intro Try.func60 rfl rfl (Nat.le_of_ble_eq_true rfl) ?_
 intro w0 Zi a w h
 rw [f60] at hF
 refine zs [1,2] h an fun a w h => ?_
 refine zs [1,2,5] h an fun a w h => ?_
 obtain ⟨hc1860,hF⟩:=of_if hF
 refine zs [1,2,5,6] h (ac hc1860 an) fun a w h => ?_
 refine wp_seq ?_
 refine zs [1,2,5,6,7] h an fun a w h => ?_
 refine wp_block ?_
 refine wp_loop_fuel (f60.l16 k x1 x0) (fun ((v27,v28):((List Int) × Int)) => [(1,.val iS x1),(2,.val sh16 (some x0)),(5,.val iS (List.length x0.2.1:Int)),(6,.val (.sl true 2 iS) v27),(7,.val iS v28)]) (fun v h => by obtain ⟨v27,v28⟩:=v; rw [f60.l16] at h; cases h) ?_ hF (ar h [1,2,5,6,7])
 intro m16 v a w hF h
 obtain ⟨v27,v28⟩:=v
 rw [f60.l16] at hF
 refine wp_seq ?_
 refine zs [1,2,5,6,7,32] h an fun a w h => ?_
 refine zi h hF (fun hF => ?_) (fun hF => ?_)
 ·refine wp_skip ?_
  refine wp_seq <| wp_block ?_
  obtain ⟨hc30,hF⟩:=of_if hF
  refine zt [1,2,5,6,7] h (ac hc30 an) fun a w h => ?_
  refine zt [1,2,5,6,7] h an fun a w h => ?_
  exact ⟨((List.set v27 (tZ v28) (-1:Int)),(w64 (v28 + (1:Int)))),hF,ar h [1,2,5,6,7]⟩
 ·refine wp_exit ?_
  obtain ⟨hc1859,hF⟩:=of_if hF
  refine zs [1,2,5,6] h (ac hc1859 an) fun a w h => ?_
  obtain ⟨hc1858,hF⟩:=of_if hF
  refine zs [1,2,5,6,8] h (ac hc1858 an) fun a w h => ?_
  obtain ⟨hc1857,hF⟩:=of_if hF
  refine zs [1,2,5,6,8,9] h (ac hc1857 an) fun a w h => ?_
  refine zs [1,2,5,6,8,9,10] h an fun a w h => ?_
  obtain ⟨r31,hr1856,hF⟩:=of_bind hF
  refine zc (orcL [(47,[⟨sh20,r31⟩])]) [1,2,5,6,8,9,10,11] h (ac (c66 k x0 false r31 hr1856) an) fun a w h => ?_
  refine wp_seq ?_
  refine zs [1,2,5,6,8,9,10,11,12] h an fun a w h => ?_
  refine wp_block ?_
  refine wp_loop_fuel (f60.l47 k x0 x1 r31 v27) (fun ((v58,v59):((List Int) × Int)) => [(1,.val iS x1),(2,.val sh16 (some x0)),(5,.val iS (List.length x0.2.1:Int)),(6,.val (.sl true 2 iS) (List.set v27 (tZ x1) iO)),(8,.val (.sl true 2 iS) v58),(9,.val (.sl true 4 .bool) (List.replicate (tZ (List.length x0.2.1:Int)) false)),(10,.val (.sl true 2 iS) ([]:List Int)),(11,.val sh20 r31),(12,.val iS v59)]) (fun v h => by obtain ⟨v58,v59⟩:=v; rw [f60.l47] at h; cases h) ?_ hF (ar h [1,2,5,6,8,9,10,11,12])
  intro m47 v a w hF h
  obtain ⟨v58,v59⟩:=v
  rw [f60.l47] at hF
  refine wp_seq ?_
  refine zs [1,2,5,6,8,9,10,11,12,50] h an fun a w h => ?_
  refine zi h hF (fun hF => ?_) (fun hF => ?_)
  ·refine wp_skip ?_
   refine wp_seq <| wp_block ?_
   obtain ⟨hc61,hF⟩:=of_if hF
   refine zt [1,2,5,6,8,9,10,11,12] h (ac hc61 an) fun a w h => ?_
   refine zt [1,2,5,6,8,9,10,11,12] h an fun a w h => ?_
   exact ⟨((List.set v58 (tZ v59) (-1:Int)),(w64 (v59 + (1:Int)))),hF,ar h [1,2,5,6,8,9,10,11,12]⟩
  ·refine wp_exit ?_
   refine wp_seq ?_
   refine zs [1,2,6,8,9,10,11,13] h an fun a w h => ?_
   refine wp_block ?_
   refine wp_loop_fuel (f60.l132 k x1 r31 x0 v27) (fun ((v180,v181,v182):((List Int) × (List Int) × Int)) => [(1,.val iS x1),(2,.val sh16 (some x0)),(6,.val (.sl true 2 iS) (List.set v27 (tZ x1) iO)),(8,.val (.sl true 2 iS) v180),(9,.val (.sl true 4 .bool) (List.replicate (tZ (List.length x0.2.1:Int)) false)),(10,.val (.sl true 2 iS) v181),(11,.val sh20 r31),(13,.val iS v182)]) (fun v h => by obtain ⟨v180,v181,v182⟩:=v; rw [f60.l132] at h; cases h) ?_ hF (ar h [1,2,6,8,9,10,11,13])
   intro m132 v a w hF h
   obtain ⟨v180,v181,v182⟩:=v
   rw [f60.l132] at hF
   refine wp_seq ?_
   obtain ⟨hc1855,hF⟩:=of_if hF
   refine zs [1,2,6,8,9,10,11,13,62] h (ac hc1855 an) fun a w h => ?_
   refine zi h hF (fun hF => ?_) (fun hF => ?_)
   ·refine wp_skip ?_
    refine wp_seq <| wp_block ?_
    obtain ⟨hc195,hF⟩:=of_if hF
    obtain ⟨hc196,hF⟩:=of_if hF
    obtain ⟨hc197,hF⟩:=of_if hF
    obtain ⟨hc198,hF⟩:=of_if hF
    obtain ⟨hc199,hF⟩:=of_if hF
    obtain ⟨hc200,hF⟩:=of_if hF
    refine wp_regy_seq tok (orc:=o0) (l:=[1,2,6,8,9,10,11,13]) ([],[],[],[]) 21 nw h (by kernel_rfl) (by kernel_rfl) (ac hc195 (ac hc196 (ac hc197 (ac hc198 (ac hc199 (ac hc200 an)))))) fun a w h => ?_
    obtain ⟨hc192,hF⟩:=of_if hF
    obtain ⟨hc193,hF⟩:=of_if hF
    obtain ⟨hc194,hF⟩:=of_if hF
    refine zt [1,2,6,8,9,10,11,13] h (ac hc192 (ac hc193 (ac hc194 an))) fun a w h => ?_
    refine zt [1,2,6,8,9,10,11,13] h an fun a w h => ?_
    exact ⟨((List.set v180 (tZ (gD (gD r31 (tZ x1) lO) (tZ v182) iO)) (gD x0.2.1 (tZ (gD (gD r31 (tZ x1) lO) (tZ v182) iO)) zR).2.2.2.1),(v181 ++ [(gD (gD r31 (tZ x1) lO) (tZ v182) iO)]),(w64 (v182 + (1:Int)))),hF,ar h [1,2,6,8,9,10,11,13]⟩
   ·refine wp_exit ?_
    refine wp_seq <| wp_block ?_
    refine wp_loop_fuel (f60.l1028 k x0 r31) (fun ((v1581,v1582,v1583,v1584):((List Int) × (List Int) × (List Bool) × (List Int))) => [(2,.val sh16 (some x0)),(6,.val (.sl true 2 iS) v1581),(8,.val (.sl true 2 iS) v1582),(9,.val (.sl true 4 .bool) v1583),(10,.val (.sl true 2 iS) v1584),(11,.val sh20 r31)]) (fun v h => by obtain ⟨v1581,v1582,v1583,v1584⟩:=v; rw [f60.l1028] at h; cases h) ?_ hF (ar h [2,6,8,9,10,11])
    intro m1028 v a w hF h
    obtain ⟨v1581,v1582,v1583,v1584⟩:=v
    rw [f60.l1028] at hF
    refine wp_seq ?_
    refine zs [2,6,8,9,10,11,98] h an fun a w h => ?_
    refine zi h hF (fun hF => ?_) (fun hF => ?_)
    ·refine wp_skip ?_
     refine wp_block ?_
     refine zs [2,6,8,9,10,11,14] h an fun a w h => ?_
     refine wp_seq ?_
     refine zs [2,6,8,9,10,11,14,15] h an fun a w h => ?_
     refine wp_block ?_
     refine wp_loop_fuel (f60.l1624 k v1584 v1582 v1583 x0 v1581 r31 ((f60.l1028 k x0 r31) m1028)) (fun ((v1651,v1652):(Int × Int)) => [(2,.val sh16 (some x0)),(6,.val (.sl true 2 iS) v1581),(8,.val (.sl true 2 iS) v1582),(9,.val (.sl true 4 .bool) v1583),(10,.val (.sl true 2 iS) v1584),(11,.val sh20 r31),(14,.val iS v1651),(15,.val iS v1652)]) (fun v h => by obtain ⟨v1651,v1652⟩:=v; rw [f60.l1624] at h; cases h) ?_ hF (ar h [2,6,8,9,10,11,14,15])
     intro m1624 v a w hF h
     obtain ⟨v1651,v1652⟩:=v
     rw [f60.l1624] at hF
     refine wp_seq ?_
     refine zs [2,6,8,9,10,11,14,15,102] h an fun a w h => ?_
     refine zi h hF (fun hF => ?_) (fun hF => ?_)
     ·refine wp_skip ?_
      refine wp_mid (fun a w => ∃ v:Int,f60.j1658 k v1652 ((f60.l1624 k v1584 v1582 v1583 x0 v1581 r31 ((f60.l1028 k x0 r31) m1028)) m1624) v=some r∧Rel w0 (fun _ => False) Zi Try.f60.ntmps ((fun v1657 => ([(2,.val sh16 (some x0)),(6,.val (.sl true 2 iS) v1581),(8,.val (.sl true 2 iS) v1582),(9,.val (.sl true 4 .bool) v1583),(10,.val (.sl true 2 iS) v1584),(11,.val sh20 r31),(14,.val iS v1657),(15,.val iS v1652)]:SS)) v) a w) ?_ ?_
      ·
       refine wp_block ?_
       obtain ⟨hc1659,hF⟩:=of_if hF
       obtain ⟨hc1660,hF⟩:=of_if hF
       obtain ⟨hc1661,hF⟩:=of_if hF
       obtain ⟨hc1662,hF⟩:=of_if hF
       refine wp_regy_seq tok (orc:=o0) (l:=[2,6,8,9,10,11,14,15,119]) ([],[],[],[]) 15 nw h (by kernel_rfl) (by kernel_rfl) (ac hc1659 (ac hc1660 (ac hc1661 (ac hc1662 an)))) fun a w h => ?_
       refine zi h hF (fun hF => ?_) (fun hF => ?_)
       ·refine zt [2,6,8,9,10,11,14,15] h an fun a w h => ?_
        exact ⟨v1652,hF,ar h [2,6,8,9,10,11,14,15]⟩
       ·refine wp_skip ?_
        exact ⟨v1651,hF,ar h [2,6,8,9,10,11,14,15]⟩
      ·rintro a w ⟨v1657,hF,h⟩
       rw [f60.j1658] at hF
       refine zt [2,6,8,9,10,11,14,15] h an fun a w h => ?_
       exact ⟨(v1657,(w64 (v1652 + (1:Int)))),hF,ar h [2,6,8,9,10,11,14,15]⟩
     ·refine wp_exit ?_
      obtain ⟨hc1854,hF⟩:=of_if hF
      refine zs [2,6,8,9,10,11,14,16] h (ac hc1854 an) fun a w h => ?_
      obtain ⟨hc1852,hF⟩:=of_if hF
      obtain ⟨hc1853,hF⟩:=of_if hF
      refine zs [2,6,8,9,10,11,16] h (ac hc1852 (ac hc1853 an)) fun a w h => ?_
      obtain ⟨hc1851,hF⟩:=of_if hF
      refine zs [2,6,8,9,10,11,16] h (ac hc1851 an) fun a w h => ?_
      obtain ⟨hc1850,hF⟩:=of_if hF
      refine zs [2,6,8,9,10,11,16] h (ac hc1850 an) fun a w h => ?_
      obtain ⟨hc1849,hF⟩:=of_if hF
      refine zs [2,6,8,9,10,11,16,17] h (ac hc1849 an) fun a w h => ?_
      refine wp_seq ?_
      obtain ⟨hc1846,hF⟩:=of_if hF
      obtain ⟨hc1847,hF⟩:=of_if hF
      obtain ⟨hc1848,hF⟩:=of_if hF
      refine wp_regy_seq tok (orc:=o0) (l:=[2,6,8,9,10,11,16,17,163]) ([],[],[],[]) 16 nw h (by kernel_rfl) (by kernel_rfl) (ac hc1846 (ac hc1847 (ac hc1848 an))) fun a w h => ?_
      obtain ⟨v1663,hv1845,hF⟩:=of_bind hF
      replace h:=h.cast (S':=[(2,.val sh16 (some x0)),(6,.val (.sl true 2 iS) v1581),(8,.val (.sl true 2 iS) v1582),(9,.val (.sl true 4 .bool) (List.set v1583 (tZ (gD v1584 (tZ v1651) iO)) true)),(10,.val (.sl true 2 iS) (List.take (tZ (w64 ((List.length (List.set v1584 (tZ v1651) (gD v1584 (tZ (w64 ((List.length v1584:Int) - (1:Int)))) iO)):Int) - (1:Int)))) (List.set v1584 (tZ v1651) (gD v1584 (tZ (w64 ((List.length v1584:Int) - (1:Int)))) iO)))),(11,.val sh20 r31),(16,.val iS (gD v1584 (tZ v1651) iO)),(17,.val iS (gD x0.2.1 (tZ (gD v1584 (tZ v1651) iO)) zR).2.1),(163,.val .bool v1663)]) (by cases hv1845; kernel_rfl)
      refine wp_midT (fun a w => ∃ v:(List Int),f60.j1667 k x0 v1584 v1651 r31 v1583 v1582 ((f60.l1028 k x0 r31) m1028) v=some r∧Rel w0 (fun _ => False) Zi Try.f60.ntmps ((fun (v1666:(List Int)) => ([(2,.val sh16 (some x0)),(6,.val (.sl true 2 iS) v1666),(8,.val (.sl true 2 iS) v1582),(9,.val (.sl true 4 .bool) (List.set v1583 (tZ (gD v1584 (tZ v1651) iO)) true)),(10,.val (.sl true 2 iS) (List.take (tZ (w64 ((List.length (List.set v1584 (tZ v1651) (gD v1584 (tZ (w64 ((List.length v1584:Int) - (1:Int)))) iO)):Int) - (1:Int)))) (List.set v1584 (tZ v1651) (gD v1584 (tZ (w64 ((List.length v1584:Int) - (1:Int)))) iO)))),(11,.val sh20 r31),(16,.val iS (gD v1584 (tZ v1651) iO)),(17,.val iS (gD x0.2.1 (tZ (gD v1584 (tZ v1651) iO)) zR).2.1)]:SS)) v) a w) ?_ ?_
      ·
       refine zi h hF (fun hF => ?_) (fun hF => ?_)
       ·obtain ⟨hc1843,hF⟩:=of_if hF
        obtain ⟨hc1844,hF⟩:=of_if hF
        refine zt [2,6,8,9,10,11,16,17] h (ac hc1843 (ac hc1844 an)) fun a w h => ?_
        exact ⟨(List.set v1581 (tZ (gD x0.2.1 (tZ (gD v1584 (tZ v1651) iO)) zR).2.1) (gD v1582 (tZ (gD v1584 (tZ v1651) iO)) iO)),hF,ar h [2,6,8,9,10,11,16,17]⟩
       ·refine wp_skip ?_
        exact ⟨v1581,hF,ar h [2,6,8,9,10,11,16,17]⟩
      ·rintro a w ⟨v1666,hF,h⟩
       rw [f60.j1667] at hF
       obtain ⟨hc1842,hF⟩:=of_if hF
       refine zs [2,6,8,9,10,11,16,18] h (ac hc1842 an) fun a w h => ?_
       refine zs [2,6,8,9,10,11,16,18,19] h an fun a w h => ?_
       refine wp_block ?_
       refine wp_loop_fuel (f60.l1668 k r31 x0 v1584 v1651 v1583 v1666 ((f60.l1028 k x0 r31) m1028)) (fun ((v1788,v1789,v1790):((List Int) × (List Int) × Int)) => [(2,.val sh16 (some x0)),(6,.val (.sl true 2 iS) v1666),(8,.val (.sl true 2 iS) v1788),(9,.val (.sl true 4 .bool) (List.set v1583 (tZ (gD v1584 (tZ v1651) iO)) true)),(10,.val (.sl true 2 iS) v1789),(11,.val sh20 r31),(16,.val iS (gD v1584 (tZ v1651) iO)),(18,.copy 11 [.idx (tZ (gD x0.2.1 (tZ (gD v1584 (tZ v1651) iO)) zR).2.1)]),(19,.val iS v1790)]) (fun v h => by obtain ⟨v1788,v1789,v1790⟩:=v; rw [f60.l1668] at h; cases h) ?_ hF (ar h [2,6,8,9,10,11,16,18,19])
       intro m1668 v a w hF h
       obtain ⟨v1788,v1789,v1790⟩:=v
       rw [f60.l1668] at hF
       refine wp_seq ?_
       refine zs [2,6,8,9,10,11,16,18,19,178] h an fun a w h => ?_
       refine zi h hF (fun hF => ?_) (fun hF => ?_)
       ·refine wp_skip ?_
        refine wp_mid (fun a w => ∃ v:((List Int) × (List Int)),f60.j1817 k v1790 ((f60.l1668 k r31 x0 v1584 v1651 v1583 v1666 ((f60.l1028 k x0 r31) m1028)) m1668) v=some r∧Rel w0 (fun _ => False) Zi Try.f60.ntmps ((fun ((v1815,v1816):((List Int) × (List Int))) => ([(2,.val sh16 (some x0)),(6,.val (.sl true 2 iS) v1666),(8,.val (.sl true 2 iS) v1815),(9,.val (.sl true 4 .bool) (List.set v1583 (tZ (gD v1584 (tZ v1651) iO)) true)),(10,.val (.sl true 2 iS) v1816),(11,.val sh20 r31),(16,.val iS (gD v1584 (tZ v1651) iO)),(18,.copy 11 [.idx (tZ (gD x0.2.1 (tZ (gD v1584 (tZ v1651) iO)) zR).2.1)]),(19,.val iS v1790)]:SS)) v) a w) ?_ ?_
        ·
         refine wp_block ?_
         obtain ⟨hc1840,hF⟩:=of_if hF
         obtain ⟨r1818,hr1841,hF⟩:=of_bind hF
         refine wp_regy_seq tok (orc:=orcL [(187,[⟨iS,r1818⟩])]) (l:=[2,6,8,9,10,11,16,18,19,20]) ([],[],[],[]) 8 nw h (by kernel_rfl) (by kernel_rfl) (ac hc1840 (ac (c67 k x0 (gD v1584 (tZ v1651) iO) (gD (gD r31 (tZ (gD x0.2.1 (tZ (gD v1584 (tZ v1651) iO)) zR).2.1) lO) (tZ v1790) iO) r1818 hr1841) an)) fun a w h => ?_
         refine wp_seq ?_
         obtain ⟨hc1838,hF⟩:=of_if hF
         obtain ⟨hc1839,hF⟩:=of_if hF
         refine zs [2,6,8,9,10,11,16,18,19,20,198] h (ac hc1838 (ac hc1839 an)) fun a w h => ?_
         refine zi h hF (fun hF => ?_) (fun hF => ?_)
         ·refine wp_exit ?_
          exact ⟨(v1788,v1789),hF,ar h [2,6,8,9,10,11,16,18,19]⟩
         ·refine wp_skip ?_
          obtain ⟨hc1835,hF⟩:=of_if hF
          obtain ⟨hc1836,hF⟩:=of_if hF
          obtain ⟨hc1837,hF⟩:=of_if hF
          refine wp_regy_seq tok (orc:=o0) (l:=[2,6,8,9,10,11,16,18,19,21]) ([],[],[],[]) 17 nw h (by kernel_rfl) (by kernel_rfl) (ac hc1835 (ac hc1836 (ac hc1837 an))) fun a w h => ?_
          obtain ⟨v1819,hv1834,hF⟩:=of_bind hF
          replace h:=h.cast (S':=[(2,.val sh16 (some x0)),(6,.val (.sl true 2 iS) v1666),(8,.val (.sl true 2 iS) v1788),(9,.val (.sl true 4 .bool) (List.set v1583 (tZ (gD v1584 (tZ v1651) iO)) true)),(10,.val (.sl true 2 iS) v1789),(11,.val sh20 r31),(16,.val iS (gD v1584 (tZ v1651) iO)),(18,.copy 11 [.idx (tZ (gD x0.2.1 (tZ (gD v1584 (tZ v1651) iO)) zR).2.1)]),(19,.val iS v1790),(21,.val iS v1819)]) (by cases hv1834; kernel_rfl)
          refine wp_seq ?_
          obtain ⟨hc1832,hF⟩:=of_if hF
          obtain ⟨hc1833,hF⟩:=of_if hF
          refine zs [2,6,8,9,10,11,16,18,19,21,222] h (ac hc1832 (ac hc1833 an)) fun a w h => ?_
          refine wp_midT (fun a w => ∃ v:(List Int),f60.j1825 k v1790 r31 x0 v1584 v1651 v1788 v1819 (f60.j1817 k v1790 ((f60.l1668 k r31 x0 v1584 v1651 v1583 v1666 ((f60.l1028 k x0 r31) m1028)) m1668)) v=some r∧Rel w0 (fun _ => False) Zi Try.f60.ntmps ((fun (v1824:(List Int)) => ([(2,.val sh16 (some x0)),(6,.val (.sl true 2 iS) v1666),(8,.val (.sl true 2 iS) v1788),(9,.val (.sl true 4 .bool) (List.set v1583 (tZ (gD v1584 (tZ v1651) iO)) true)),(10,.val (.sl true 2 iS) v1824),(11,.val sh20 r31),(16,.val iS (gD v1584 (tZ v1651) iO)),(18,.copy 11 [.idx (tZ (gD x0.2.1 (tZ (gD v1584 (tZ v1651) iO)) zR).2.1)]),(19,.val iS v1790),(21,.val iS v1819)]:SS)) v) a w) ?_ ?_
          ·
           refine zi h hF (fun hF => ?_) (fun hF => ?_)
           ·obtain ⟨hc1828,hF⟩:=of_if hF
            obtain ⟨hc1829,hF⟩:=of_if hF
            refine zt [2,6,8,9,10,11,16,18,19,21] h (ac hc1828 (ac hc1829 an)) fun a w h => ?_
            exact ⟨(v1789 ++ [(gD (gD r31 (tZ (gD x0.2.1 (tZ (gD v1584 (tZ v1651) iO)) zR).2.1) lO) (tZ v1790) iO)]),hF,ar h [2,6,8,9,10,11,16,18,19,21]⟩
           ·obtain ⟨hc1830,hF⟩:=of_if hF
            obtain ⟨hc1831,hF⟩:=of_if hF
            refine zs [2,6,8,9,10,11,16,18,19,21,238] h (ac hc1830 (ac hc1831 an)) fun a w h => ?_
            refine zi h hF (fun hF => ?_) (fun hF => ?_)
            ·refine wp_exit ?_
             exact ⟨(v1788,v1789),hF,ar h [2,6,8,9,10,11,16,18,19]⟩
            ·refine wp_skip ?_
             exact ⟨v1789,hF,ar h [2,6,8,9,10,11,16,18,19,21]⟩
          ·rintro a w ⟨v1824,hF,h⟩
           rw [f60.j1825] at hF
           obtain ⟨hc1826,hF⟩:=of_if hF
           obtain ⟨hc1827,hF⟩:=of_if hF
           refine zt [2,6,8,9,10,11,16,18,19] h (ac hc1826 (ac hc1827 an)) fun a w h => ?_
           exact ⟨((List.set v1788 (tZ (gD (gD r31 (tZ (gD x0.2.1 (tZ (gD v1584 (tZ v1651) iO)) zR).2.1) lO) (tZ v1790) iO)) v1819),v1824),hF,ar h [2,6,8,9,10,11,16,18,19]⟩
        ·rintro a w ⟨v,hF,h⟩
         obtain ⟨v1815,v1816⟩:=v
         rw [f60.j1817] at hF
         refine zt [2,6,8,9,10,11,16,18,19] h an fun a w h => ?_
         exact ⟨(v1815,v1816,(w64 (v1790 + (1:Int)))),hF,ar h [2,6,8,9,10,11,16,18,19]⟩
       ·refine wp_exit ?_
        exact ⟨(v1666,v1788,(List.set v1583 (tZ (gD v1584 (tZ v1651) iO)) true),v1789),hF,ar h [2,6,8,9,10,11]⟩
    ·refine wp_exit ?_
     refine zs [4,6] h an fun a w h => ?_
     cases hF
     exact wp_ret (ret_okR tok h rfl (by kernel_rfl)).1
def f45.l685 (k:Nat) (x2:(List Int)) (r657:(List Int)) (v597:(List (List Int))) (v598:Int) (q358:((List (List Int)) × Int)→Option (List (List Int))):Nat → ((List Int) × Int)→Option (List (List Int))
 | 0,_ => none
 | m685+1,(v704,v705) => if (decide (v705 < (List.length x2:Int))) then (if (0≤v705∧v705 < (List.length x2:Int)) then (if (0 ≤ (List.getD x2 (Int.toNat v705) (0:Int)) ∧ (List.getD x2 (Int.toNat v705) (0:Int)) < (List.length r657:Int)) then (if ((List.length v704+List.length [(List.getD r657 (Int.toNat (List.getD x2 (Int.toNat v705) (0:Int))) (0:Int))])*8≤140737488355328) then ((f45.l685 k x2 r657 v597 v598 q358) m685 ((v704 ++ [(List.getD r657 (Int.toNat (List.getD x2 (Int.toNat v705) (0:Int))) (0:Int))]),(IntKind.i64.wrap (v705 + (1:Int))))) else none) else none) else none) else (if ((List.length v597+List.length [v704])*24≤140737488355328) then (q358 ((v597 ++ [v704]),(IntKind.i64.wrap (v598 + (1:Int))))) else none)
def f45.l358 (k:Nat) (x1:(List Int)) (x0:((List (Int × (Int × Int))) × ((List (Int × (Int × (Int × (Int × (Int × ByteArray)))))) × (List (Int × Int))))) (x2:(List Int)):Nat → ((List (List Int)) × Int)→Option (List (List Int))
 | 0,_ => none
 | m358+1,(v597,v598) => if (decide (v598 < (List.length x1:Int))) then (if (0≤v598∧v598 < (List.length x1:Int)) then ((f60 k x0 (List.getD x1 (Int.toNat v598) (0:Int))).bind fun r657 => (f45.l685 k x2 r657 v597 v598 ((f45.l358 k x1 x0 x2) m358) k (([]:List Int),(0:Int)))) else none) else (some v597)
def f45 (k:Nat) (x0:((List (Int × (Int × Int))) × ((List (Int × (Int × (Int × (Int × (Int × ByteArray)))))) × (List (Int × Int))))) (x1:(List Int)) (x2:(List Int)):Option (List (List Int)):=f45.l358 k x1 x0 x2 k (([]:List (List Int)),(0:Int))
theorem c45 (k:Nat) (x0:tG) (x1:(List Int)) (x2:(List Int)) (r:(List (List Int))) (hF:f45 k x0 x1 x2=some r):PCall Try.prog 45 [⟨sh17,x0⟩,⟨(.sl false 2 iS),x1⟩,⟨(.sl false 2 iS),x2⟩] [⟨sh20,r⟩]:=by
 refine pcall_intro Try.func45 rfl rfl (Nat.le_of_ble_eq_true rfl) ?_
 intro w0 Zi a w h
 rw [f45] at hF
 refine zs [1,2,3] h an fun a w h => ?_
 refine zs [1,2,3,7] h an fun a w h => ?_
 refine wp_seq ?_
 refine zs [1,2,3,7,8] h an fun a w h => ?_
 refine wp_block ?_
 refine wp_loop_fuel (f45.l358 k x1 x0 x2) (fun ((v597,v598):((List (List Int)) × Int)) => [(1,.val (.sl false 2 iS) x1),(2,.val (.sl false 2 iS) x2),(3,.val sh16 (some x0)),(7,.val sh20 v597),(8,.val iS v598)]) (fun v h => by obtain ⟨v597,v598⟩:=v; rw [f45.l358] at h; cases h) ?_ hF (ar h [1,2,3,7,8])
 intro m358 v a w hF h
 obtain ⟨v597,v598⟩:=v
 rw [f45.l358] at hF
 refine wp_seq ?_
 refine zs [1,2,3,7,8,16] h an fun a w h => ?_
 refine zi h hF (fun hF => ?_) (fun hF => ?_)
 ·refine wp_skip ?_
  refine wp_seq <| wp_block ?_
  obtain ⟨hc713,hF⟩:=of_if hF
  obtain ⟨r657,hr714,hF⟩:=of_bind hF
  refine wp_regy_seq tok (orc:=orcL [(24,[⟨(.sl true 2 iS),r657⟩])]) (l:=[1,2,3,7,8,9]) ([],[],[],[]) 6 nw h (by kernel_rfl) (by kernel_rfl) (ac hc713 (ac (c60 k x0 (gD x1 (tZ v598) iO) r657 hr714) an)) fun a w h => ?_
  refine zs [1,2,3,7,8,9,10] h an fun a w h => ?_
  refine wp_seq ?_
  refine zs [1,2,3,7,8,9,10,11] h an fun a w h => ?_
  refine wp_block ?_
  refine wp_loop_fuel (f45.l685 k x2 r657 v597 v598 ((f45.l358 k x1 x0 x2) m358)) (fun ((v704,v705):((List Int) × Int)) => [(1,.val (.sl false 2 iS) x1),(2,.val (.sl false 2 iS) x2),(3,.val sh16 (some x0)),(7,.val sh20 v597),(8,.val iS v598),(9,.val (.sl true 2 iS) r657),(10,.val (.sl true 2 iS) v704),(11,.val iS v705)]) (fun v h => by obtain ⟨v704,v705⟩:=v; rw [f45.l685] at h; cases h) ?_ hF (ar h [1,2,3,7,8,9,10,11])
  intro m685 v a w hF h
  obtain ⟨v704,v705⟩:=v
  rw [f45.l685] at hF
  refine wp_seq ?_
  refine zs [1,2,3,7,8,9,10,11,29] h an fun a w h => ?_
  refine zi h hF (fun hF => ?_) (fun hF => ?_)
  ·refine wp_skip ?_
   refine wp_seq <| wp_block ?_
   obtain ⟨hc709,hF⟩:=of_if hF
   obtain ⟨hc710,hF⟩:=of_if hF
   obtain ⟨hc711,hF⟩:=of_if hF
   refine zt [1,2,3,7,8,9,10,11] h (ac hc709 (ac hc710 (ac hc711 an))) fun a w h => ?_
   refine zt [1,2,3,7,8,9,10,11] h an fun a w h => ?_
   exact ⟨((v704 ++ [(gD r657 (tZ (gD x2 (tZ v705) iO)) iO)]),(w64 (v705 + (1:Int)))),hF,ar h [1,2,3,7,8,9,10,11]⟩
  ·refine wp_exit ?_
   obtain ⟨hc712,hF⟩:=of_if hF
   refine zt [1,2,3,7,8] h (ac hc712 an) fun a w h => ?_
   refine zt [1,2,3,7,8] h an fun a w h => ?_
   exact ⟨((v597 ++ [v704]),(w64 (v598 + (1:Int)))),hF,ar h [1,2,3,7,8]⟩
 ·refine wp_exit ?_
  refine zs [6,7] h an fun a w h => ?_
  cases hF
  exact wp_ret (ret_okR tok h rfl (by kernel_rfl)).1
def f26.l22 (k:Nat) (x1:(Int × (Int × (Int × (Int × (List (Int × (Int × (Int × (Int × Int)))))))))) (x0:((List (Int × (Int × Int))) × ((List (Int × (Int × (Int × (Int × (Int × ByteArray)))))) × (List (Int × Int))))):Nat → ((List Int) × Int)→Option (List (List Int))
 | 0,_ => none
 | m22+1,(v37,v38) => if (decide (v38 < (List.length x1.2.2.2.2:Int))) then (if (0≤v38∧v38 < (List.length x1.2.2.2.2:Int)) then (if ((List.length v37+List.length [(List.getD x1.2.2.2.2 (Int.toNat v38) ((0:Int),((0:Int),((0:Int),((0:Int),(0:Int)))))).1])*8≤140737488355328) then ((f26.l22 k x1 x0) m22 ((v37 ++ [(List.getD x1.2.2.2.2 (Int.toNat v38) ((0:Int),((0:Int),((0:Int),((0:Int),(0:Int)))))).1]),(IntKind.i64.wrap (v38 + (1:Int))))) else none) else none) else (if ((List.length v37+List.length [x1.1])*8≤140737488355328) then ((f45 k x0 (v37 ++ [x1.1]) (v37 ++ [x1.1])).bind fun r43 => (some r43)) else none)
def f26 (k:Nat) (x0:((List (Int × (Int × Int))) × ((List (Int × (Int × (Int × (Int × (Int × ByteArray)))))) × (List (Int × Int))))) (x1:(Int × (Int × (Int × (Int × (List (Int × (Int × (Int × (Int × Int)))))))))):Option (List (List Int)):=f26.l22 k x1 x0 k (([]:List Int),(0:Int))
theorem c26 (k:Nat) (x0:tG) (x1:(Int × (Int × (Int × (Int × (List (Int × (Int × (Int × (Int × Int)))))))))) (r:(List (List Int))) (hF:f26 k x0 x1=some r):PCall Try.prog 26 [⟨sh17,x0⟩,⟨sh19,x1⟩] [⟨sh20,r⟩]:=by
 refine pcall_intro Try.func26 rfl rfl (Nat.le_of_ble_eq_true rfl) ?_
 intro w0 Zi a w h
 rw [f26] at hF
 refine zs [2,3] h an fun a w h => ?_
 refine zs [2,3,5] h an fun a w h => ?_
 refine wp_seq ?_
 refine zs [2,3,5,6] h an fun a w h => ?_
 refine wp_block ?_
 refine wp_loop_fuel (f26.l22 k x1 x0) (fun ((v37,v38):((List Int) × Int)) => [(2,.val sh16 (some x0)),(3,.val sh18 (some x1)),(5,.val (.sl true 2 iS) v37),(6,.val iS v38)]) (fun v h => by obtain ⟨v37,v38⟩:=v; rw [f26.l22] at h; cases h) ?_ hF (ar h [2,3,5,6])
 intro m22 v a w hF h
 obtain ⟨v37,v38⟩:=v
 rw [f26.l22] at hF
 refine wp_seq ?_
 refine zs [2,3,5,6,12] h an fun a w h => ?_
 refine zi h hF (fun hF => ?_) (fun hF => ?_)
 ·refine wp_skip ?_
  refine wp_seq <| wp_block ?_
  obtain ⟨hc41,hF⟩:=of_if hF
  obtain ⟨hc42,hF⟩:=of_if hF
  refine zt [2,3,5,6] h (ac hc41 (ac hc42 an)) fun a w h => ?_
  refine zt [2,3,5,6] h an fun a w h => ?_
  exact ⟨((v37 ++ [(gD x1.2.2.2.2 (tZ v38) (iO,(iO,(iO,(iO,iO))))).1]),(w64 (v38 + (1:Int)))),hF,ar h [2,3,5,6]⟩
 ·refine wp_exit ?_
  obtain ⟨hc45,hF⟩:=of_if hF
  refine zs [2,5] h (ac hc45 an) fun a w h => ?_
  obtain ⟨r43,hr44,hF⟩:=of_bind hF
  refine zc (orcL [(32,[⟨sh20,r43⟩])]) [4] h (ac (c45 k x0 (v37 ++ [x1.1]) (v37 ++ [x1.1]) r43 hr44) an) fun a w h => ?_
  cases hF
  exact wp_ret (ret_okR tok h rfl (by kernel_rfl)).1
def f43 (k:Nat) (x0:(Int × (Int × (Int × (Int × (List (Int × (Int × (Int × (Int × Int)))))))))):Option (Int × (Int × (Int × Int))):=some ((0:Int),(x0.2.1,((0:Int),(List.length x0.2.2.2.2:Int))))
theorem c43 (k:Nat) (x0:(Int × (Int × (Int × (Int × (List (Int × (Int × (Int × (Int × Int)))))))))) (r:(Int × (Int × (Int × Int)))) (hF:f43 k x0=some r):PCall Try.prog 43 [⟨sh19,x0⟩] [⟨sh22,r⟩]:=by
 refine pcall_intro Try.func43 rfl rfl (Nat.le_of_ble_eq_true rfl) ?_
 intro w0 Zi a w h
 rw [f43] at hF
 refine zs [1,2] h an fun a w h => ?_
 refine zs [2] h an fun a w h => ?_
 cases hF
 exact wp_ret (ret_okR tok h rfl (by kernel_rfl)).1
def f38.l12 (k:Nat) (x0:(List Int)) (x1:Int):Nat→Int→Option Bool
 | 0,_ => none
 | m12+1,v20 => if (decide (v20 < (List.length x0:Int))) then (if (0≤v20∧v20 < (List.length x0:Int)) then (if (((List.getD x0 (Int.toNat v20) (0:Int)):Int) == x1) then (some true) else ((f38.l12 k x0 x1) m12 (IntKind.i64.wrap (v20 + (1:Int))))) else none) else (some false)
def f38 (k:Nat) (x0:(List Int)) (x1:Int):Option Bool:=f38.l12 k x0 x1 k (0:Int)
theorem c38 (k:Nat) (x0:(List Int)) (x1:Int) (r:Bool) (hF:f38 k x0 x1=some r):PCall Try.prog 38 [⟨(.sl false 2 iS),x0⟩,⟨iS,x1⟩] [⟨.bool,r⟩]:=by
 refine pcall_intro Try.func38 rfl rfl (Nat.le_of_ble_eq_true rfl) ?_
 intro w0 Zi a w h
 rw [f38] at hF
 refine zs [0,1] h an fun a w h => ?_
 refine wp_seq ?_
 refine zs [0,1,5] h an fun a w h => ?_
 refine wp_block ?_
 refine wp_loop_fuel (f38.l12 k x0 x1) (fun v20 => [(0,.val (.sl false 2 iS) x0),(1,.val iS x1),(5,.val iS v20)]) (fun v h => by rw [f38.l12] at h; cases h) ?_ hF (ar h [0,1,5])
 intro m12 v20 a w hF h
 rw [f38.l12] at hF
 refine wp_seq ?_
 refine zs [0,1,5,9] h an fun a w h => ?_
 refine zi h hF (fun hF => ?_) (fun hF => ?_)
 ·refine wp_skip ?_
  refine wp_seq <| wp_block ?_
  obtain ⟨hc22,hF⟩:=of_if hF
  refine zs [0,1,5,17] h (ac hc22 an) fun a w h => ?_
  refine zi h hF (fun hF => ?_) (fun hF => ?_)
  ·refine zs [4] h an fun a w h => ?_
   cases hF
   exact wp_ret (ret_okR tok h rfl (by kernel_rfl)).1
  ·refine wp_skip ?_
   refine zt [0,1,5] h an fun a w h => ?_
   exact ⟨(w64 (v20 + (1:Int))),hF,ar h [0,1,5]⟩
 ·refine wp_exit ?_
  refine zs [4] h an fun a w h => ?_
  cases hF
  exact wp_ret (ret_okR tok h rfl (by kernel_rfl)).1
def f44.j2 (k:Nat) (x0:(Int × (Int × (Int × (Int × (List (Int × (Int × (Int × (Int × Int)))))))))) (x3:Int) (x2:(Int × (Int × (Int × Int)))) (x1:(List (List Int))):Int→Option ((Int × (Int × (Int × Int))) × Bool)
 | v1 => if (bif (decide (v1 > (List.getD x0.2.2.2.2 (Int.toNat x3) ((0:Int),((0:Int),((0:Int),((0:Int),(0:Int)))))).2.2.2.1)) then true else (decide (((IntKind.i64.wrap (x2.2.2.1 + (List.getD x0.2.2.2.2 (Int.toNat x3) ((0:Int),((0:Int),((0:Int),((0:Int),(0:Int)))))).2.1)):Int) > x0.2.2.2.1))) then (some (x2,false)) else (some (((IntKind.i64.wrap (x2.1 + (List.getD (List.getD x1 (Int.toNat x2.2.2.2) ([]:(List Int))) (Int.toNat x3) (0:Int)))),((IntKind.i64.wrap (v1 + (List.getD x0.2.2.2.2 (Int.toNat x3) ((0:Int),((0:Int),((0:Int),((0:Int),(0:Int)))))).2.2.2.2)),((IntKind.i64.wrap (x2.2.2.1 + (List.getD x0.2.2.2.2 (Int.toNat x3) ((0:Int),((0:Int),((0:Int),((0:Int),(0:Int)))))).2.1)),x3))),true))
def f44 (k:Nat) (x0:(Int × (Int × (Int × (Int × (List (Int × (Int × (Int × (Int × Int)))))))))) (x1:(List (List Int))) (x2:(Int × (Int × (Int × Int)))) (x3:Int):Option ((Int × (Int × (Int × Int))) × Bool):=if (0≤x3∧x3 < (List.length x0.2.2.2.2:Int)) then (if (0≤x2.2.2.2∧x2.2.2.2 < (List.length x1:Int)) then (if (0≤x3∧x3 < (List.length (List.getD x1 (Int.toNat x2.2.2.2) ([]:(List Int))):Int)) then (if (decide (((List.getD (List.getD x1 (Int.toNat x2.2.2.2) ([]:(List Int))) (Int.toNat x3) (0:Int)):Int) < (0:Int))) then (some (x2,false)) else (if (decide (((IntKind.i64.wrap (x2.2.1 + (List.getD (List.getD x1 (Int.toNat x2.2.2.2) ([]:(List Int))) (Int.toNat x3) (0:Int)))):Int) < (List.getD x0.2.2.2.2 (Int.toNat x3) ((0:Int),((0:Int),((0:Int),((0:Int),(0:Int)))))).2.2.1)) then (f44.j2 k x0 x3 x2 x1 (List.getD x0.2.2.2.2 (Int.toNat x3) ((0:Int),((0:Int),((0:Int),((0:Int),(0:Int)))))).2.2.1) else (f44.j2 k x0 x3 x2 x1 (IntKind.i64.wrap (x2.2.1 + (List.getD (List.getD x1 (Int.toNat x2.2.2.2) ([]:(List Int))) (Int.toNat x3) (0:Int))))))) else none) else none) else none
theorem c44 (k:Nat) (x0:(Int × (Int × (Int × (Int × (List (Int × (Int × (Int × (Int × Int)))))))))) (x1:(List (List Int))) (x2:(Int × (Int × (Int × Int)))) (x3:Int) (r:((Int × (Int × (Int × Int))) × Bool)) (hF:f44 k x0 x1 x2 x3=some r):PCall Try.prog 44 [⟨sh19,x0⟩,⟨sh25,x1⟩,⟨sh22,x2⟩,⟨iS,x3⟩] [⟨sh22,r.1⟩,⟨.bool,r.2⟩]:=by
 refine pcall_intro Try.func44 rfl rfl (Nat.le_of_ble_eq_true rfl) ?_
 intro w0 Zi a w h
 rw [f44] at hF
 refine zs [1,3,4,6,8] h an fun a w h => ?_
 obtain ⟨hc5,hF⟩:=of_if hF
 refine zs [1,3,4,6,8,10] h (ac hc5 an) fun a w h => ?_
 obtain ⟨hc3,hF⟩:=of_if hF
 obtain ⟨hc4,hF⟩:=of_if hF
 refine zs [3,4,6,8,10,11] h (ac hc3 (ac hc4 an)) fun a w h => ?_
 refine wp_seq ?_
 refine zs [3,4,6,8,10,11,28] h an fun a w h => ?_
 refine zi h hF (fun hF => ?_) (fun hF => ?_)
 ·refine zs [8,9] h an fun a w h => ?_
  cases hF
  exact wp_ret (ret_okR tok h rfl (by kernel_rfl)).1
 ·refine wp_skip ?_
  refine zs [3,4,6,8,10,11,12] h an fun a w h => ?_
  refine wp_seq ?_
  refine zs [3,4,6,8,10,11,12,37] h an fun a w h => ?_
  refine wp_midT (fun a w => ∃ v:Int,f44.j2 k x0 x3 x2 x1 v=some r∧Rel w0 (fun _ => False) Zi Try.f44.ntmps ((fun v1 => ([(3,.val iS x3),(4,.val sh18 (some x0)),(6,.val sh23 (some x2)),(8,.val sh23 (some (iO,(iO,(iO,iO))))),(10,.val sh24 (some (gD x0.2.2.2.2 (tZ x3) (iO,(iO,(iO,(iO,iO))))))),(11,.val iS (gD (gD x1 (tZ x2.2.2.2) lO) (tZ x3) iO)),(12,.val iS v1)]:SS)) v) a w) ?_ ?_
  ·
   refine zi h hF (fun hF => ?_) (fun hF => ?_)
   ·refine zt [3,4,6,8,10,11,12] h an fun a w h => ?_
    exact ⟨(gD x0.2.2.2.2 (tZ x3) (iO,(iO,(iO,(iO,iO))))).2.2.1,hF,ar h [3,4,6,8,10,11,12]⟩
   ·refine wp_skip ?_
    exact ⟨(w64 (x2.2.1 + (gD (gD x1 (tZ x2.2.2.2) lO) (tZ x3) iO))),hF,ar h [3,4,6,8,10,11,12]⟩
  ·rintro a w ⟨v1,hF,h⟩
   rw [f44.j2] at hF
   refine zs [3,4,6,8,10,11,12,13] h an fun a w h => ?_
   refine wp_seq ?_
   refine zs [3,6,8,10,11,12,13,54] h an fun a w h => ?_
   refine zi h hF (fun hF => ?_) (fun hF => ?_)
   ·refine zs [8,9] h an fun a w h => ?_
    cases hF
    exact wp_ret (ret_okR tok h rfl (by kernel_rfl)).1
   ·refine wp_skip ?_
    refine zs [8,9] h an fun a w h => ?_
    cases hF
    exact wp_ret (ret_okR tok h rfl (by kernel_rfl)).1
def f25.l65 (k:Nat) (x2:(List Int)) (x0:(Int × (Int × (Int × (Int × (List (Int × (Int × (Int × (Int × Int)))))))))) (x1:(List (List Int))):Nat → ((Int × (Int × (Int × Int))) × Int)→Option Int
 | 0,_ => none
 | m65+1,(v108,v109) => if (decide (v109 < (List.length x2:Int))) then (if (0≤v109∧v109 < (List.length x2:Int)) then (if (((decide (((List.getD x2 (Int.toNat v109) (0:Int)):Int) < (0:Int)))=false) → (0≤v109∧v109 < (List.length x2:Int))) then (if (((bif (decide (((List.getD x2 (Int.toNat v109) (0:Int)):Int) < (0:Int))) then true else (decide (((List.getD x2 (Int.toNat v109) (0:Int)):Int) ≥ (List.length x0.2.2.2.2:Int))))=false) → (True ∧ ((0:Int)≤v109)∧0 ≤ (Int.toNat v109) ∧ (Int.toNat v109) ≤ (List.length x2))) then (if (((bif (decide (((List.getD x2 (Int.toNat v109) (0:Int)):Int) < (0:Int))) then true else (decide (((List.getD x2 (Int.toNat v109) (0:Int)):Int) ≥ (List.length x0.2.2.2.2:Int))))=false) → (0≤v109∧v109 < (List.length x2:Int))) then ((if ((bif (decide (((List.getD x2 (Int.toNat v109) (0:Int)):Int) < (0:Int))) then true else (decide (((List.getD x2 (Int.toNat v109) (0:Int)):Int) ≥ (List.length x0.2.2.2.2:Int))))=false) then f38 k (List.drop 0 (List.take (Int.toNat v109) x2)) (List.getD x2 (Int.toNat v109) (0:Int)) else some default).bind fun r119 => (if (bif (bif (decide (((List.getD x2 (Int.toNat v109) (0:Int)):Int) < (0:Int))) then true else (decide (((List.getD x2 (Int.toNat v109) (0:Int)):Int) ≥ (List.length x0.2.2.2.2:Int)))) then true else r119) then (some (-1:Int)) else (if (0≤v109∧v109 < (List.length x2:Int)) then ((f44 k x0 x1 v108 (List.getD x2 (Int.toNat v109) (0:Int))).bind fun r120 => (if (!r120.2) then (some (-1:Int)) else ((f25.l65 k x2 x0 x1) m65 (r120.1,(IntKind.i64.wrap (v109 + (1:Int))))))) else none))) else none) else none) else none) else none) else (if (0≤v108.2.2.2∧v108.2.2.2 < (List.length x1:Int)) then (if (0 ≤ (List.length x0.2.2.2.2:Int) ∧ (List.length x0.2.2.2.2:Int) < (List.length (List.getD x1 (Int.toNat v108.2.2.2) ([]:(List Int))):Int)) then (if (bif (((List.length x2:Int):Int) == (0:Int)) then true else (decide (((List.getD (List.getD x1 (Int.toNat v108.2.2.2) ([]:(List Int))) (Int.toNat (List.length x0.2.2.2.2:Int)) (0:Int)):Int) < (0:Int)))) then (some (-1:Int)) else (some (IntKind.i64.wrap (v108.1 + (List.getD (List.getD x1 (Int.toNat v108.2.2.2) ([]:(List Int))) (Int.toNat (List.length x0.2.2.2.2:Int)) (0:Int)))))) else none) else none)
def f25 (k:Nat) (x0:(Int × (Int × (Int × (Int × (List (Int × (Int × (Int × (Int × Int)))))))))) (x1:(List (List Int))) (x2:(List Int)):Option Int:=(f43 k x0).bind fun r1 => (f25.l65 k x2 x0 x1 k (r1,(0:Int)))
theorem c25 (k:Nat) (x0:(Int × (Int × (Int × (Int × (List (Int × (Int × (Int × (Int × Int)))))))))) (x1:(List (List Int))) (x2:(List Int)) (r:Int) (hF:f25 k x0 x1 x2=some r):PCall Try.prog 25 [⟨sh19,x0⟩,⟨sh25,x1⟩,⟨(.sl false 2 iS),x2⟩] [⟨iS,r⟩]:=by
 refine pcall_intro Try.func25 rfl rfl (Nat.le_of_ble_eq_true rfl) ?_
 intro w0 Zi a w h
 rw [f25] at hF
 refine zs [1,2,3] h an fun a w h => ?_
 obtain ⟨r1,hr130,hF⟩:=of_bind hF
 refine zc (orcL [(13,[⟨sh22,r1⟩])]) [1,2,3,7] h (ac (c43 k x0 r1 hr130) an) fun a w h => ?_
 refine wp_seq ?_
 refine zs [1,2,3,7,8] h an fun a w h => ?_
 refine wp_block ?_
 refine wp_loop_fuel (f25.l65 k x2 x0 x1) (fun ((v108,v109):((Int × (Int × (Int × Int))) × Int)) => [(1,.val sh25 x1),(2,.val (.sl false 2 iS) x2),(3,.val sh18 (some x0)),(7,.val sh23 (some v108)),(8,.val iS v109)]) (fun v h => by obtain ⟨v108,v109⟩:=v; rw [f25.l65] at h; cases h) ?_ hF (ar h [1,2,3,7,8])
 intro m65 v a w hF h
 obtain ⟨v108,v109⟩:=v
 rw [f25.l65] at hF
 refine wp_seq ?_
 refine zs [1,2,3,7,8,17] h an fun a w h => ?_
 refine zi h hF (fun hF => ?_) (fun hF => ?_)
 ·refine wp_skip ?_
  refine wp_seq <| wp_block ?_
  refine wp_seq ?_
  obtain ⟨hc123,hF⟩:=of_if hF
  obtain ⟨hc124,hF⟩:=of_if hF
  obtain ⟨hc125,hF⟩:=of_if hF
  obtain ⟨hc126,hF⟩:=of_if hF
  obtain ⟨r119,hr127,hF⟩:=of_bind hF
  refine wp_regy_seq tok (orc:=orcL [(43,[⟨.bool,r119⟩])]) (l:=[1,2,3,7,8,44]) ([],[],[],[]) 25 nw h (by kernel_rfl) (by kernel_rfl) (ac hc123 (ac hc124 (ac hc125 (ac hc126 (ac (fun (hg:((bif (decide (((gD x2 (tZ v109) iO):Int) < iO)) then true else (decide (((gD x2 (tZ v109) iO):Int) ≥ (List.length x0.2.2.2.2:Int))))=false)) => c38 k (List.drop 0 (List.take (tZ v109) x2)) (gD x2 (tZ v109) iO) r119 (of_g hg hr127)) an))))) fun a w h => ?_
  refine zi h hF (fun hF => ?_) (fun hF => ?_)
  ·refine zs [6] h an fun a w h => ?_
   cases hF
   exact wp_ret (ret_okR tok h rfl (by kernel_rfl)).1
  ·refine wp_skip ?_
   obtain ⟨hc121,hF⟩:=of_if hF
   obtain ⟨r120,hr122,hF⟩:=of_bind hF
   refine wp_regy_seq tok (orc:=orcL [(53,[⟨sh22,r120.1⟩,⟨.bool,r120.2⟩])]) (l:=[1,2,3,7,8,9,10]) ([(12,9)],[],[],[(10,[45])]) 13 nw h (by kernel_rfl) (by kernel_rfl) (ac hc121 (ac (c44 k x0 x1 v108 (gD x2 (tZ v109) iO) r120 hr122) an)) fun a w h => ?_
   refine wp_seq ?_
   refine zs [1,2,3,7,8,9,57] h an fun a w h => ?_
   refine zi h hF (fun hF => ?_) (fun hF => ?_)
   ·refine zs [6] h an fun a w h => ?_
    cases hF
    exact wp_ret (ret_okR tok h rfl (by kernel_rfl)).1
   ·refine wp_skip ?_
    refine zt [1,2,3,7,8] h an fun a w h => ?_
    refine zt [1,2,3,7,8] h an fun a w h => ?_
    exact ⟨(r120.1,(w64 (v109 + (1:Int)))),hF,ar h [1,2,3,7,8]⟩
 ·refine wp_exit ?_
  obtain ⟨hc128,hF⟩:=of_if hF
  obtain ⟨hc129,hF⟩:=of_if hF
  refine wp_regy_seq tok (orc:=o0) (l:=[2,7,11]) ([],[],[],[]) 11 nw h (by kernel_rfl) (by kernel_rfl) (ac hc128 (ac hc129 an)) fun a w h => ?_
  refine wp_seq ?_
  refine zs [7,11,75] h an fun a w h => ?_
  refine zi h hF (fun hF => ?_) (fun hF => ?_)
  ·refine zs [6] h an fun a w h => ?_
   cases hF
   exact wp_ret (ret_okR tok h rfl (by kernel_rfl)).1
  ·refine wp_skip ?_
   refine zs [6] h an fun a w h => ?_
   cases hF
   exact wp_ret (ret_okR tok h rfl (by kernel_rfl)).1
def f7 (k:Nat) (x0:((List (Int × (Int × Int))) × ((List (Int × (Int × (Int × (Int × (Int × ByteArray)))))) × (List (Int × Int))))) (x1:(Int × (Int × (Int × (Int × (List (Int × (Int × (Int × (Int × Int)))))))))) (x2:(List Int)):Option Int:=(f24 k x0 x1).bind fun r1 => (if (bif (!r1) then true else (decide (((List.length x2:Int):Int) > (6:Int)))) then (some (-1:Int)) else ((f26 k x0 x1).bind fun r2 => ((f25 k x1 r2 x2).bind fun r3 => (some r3))))
theorem c7 (k:Nat) (x0:tG) (x1:(Int × (Int × (Int × (Int × (List (Int × (Int × (Int × (Int × Int)))))))))) (x2:(List Int)) (r:Int) (hF:f7 k x0 x1 x2=some r):PCall Try.prog 7 [⟨sh17,x0⟩,⟨sh19,x1⟩,⟨(.sl false 2 iS),x2⟩] [⟨iS,r⟩]:=by
 refine pcall_intro Try.func7 rfl rfl (Nat.le_of_ble_eq_true rfl) ?_
 intro w0 Zi a w h
 rw [f7] at hF
 refine zs [2,3,4] h an fun a w h => ?_
 refine wp_seq ?_
 obtain ⟨r1,hr6,hF⟩:=of_bind hF
 refine zc (orcL [(9,[⟨.bool,r1⟩])]) [2,3,4,15] h (ac (c24 k x0 x1 r1 hr6) an) fun a w h => ?_
 refine zi h hF (fun hF => ?_) (fun hF => ?_)
 ·refine zs [6] h an fun a w h => ?_
  cases hF
  exact wp_ret (ret_okR tok h rfl (by kernel_rfl)).1
 ·refine wp_skip ?_
  obtain ⟨r2,hr4,hF⟩:=of_bind hF
  obtain ⟨r3,hr5,hF⟩:=of_bind hF
  refine wp_regy_seq tok (orc:=orcL [(19,[⟨sh20,r2⟩]),(21,[⟨iS,r3⟩])]) (l:=[6]) ([],[],[],[]) 7 nw h (by kernel_rfl) (by kernel_rfl) (ac (c26 k x0 x1 r2 hr4) (ac (c25 k x1 r2 x2 r3 hr5) an)) fun a w h => ?_
  cases hF
  exact wp_ret (ret_okR tok h rfl (by kernel_rfl)).1
def f68 (k:Nat) (x0:Int):Option Bool:=some (bif (decide (x0 ≥ (1:Int))) then (decide (x0 ≤ (1000000000:Int))) else false)
theorem c68 (k:Nat) (x0:Int) (r:Bool) (hF:f68 k x0=some r):PCall Try.prog 68 [⟨iS,x0⟩] [⟨.bool,r⟩]:=by
 refine pcall_intro Try.func68 rfl rfl (Nat.le_of_ble_eq_true rfl) ?_
 intro w0 Zi a w h
 rw [f68] at hF
 refine zs [0] h an fun a w h => ?_
 refine zs [2] h an fun a w h => ?_
 cases hF
 exact wp_ret (ret_okR tok h rfl (by kernel_rfl)).1
def f69 (k:Nat) (x0:(Int × Int)):Option Bool:=some (bif (bif (bif (decide (x0.1 ≥ (-10000000:Int))) then (decide (x0.1 ≤ (10000000:Int))) else false) then (decide (x0.2 ≥ (-10000000:Int))) else false) then (decide (x0.2 ≤ (10000000:Int))) else false)
theorem c69 (k:Nat) (x0:(Int × Int)) (r:Bool) (hF:f69 k x0=some r):PCall Try.prog 69 [⟨sh7,x0⟩] [⟨.bool,r⟩]:=by
 refine pcall_intro Try.func69 rfl rfl (Nat.le_of_ble_eq_true rfl) ?_
 intro w0 Zi a w h
 rw [f69] at hF
 refine zs [1] h an fun a w h => ?_
 refine zs [2] h an fun a w h => ?_
 cases hF
 exact wp_ret (ret_okR tok h rfl (by kernel_rfl)).1
end Go.Proofs.Ytajigednlopmjaa.V
