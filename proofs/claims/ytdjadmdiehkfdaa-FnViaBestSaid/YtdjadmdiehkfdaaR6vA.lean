/-
  THE CONTRACTS OF SOME FUNCTIONS OF THIS SEAT, PRINTED BY A PROGRAM OF THIS PROJECT (wip/gen/vgen.py).
-/
import Derived.Test.YtdjadmdiehkfdaaProg
import Derived.Test.YtdjadmdiehkfdaaVmW
import Derived.Test.YtdjadmdiehkfdaaVmAn
import Derived.KernelRfl
set_option linter.unusedVariables false
open Go Go.Vm Go.Proofs
namespace Go.Proofs.Ytdjadmdiehkfdaa.V
set_option maxRecDepth 100000
abbrev zR:Int × (Int × (Int × (Int × (Int × ByteArray)))):=((0:Int),((0:Int),((0:Int),((0:Int),((0:Int),(⟨#[]⟩:ByteArray))))))
abbrev tG:=((List (Int × (Int × Int))) × ((List (Int × (Int × (Int × (Int × (Int × ByteArray)))))) × (List (Int × Int))))
abbrev tN:=(((List (Int × (Int × Int))) × ((List (Int × (Int × (Int × (Int × (Int × ByteArray)))))) × (List (Int × Int)))) × ((List (List Int)) × ((List (List Int)) × (Option (List ((Int × Int) × Bool))))))
abbrev gD {α:Type} (l:List α) (i:Nat) (d:α):α:=List.getD l i d
abbrev tZ (n:Int):Nat:=Int.toNat n
abbrev iO:Int:=0
abbrev lO:List Int:=[]
theorem nw {p:Prop}:([]:List Nat)=[]∨p:=.inl rfl
abbrev o0:=orcL []
theorem ac {p:Prop} {l:List Prop} (h:p) (t:AllP l):AllP (p :: l):=AllP.cons h t
theorem an:AllP []:=AllP.nil
abbrev sh0:Sh:=(.pt true 97 (.st (.pair (.sl false 5 (.int .u8)) (.pair (.int .i64) (.int .i64)))))
abbrev sh1:Sh:=(.sl true 154 (.st (.pair .str .str)))
abbrev sh2:Sh:=(.sl false 154 (.st (.pair .str .str)))
abbrev sh3:Sh:=(.pt true 127 (.st (.pair (.sl true 142 (.st (.pair (.int .i64) (.pair (.st (.pair (.int .i64) (.int .i64))) (.sl false 154 (.st (.pair .str .str))))))) (.pair (.sl true 144 (.st (.pair (.int .i64) (.pair (.sl false 2 (.int .i64)) (.sl false 154 (.st (.pair .str .str))))))) (.sl true 160 (.st (.pair (.int .i64) (.pair (.sl true 164 (.st (.pair (.int .i64) .bool))) (.sl true 154 (.st (.pair .str .str)))))))))))
abbrev sh4:Sh:=(.pt true 63 (.st (.pair (.int .i64) (.int .i64))))
abbrev sh5:Sh:=(.st (.pair (.int .i64) (.int .i64)))
abbrev sh6:Sh:=(.st (.pair (.int .i64) (.pair (.st (.pair (.int .i64) (.int .i64))) (.sl false 154 (.st (.pair .str .str))))))
abbrev sh7:Sh:=(.sl true 142 (.st (.pair (.int .i64) (.pair (.st (.pair (.int .i64) (.int .i64))) (.sl false 154 (.st (.pair .str .str)))))))
abbrev sh8:Sh:=(.pt true 144 (.st (.pair (.int .i64) (.pair (.sl true 2 (.int .i64)) (.sl false 154 (.st (.pair .str .str)))))))
abbrev sh9:Sh:=(.st (.pair (.sl true 142 (.st (.pair (.int .i64) (.pair (.st (.pair (.int .i64) (.int .i64))) (.sl false 154 (.st (.pair .str .str))))))) (.pair (.sl true 144 (.st (.pair (.int .i64) (.pair (.sl false 2 (.int .i64)) (.sl false 154 (.st (.pair .str .str))))))) (.sl true 160 (.st (.pair (.int .i64) (.pair (.sl true 164 (.st (.pair (.int .i64) .bool))) (.sl true 154 (.st (.pair .str .str))))))))))
abbrev sh10:Sh:=(.pt true 127 (.st (.pair (.sl false 142 (.st (.pair (.int .i64) (.pair (.st (.pair (.int .i64) (.int .i64))) (.sl false 154 (.st (.pair .str .str))))))) (.pair (.sl false 144 (.st (.pair (.int .i64) (.pair (.sl false 2 (.int .i64)) (.sl false 154 (.st (.pair .str .str))))))) (.sl false 160 (.st (.pair (.int .i64) (.pair (.sl false 164 (.st (.pair (.int .i64) .bool))) (.sl false 154 (.st (.pair .str .str)))))))))))
abbrev sh11:Sh:=(.st (.pair (.sl false 142 (.st (.pair (.int .i64) (.pair (.st (.pair (.int .i64) (.int .i64))) (.sl false 154 (.st (.pair .str .str))))))) (.pair (.sl false 144 (.st (.pair (.int .i64) (.pair (.sl false 2 (.int .i64)) (.sl false 154 (.st (.pair .str .str))))))) (.sl false 160 (.st (.pair (.int .i64) (.pair (.sl false 164 (.st (.pair (.int .i64) .bool))) (.sl false 154 (.st (.pair .str .str))))))))))
abbrev sh12:Sh:=(.pt true 144 (.st (.pair (.int .i64) (.pair (.sl false 2 (.int .i64)) (.sl false 154 (.st (.pair .str .str)))))))
abbrev sh13:Sh:=(.st (.pair (.int .i64) (.pair (.sl false 2 (.int .i64)) (.sl false 154 (.st (.pair .str .str))))))
abbrev sh14:Sh:=(.pt true 160 (.st (.pair (.int .i64) (.pair (.sl false 164 (.st (.pair (.int .i64) .bool))) (.sl false 154 (.st (.pair .str .str)))))))
abbrev sh15:Sh:=(.st (.pair (.int .i64) (.pair (.sl false 164 (.st (.pair (.int .i64) .bool))) (.sl false 154 (.st (.pair .str .str))))))
abbrev sh16:Sh:=(.pt true 28 (.st (.pair (.sl true 65 (.st (.pair (.int .i64) (.st (.pair (.int .i64) (.int .i64)))))) (.pair (.sl true 44 (.st (.pair (.int .i64) (.pair (.int .i64) (.pair (.int .i64) (.pair (.int .i64) (.pair (.int .i64) .str))))))) (.sl true 69 (.st (.pair (.int .i64) (.int .i64))))))))
abbrev sh17:Sh:=(.pt true 28 (.st (.pair (.sl false 65 (.st (.pair (.int .i64) (.st (.pair (.int .i64) (.int .i64)))))) (.pair (.sl false 44 (.st (.pair (.int .i64) (.pair (.int .i64) (.pair (.int .i64) (.pair (.int .i64) (.pair (.int .i64) .str))))))) (.sl false 69 (.st (.pair (.int .i64) (.int .i64))))))))
abbrev sh18:Sh:=(.st (.pair (.sl false 65 (.st (.pair (.int .i64) (.st (.pair (.int .i64) (.int .i64)))))) (.pair (.sl false 44 (.st (.pair (.int .i64) (.pair (.int .i64) (.pair (.int .i64) (.pair (.int .i64) (.pair (.int .i64) .str))))))) (.sl false 69 (.st (.pair (.int .i64) (.int .i64)))))))
abbrev sh19:Sh:=(.pt true 44 (.st (.pair (.int .i64) (.pair (.int .i64) (.pair (.int .i64) (.pair (.int .i64) (.pair (.int .i64) .str)))))))
abbrev sh20:Sh:=(.st (.pair (.sl true 65 (.st (.pair (.int .i64) (.st (.pair (.int .i64) (.int .i64)))))) (.pair (.sl true 44 (.st (.pair (.int .i64) (.pair (.int .i64) (.pair (.int .i64) (.pair (.int .i64) (.pair (.int .i64) .str))))))) (.sl true 69 (.st (.pair (.int .i64) (.int .i64)))))))
abbrev sh21:Sh:=(.sl true 32 (.sl true 2 (.int .i64)))
abbrev sh22:Sh:=(.st (.pair (.int .i64) (.pair (.int .i64) (.pair (.int .i64) (.pair (.int .i64) (.pair (.int .i64) .str))))))
abbrev sh23:Sh:=(.sl false 69 (.st (.pair (.int .i64) (.int .i64))))
abbrev sh24:Sh:=(.pt true 69 (.st (.pair (.int .i64) (.int .i64))))
abbrev sh25:Sh:=(.sl true 69 (.st (.pair (.int .i64) (.int .i64))))
abbrev sh26:Sh:=(.sl false 32 (.sl false 2 (.int .i64)))
abbrev sh27:Sh:=(.pt true 28 (.st (.pair .any (.pair .any .any))))
abbrev sh28:Sh:=(.pt false 0 (.sl false 2 (.int .i64)))
abbrev sh29:Sh:=(.sl false 65 (.st (.pair (.int .i64) (.st (.pair (.int .i64) (.int .i64))))))
abbrev sh30:Sh:=(.sl false 44 (.st (.pair (.int .i64) (.pair (.int .i64) (.pair (.int .i64) (.pair (.int .i64) (.pair (.int .i64) .str)))))))
abbrev sh31:Sh:=(.pt true 103 (.st (.pair (.st (.pair (.sl false 65 (.st (.pair (.int .i64) (.st (.pair (.int .i64) (.int .i64)))))) (.pair (.sl false 44 (.st (.pair (.int .i64) (.pair (.int .i64) (.pair (.int .i64) (.pair (.int .i64) (.pair (.int .i64) .str))))))) (.sl false 69 (.st (.pair (.int .i64) (.int .i64))))))) (.pair (.sl true 32 (.sl true 2 (.int .i64))) (.pair (.sl true 32 (.sl true 2 (.int .i64))) (.mp true (.st (.pair (.int .i64) (.int .i64))) .bool))))))
abbrev sh32:Sh:=(.pt false 0 (.st (.pair (.st (.pair (.sl false 65 (.st (.pair (.int .i64) (.st (.pair (.int .i64) (.int .i64)))))) (.pair (.sl false 44 (.st (.pair (.int .i64) (.pair (.int .i64) (.pair (.int .i64) (.pair (.int .i64) (.pair (.int .i64) .str))))))) (.sl false 69 (.st (.pair (.int .i64) (.int .i64))))))) (.pair (.sl false 32 (.sl false 2 (.int .i64))) (.pair (.sl false 32 (.sl false 2 (.int .i64))) (.mp false (.st (.pair (.int .i64) (.int .i64))) .bool))))))
abbrev sh33:Sh:=(.st (.pair (.int .i64) (.pair (.int .i64) (.int .i64))))
abbrev sh34:Sh:=(.pt true 109 (.st (.pair (.sl true 112 (.st (.pair (.int .i64) (.pair (.int .i64) (.int .i64))))) .unit)))
abbrev sh35:Sh:=(.pt true 112 (.st (.pair (.int .i64) (.pair (.int .i64) (.int .i64)))))
abbrev sh36:Sh:=(.pt false 0 (.pt false 0 (.st (.pair (.st (.pair (.sl false 65 (.st (.pair (.int .i64) (.st (.pair (.int .i64) (.int .i64)))))) (.pair (.sl false 44 (.st (.pair (.int .i64) (.pair (.int .i64) (.pair (.int .i64) (.pair (.int .i64) (.pair (.int .i64) .str))))))) (.sl false 69 (.st (.pair (.int .i64) (.int .i64))))))) (.pair (.sl false 32 (.sl false 2 (.int .i64))) (.pair (.sl false 32 (.sl false 2 (.int .i64))) (.mp false (.st (.pair (.int .i64) (.int .i64))) .bool)))))))
abbrev sh37:Sh:=(.fn 65 (.pair (.pt false 0 (.pt false 0 (.st (.pair (.st (.pair (.sl false 65 (.st (.pair (.int .i64) (.st (.pair (.int .i64) (.int .i64)))))) (.pair (.sl false 44 (.st (.pair (.int .i64) (.pair (.int .i64) (.pair (.int .i64) (.pair (.int .i64) (.pair (.int .i64) .str))))))) (.sl false 69 (.st (.pair (.int .i64) (.int .i64))))))) (.pair (.sl false 32 (.sl false 2 (.int .i64))) (.pair (.sl false 32 (.sl false 2 (.int .i64))) (.mp false (.st (.pair (.int .i64) (.int .i64))) .bool))))))) (.pair (.pt false 0 (.int .i64)) .unit)))
abbrev sh38:Sh:=(.pt true 70 (.pt false 0 (.st (.pair (.st (.pair (.sl false 65 (.st (.pair (.int .i64) (.st (.pair (.int .i64) (.int .i64)))))) (.pair (.sl false 44 (.st (.pair (.int .i64) (.pair (.int .i64) (.pair (.int .i64) (.pair (.int .i64) (.pair (.int .i64) .str))))))) (.sl false 69 (.st (.pair (.int .i64) (.int .i64))))))) (.pair (.sl false 32 (.sl false 2 (.int .i64))) (.pair (.sl false 32 (.sl false 2 (.int .i64))) (.mp false (.st (.pair (.int .i64) (.int .i64))) .bool)))))))
abbrev sh39:Sh:=(.pt true 34 (.st (.pair .bool (.pair (.sl true 2 (.int .i64)) (.pair (.int .i64) (.int .i64))))))
abbrev sh40:Sh:=(.pt true 32 (.sl true 2 (.int .i64)))
abbrev sh41:Sh:=(.st (.pair .bool (.pair (.sl true 2 (.int .i64)) (.pair (.int .i64) (.int .i64)))))
abbrev sh42:Sh:=(.pt true 34 (.st (.pair .bool (.pair (.sl false 2 (.int .i64)) (.pair (.int .i64) (.int .i64))))))
abbrev sh43:Sh:=(.st (.pair .bool (.pair (.sl false 2 (.int .i64)) (.pair (.int .i64) (.int .i64)))))
abbrev sh44:Sh:=(.pt true 88 (.st (.pair (.sl true 2 (.int .i64)) (.sl true 2 (.int .i64)))))
abbrev sh45:Sh:=(.st (.pair (.sl true 2 (.int .i64)) (.sl true 2 (.int .i64))))
abbrev sh46:Sh:=(.pt true 88 (.st (.pair (.sl false 2 (.int .i64)) (.sl false 2 (.int .i64)))))
abbrev sh47:Sh:=(.st (.pair (.sl false 2 (.int .i64)) (.sl false 2 (.int .i64))))
def tbl:Tbl:=[⟨2,.int .i64,1,8,(.int .i64)⟩,
 ⟨3,.int .i64,1,8,(.int .i64)⟩,
 ⟨4,.bool,1,1,.bool⟩,
 ⟨5,.int .u8,1,1,(.int .u8)⟩,
 ⟨9,.string,1,16,.str⟩,
 ⟨22,.slice 5,1,24,(.sl true 5 (.int .u8))⟩,
 ⟨24,.slice 65,1,24,(.sl true 65 (.st (.pair (.int .i64) (.st (.pair (.int .i64) (.int .i64))))))⟩,
 ⟨25,.slice 44,1,24,(.sl true 44 (.st (.pair (.int .i64) (.pair (.int .i64) (.pair (.int .i64) (.pair (.int .i64) (.pair (.int .i64) .str)))))))⟩,
 ⟨26,.slice 69,1,24,(.sl true 69 (.st (.pair (.int .i64) (.int .i64))))⟩,
 ⟨28,.struct [(24,0),(25,1),(26,2)],3,72,(.st (.pair (.sl true 65 (.st (.pair (.int .i64) (.st (.pair (.int .i64) (.int .i64)))))) (.pair (.sl true 44 (.st (.pair (.int .i64) (.pair (.int .i64) (.pair (.int .i64) (.pair (.int .i64) (.pair (.int .i64) .str))))))) (.sl true 69 (.st (.pair (.int .i64) (.int .i64)))))))⟩,
 ⟨32,.slice 2,1,24,(.sl true 2 (.int .i64))⟩,
 ⟨34,.struct [(4,0),(32,1),(2,2),(2,3)],4,48,(.st (.pair .bool (.pair (.sl true 2 (.int .i64)) (.pair (.int .i64) (.int .i64)))))⟩,
 ⟨44,.struct [(2,0),(2,1),(2,2),(2,3),(2,4),(9,5)],6,56,(.st (.pair (.int .i64) (.pair (.int .i64) (.pair (.int .i64) (.pair (.int .i64) (.pair (.int .i64) .str))))))⟩,
 ⟨58,.ptr 97,1,8,(.pt true 97 (.st (.pair (.sl false 5 (.int .u8)) (.pair (.int .i64) (.int .i64)))))⟩,
 ⟨63,.struct [(2,0),(2,1)],2,16,(.st (.pair (.int .i64) (.int .i64)))⟩,
 ⟨65,.struct [(2,0),(63,1)],3,24,(.st (.pair (.int .i64) (.st (.pair (.int .i64) (.int .i64)))))⟩,
 ⟨69,.struct [(2,0),(2,1)],2,16,(.st (.pair (.int .i64) (.int .i64)))⟩,
 ⟨70,.ptr 103,1,8,(.pt true 103 (.st (.pair (.st (.pair (.sl true 65 (.st (.pair (.int .i64) (.st (.pair (.int .i64) (.int .i64)))))) (.pair (.sl true 44 (.st (.pair (.int .i64) (.pair (.int .i64) (.pair (.int .i64) (.pair (.int .i64) (.pair (.int .i64) .str))))))) (.sl true 69 (.st (.pair (.int .i64) (.int .i64))))))) (.pair (.sl true 32 (.sl true 2 (.int .i64))) (.pair (.sl true 32 (.sl true 2 (.int .i64))) (.mp true (.st (.pair (.int .i64) (.int .i64))) .bool))))))⟩,
 ⟨83,.slice 32,1,24,(.sl true 32 (.sl true 2 (.int .i64)))⟩,
 ⟨88,.struct [(32,0),(32,1)],2,48,(.st (.pair (.sl true 2 (.int .i64)) (.sl true 2 (.int .i64))))⟩,
 ⟨97,.struct [(22,0),(3,1),(2,2)],3,40,(.st (.pair (.sl false 5 (.int .u8)) (.pair (.int .i64) (.int .i64))))⟩,
 ⟨100,.ptr 28,1,8,(.pt true 28 (.st (.pair (.sl true 65 (.st (.pair (.int .i64) (.st (.pair (.int .i64) (.int .i64)))))) (.pair (.sl true 44 (.st (.pair (.int .i64) (.pair (.int .i64) (.pair (.int .i64) (.pair (.int .i64) (.pair (.int .i64) .str))))))) (.sl true 69 (.st (.pair (.int .i64) (.int .i64))))))))⟩,
 ⟨101,.map 69 4,1,8,(.mp true (.st (.pair (.int .i64) (.int .i64))) .bool)⟩,
 ⟨103,.struct [(28,0),(83,3),(83,4),(101,5)],6,128,(.st (.pair (.st (.pair (.sl true 65 (.st (.pair (.int .i64) (.st (.pair (.int .i64) (.int .i64)))))) (.pair (.sl true 44 (.st (.pair (.int .i64) (.pair (.int .i64) (.pair (.int .i64) (.pair (.int .i64) (.pair (.int .i64) .str))))))) (.sl true 69 (.st (.pair (.int .i64) (.int .i64))))))) (.pair (.sl true 32 (.sl true 2 (.int .i64))) (.pair (.sl true 32 (.sl true 2 (.int .i64))) (.mp true (.st (.pair (.int .i64) (.int .i64))) .bool)))))⟩,
 ⟨105,.slice 4,1,24,(.sl true 4 .bool)⟩,
 ⟨106,.ptr 109,1,8,(.pt true 109 (.st (.pair (.sl true 112 (.st (.pair (.int .i64) (.pair (.int .i64) (.int .i64))))) .unit)))⟩,
 ⟨107,.slice 112,1,24,(.sl true 112 (.st (.pair (.int .i64) (.pair (.int .i64) (.int .i64)))))⟩,
 ⟨109,.struct [(107,0)],1,24,(.st (.pair (.sl true 112 (.st (.pair (.int .i64) (.pair (.int .i64) (.int .i64))))) .unit))⟩,
 ⟨112,.struct [(2,0),(2,1),(2,2)],3,24,(.st (.pair (.int .i64) (.pair (.int .i64) (.int .i64))))⟩,
 ⟨123,.slice 142,1,24,(.sl true 142 (.st (.pair (.int .i64) (.pair (.st (.pair (.int .i64) (.int .i64))) (.sl false 154 (.st (.pair .str .str)))))))⟩,
 ⟨124,.slice 144,1,24,(.sl true 144 (.st (.pair (.int .i64) (.pair (.sl false 2 (.int .i64)) (.sl false 154 (.st (.pair .str .str)))))))⟩,
 ⟨125,.slice 160,1,24,(.sl true 160 (.st (.pair (.int .i64) (.pair (.sl true 164 (.st (.pair (.int .i64) .bool))) (.sl true 154 (.st (.pair .str .str)))))))⟩,
 ⟨127,.struct [(123,0),(124,1),(125,2)],3,72,(.st (.pair (.sl true 142 (.st (.pair (.int .i64) (.pair (.st (.pair (.int .i64) (.int .i64))) (.sl false 154 (.st (.pair .str .str))))))) (.pair (.sl true 144 (.st (.pair (.int .i64) (.pair (.sl false 2 (.int .i64)) (.sl false 154 (.st (.pair .str .str))))))) (.sl true 160 (.st (.pair (.int .i64) (.pair (.sl true 164 (.st (.pair (.int .i64) .bool))) (.sl true 154 (.st (.pair .str .str))))))))))⟩,
 ⟨139,.slice 154,1,24,(.sl true 154 (.st (.pair .str .str)))⟩,
 ⟨142,.struct [(2,0),(63,1),(139,3)],4,48,(.st (.pair (.int .i64) (.pair (.st (.pair (.int .i64) (.int .i64))) (.sl true 154 (.st (.pair .str .str))))))⟩,
 ⟨144,.struct [(2,0),(32,1),(139,2)],3,56,(.st (.pair (.int .i64) (.pair (.sl true 2 (.int .i64)) (.sl true 154 (.st (.pair .str .str))))))⟩,
 ⟨152,.slice 9,1,24,(.sl true 9 .str)⟩,
 ⟨154,.struct [(9,0),(9,1)],2,32,(.st (.pair .str .str))⟩,
 ⟨158,.slice 164,1,24,(.sl true 164 (.st (.pair (.int .i64) .bool)))⟩,
 ⟨160,.struct [(2,0),(158,1),(139,2)],3,56,(.st (.pair (.int .i64) (.pair (.sl true 164 (.st (.pair (.int .i64) .bool))) (.sl true 154 (.st (.pair .str .str))))))⟩,
 ⟨164,.struct [(2,0),(4,1)],2,16,(.st (.pair (.int .i64) .bool))⟩]
theorem tok:TOk Try.prog tbl:=by unfold TOk; kernel_rfl
abbrev iS:Sh:=.int .i64
section
variable {w0:World} {Wr Zi:Fp} {N:Fr} {S S':SS} {a:Act} {w:World} {Q:Exit→Act→World→Prop} {id:Nat} {ops:Array Oper} {rest:Code} {c:List Prop}
theorem zc (orc:Nat→List TV) (l:List Nat) (h:Rel w0 Wr Zi N S a w) (hc:AllP c) (hr:∀ a w,Rel w0 Wr Zi N (regS tbl Try.prog N orc [] ops l S) a w→rest.wp Try.prog Q a w) (e:regC tbl Try.prog N orc [] ops l S=c:=by kernel_rfl):((Code.region id ops false).seq rest).wp Try.prog Q a w:=wp_reg_seq tok nw h e hc hr
theorem zd (orc:Nat→List TV) (l:List Nat) (h:Rel w0 Wr Zi N S a w) (hc:AllP c) (hr:∀ a w,Rel w0 Wr Zi N (regS tbl Try.prog N orc [] ops l S) a w→Q .normal a w) (e:regC tbl Try.prog N orc [] ops l S=c:=by kernel_rfl):(Code.region id ops false).wp Try.prog Q a w:=wp_reg tok nw h e hc hr
theorem zs (l:List Nat) (h:Rel w0 Wr Zi N S a w) (hc:AllP c) (hr:∀ a w,Rel w0 Wr Zi N (regS tbl Try.prog N o0 [] ops l S) a w→rest.wp Try.prog Q a w) (e:regC tbl Try.prog N o0 [] ops l S=c:=by kernel_rfl):((Code.region id ops false).seq rest).wp Try.prog Q a w:=wp_reg_seq tok nw h e hc hr
theorem zt (l:List Nat) (h:Rel w0 Wr Zi N S a w) (hc:AllP c) (hr:∀ a w,Rel w0 Wr Zi N (regS tbl Try.prog N o0 [] ops l S) a w→Q .normal a w) (e:regC tbl Try.prog N o0 [] ops l S=c:=by kernel_rfl):(Code.region id ops false).wp Try.prog Q a w:=wp_reg tok nw h e hc hr
theorem ar (h:Rel w0 Wr Zi N S a w) (l:List Nat) (e:arr [] l S=some S':=by kernel_rfl):Rel w0 Wr Zi N S' a w:=h.arrive nw e
theorem zi {α:Type} {t:Nat} {x y:Code} {b:Bool} {X Y:α} {r:α} (h:Rel w0 Wr Zi N S a w) (hF:(if b=true then X else Y)=r) (h1:X=r→x.wp Try.prog Q a w) (h2:Y=r→y.wp Try.prog Q a w) (hb:boolAt S t=some b:=by kernel_rfl):(Code.cond (.tmp t) x y).wp Try.prog Q a w:=wp_if h hb (fun hb => h1 (of_t hb hF)) (fun hb => h2 (of_f hb hF))
end
def f7 (k:Nat) (x0:(List Int)):Option Bool:=some (decide (((List.length x0:Int):Int) > (1048576:Int)))
theorem c7 (k:Nat) (x0:(List Int)) (r:Bool) (hF:f7 k x0=some r):PCall Try.prog 7 [⟨(.sl false 5 (.int .u8)),x0⟩] [⟨.bool,r⟩]:=by
 refine pcall_intro Try.func7 rfl rfl (Nat.le_of_ble_eq_true rfl) ?_
 intro w0 Zi a w h
 rw [f7] at hF
 refine zs [0] h an fun a w h => ?_
 refine zs [2] h an fun a w h => ?_
 cases hF
 exact wp_ret (ret_okR tok h rfl (by kernel_rfl)).1
def f31.l16 (k:Nat) (x0:(List Int)):Nat → (Int × Int)→Option ((List Int) × (Int × Int))
 | 0,_ => none
 | m16+1,(v27,v28) => if (decide (v28 < (List.length x0:Int))) then (if (0≤v28∧v28 < (List.length x0:Int)) then ((f31.l16 k x0) m16 ((Go.bits .and .i64 (IntKind.i64.wrap ((IntKind.i64.wrap ((IntKind.i64.wrap (v27 * (149:Int))) + (IntKind.i64.wrap (List.getD x0 (Int.toNat v28) (0:Int))))) + (3:Int))) (1073741823:Int)),(IntKind.i64.wrap (v28 + (1:Int))))) else none) else (some (x0,((0:Int),v27)))
def f31 (k:Nat) (x0:(List Int)):Option ((List Int) × (Int × Int)):=f31.l16 k x0 k ((IntKind.i64.wrap ((90001:Int) + (List.length x0:Int))),(0:Int))
theorem c31 (k:Nat) (x0:(List Int)) (r:((List Int) × (Int × Int))) (hF:f31 k x0=some r):PCall Try.prog 31 [⟨(.sl false 5 (.int .u8)),x0⟩] [⟨sh0,some r⟩]:=by
 refine pcall_intro Try.func31 rfl rfl (Nat.le_of_ble_eq_true rfl) ?_
 intro w0 Zi a w h
 rw [f31] at hF
 refine zs [0] h an fun a w h => ?_
 refine zs [0,3] h an fun a w h => ?_
 refine wp_seq ?_
 refine zs [0,3,4] h an fun a w h => ?_
 refine wp_block ?_
 refine wp_loop_fuel (f31.l16 k x0) (fun ((v27,v28):(Int × Int)) => [(0,.val (.sl false 5 (.int .u8)) x0),(3,.val iS v27),(4,.val iS v28)]) (fun v h => by obtain ⟨v27,v28⟩:=v; rw [f31.l16] at h; cases h) ?_ hF (ar h [0,3,4])
 intro m16 v a w hF h
 obtain ⟨v27,v28⟩:=v
 rw [f31.l16] at hF
 refine wp_seq ?_
 refine zs [0,3,4,11] h an fun a w h => ?_
 refine zi h hF (fun hF => ?_) (fun hF => ?_)
 ·refine wp_skip ?_
  refine wp_seq <| wp_block ?_
  obtain ⟨hc30,hF⟩:=of_if hF
  refine zt [0,3,4] h (ac hc30 an) fun a w h => ?_
  refine zt [0,3,4] h an fun a w h => ?_
  exact ⟨((Go.bits .and .i64 (w64 ((w64 ((w64 (v27 * (149:Int))) + (w64 (gD x0 (tZ v28) iO)))) + (3:Int))) (1073741823:Int)),(w64 (v28 + (1:Int)))),hF,ar h [0,3,4]⟩
 ·refine wp_exit ?_
  refine zs [2] h an fun a w h => ?_
  cases hF
  exact wp_ret (ret_okR tok h rfl (by kernel_rfl)).1
def f77.j6 (k:Nat) (x0:((List Int) × (Int × Int))):(Int × Int)→Option (Int × ((List Int) × (Int × Int)))
 | (v4,v5) => some (v5,(x0.1,(v4,(IntKind.i64.wrap ((IntKind.i64.wrap (x0.2.2 * (6364136223846793005:Int))) + (1442695040888963407:Int))))))
def f77 (k:Nat) (x0:((List Int) × (Int × Int))):Option (Int × ((List Int) × (Int × Int))):=if ((0:Int) ≤ (33:Int)) then (if ((0:Int) ≤ (45:Int)) then (if (decide (x0.2.1 < (List.length x0.1:Int))) then (if (0≤x0.2.1∧x0.2.1 < (List.length x0.1:Int)) then ((some ((Go.bits .and .i64 (IntKind.i64.wrap ((Go.bits .and .i64 (Go.bits .xor .i64 (Int.fdiv (IntKind.i64.wrap ((IntKind.i64.wrap (x0.2.2 * (6364136223846793005:Int))) + (1442695040888963407:Int))) (2 ^ (min (Int.toNat (33:Int)) IntKind.i64.bits))) (Int.fdiv (IntKind.i64.wrap ((IntKind.i64.wrap (x0.2.2 * (6364136223846793005:Int))) + (1442695040888963407:Int))) (2 ^ (min (Int.toNat (45:Int)) IntKind.i64.bits)))) (255:Int)) + (IntKind.i64.wrap (List.getD x0.1 (Int.toNat x0.2.1) (0:Int))))) (255:Int)):Int)).bind fun v7 => (f77.j6 k x0 ((IntKind.i64.wrap (x0.2.1 + (1:Int))),v7))) else none) else (f77.j6 k x0 (x0.2.1,(Go.bits .and .i64 (Go.bits .xor .i64 (Int.fdiv (IntKind.i64.wrap ((IntKind.i64.wrap (x0.2.2 * (6364136223846793005:Int))) + (1442695040888963407:Int))) (2 ^ (min (Int.toNat (33:Int)) IntKind.i64.bits))) (Int.fdiv (IntKind.i64.wrap ((IntKind.i64.wrap (x0.2.2 * (6364136223846793005:Int))) + (1442695040888963407:Int))) (2 ^ (min (Int.toNat (45:Int)) IntKind.i64.bits)))) (255:Int))))) else none) else none
theorem c77 (k:Nat) (x0:((List Int) × (Int × Int))) (r:(Int × ((List Int) × (Int × Int)))) (hF:f77 k x0=some r):PMut Try.prog 77 [⟨sh0,some x0⟩] [⟨iS,r.1⟩] (List.set [⟨sh0,some x0⟩] 0 ⟨sh0,some r.2⟩):=by
 refine pmutO_intro (j:=0) (fin:=⟨sh0,some r.2⟩) Try.func77 rfl rfl (Nat.le_of_ble_eq_true rfl) (Nat.le_of_ble_eq_true rfl) (by kernel_rfl) (by kernel_rfl) ?_
 intro w0 Zi f0 v0 hw a w h
 rw [f77] at hF
 refine wp_reg_seq tok (orc:=o0) (fz:=[]) (l:=[0]) (.inl rfl) h (by kernel_rfl) an fun a w h => ?_
 refine wp_reg_seq tok (orc:=o0) (fz:=[]) (l:=[0]) (.inl rfl) h (by kernel_rfl) an fun a w h => ?_
 obtain ⟨hc10,hF⟩:=of_if hF
 obtain ⟨hc11,hF⟩:=of_if hF
 refine wp_regy_seq tok (orc:=o0) (fz:=[]) (l:=[0,3]) ([],[],[],[]) 13 (.inl rfl) h (by kernel_rfl) (by kernel_rfl) (ac hc10 (ac hc11 an)) fun a w h => ?_
 refine wp_seq ?_
 refine wp_regy_seq tok (orc:=o0) (fz:=[]) (l:=[0,3,34]) ([],[],[],[]) 10 (.inl rfl) h (by kernel_rfl) (by kernel_rfl) an fun a w h => ?_
 refine wp_midT (fun a w => ∃ v:(Int × Int),f77.j6 k x0 v=some r∧Rel w0 f0 Zi ⟨Try.f77.ntmps,[0],fun _ => v0⟩ ((fun ((v4,v5):(Int × Int)) => ([(0,.val sh0 (some (x0.1,(v4,(w64 ((w64 (x0.2.2 * (6364136223846793005:Int))) + (1442695040888963407:Int))))))),(3,.val iS v5)]:SS)) v) a w) ?_ ?_
 ·
  refine zi h hF (fun hF => ?_) (fun hF => ?_)
  ·obtain ⟨hc9,hF⟩:=of_if hF
   refine wp_regy_seq tok (orc:=o0) (fz:=[]) (l:=[0,3]) ([],[],[],[]) 15 (.inl rfl) h (by kernel_rfl) (by kernel_rfl) (ac hc9 an) fun a w h => ?_
   obtain ⟨v7,hv8,hF⟩:=of_bind hF
   replace h:=h.cast (S':=[(0,.val sh0 (some (x0.1,(x0.2.1,(w64 ((w64 (x0.2.2 * (6364136223846793005:Int))) + (1442695040888963407:Int))))))),(3,.val iS v7)]) (by cases hv8; kernel_rfl)
   refine wp_reg tok (orc:=o0) (fz:=[]) (l:=[0,3]) (.inl rfl) h (by kernel_rfl) an fun a w h => ?_
   exact ⟨((w64 (x0.2.1 + (1:Int))),v7),hF,h.arrive (fz:=[]) (l:=[0,3]) (.inl rfl) (by kernel_rfl)⟩
  ·refine wp_skip ?_
   exact ⟨(x0.2.1,(Go.bits .and .i64 (Go.bits .xor .i64 (Int.fdiv (w64 ((w64 (x0.2.2 * (6364136223846793005:Int))) + (1442695040888963407:Int))) (2 ^ (min (tZ (33:Int)) IntKind.i64.bits))) (Int.fdiv (w64 ((w64 (x0.2.2 * (6364136223846793005:Int))) + (1442695040888963407:Int))) (2 ^ (min (tZ (45:Int)) IntKind.i64.bits)))) (255:Int))),hF,h.arrive (fz:=[]) (l:=[0,3]) (.inl rfl) (by kernel_rfl)⟩
 ·rintro a w ⟨v,hF,h⟩
  obtain ⟨v4,v5⟩:=v
  rw [f77.j6] at hF
  refine wp_reg_seq tok (orc:=o0) (fz:=[]) (l:=[0,2]) (.inl rfl) h (by kernel_rfl) an fun a w h => ?_
  cases hF
  exact wp_ret (retO_ok tok h rfl (by kernel_rfl)).1
def f54 (k:Nat) (x0:((List Int) × (Int × Int))) (x1:Int):Option (Int × ((List Int) × (Int × Int))):=if (decide (x1 ≤ (0:Int))) then (some ((0:Int),x0)) else (if (decide (x1 ≤ (256:Int))) then ((f77 k x0).bind fun r4 => (if (x1≠0) then (some ((Int.tmod r4.1 x1),r4.2)) else none)) else ((f77 k x0).bind fun r7 => ((f77 k r7.2).bind fun r8 => ((f77 k r8.2).bind fun r9 => ((f77 k r9.2).bind fun r10 => (if (x1≠0) then (some ((Int.tmod (IntKind.i64.wrap ((IntKind.i64.wrap ((IntKind.i64.wrap ((IntKind.i64.wrap (r7.1 * (16777216:Int))) + (IntKind.i64.wrap (r8.1 * (65536:Int))))) + (IntKind.i64.wrap (r9.1 * (256:Int)))))+r10.1)) x1),r10.2)) else none))))))
theorem c54 (k:Nat) (x0:((List Int) × (Int × Int))) (x1:Int) (r:(Int × ((List Int) × (Int × Int)))) (hF:f54 k x0 x1=some r):PMut Try.prog 54 [⟨sh0,some x0⟩,⟨iS,x1⟩] [⟨iS,r.1⟩] (List.set [⟨sh0,some x0⟩,⟨iS,x1⟩] 0 ⟨sh0,some r.2⟩):=by
 refine pmutO_intro (j:=0) (fin:=⟨sh0,some r.2⟩) Try.func54 rfl rfl (Nat.le_of_ble_eq_true rfl) (Nat.le_of_ble_eq_true rfl) (by kernel_rfl) (by kernel_rfl) ?_
 intro w0 Zi f0 v0 hw a w h
 rw [f54] at hF
 refine wp_reg_seq tok (orc:=o0) (fz:=[]) (l:=[0,1]) (.inl rfl) h (by kernel_rfl) an fun a w h => ?_
 refine wp_seq ?_
 refine wp_reg_seq tok (orc:=o0) (fz:=[]) (l:=[0,1,10]) (.inl rfl) h (by kernel_rfl) an fun a w h => ?_
 refine zi h hF (fun hF => ?_) (fun hF => ?_)
 ·refine wp_reg_seq tok (orc:=o0) (fz:=[]) (l:=[0,4]) (.inl rfl) h (by kernel_rfl) an fun a w h => ?_
  cases hF
  exact wp_ret (retO_ok tok h rfl (by kernel_rfl)).1
 ·refine wp_skip ?_
  refine wp_seq ?_
  refine wp_reg_seq tok (orc:=o0) (fz:=[]) (l:=[0,1,12]) (.inl rfl) h (by kernel_rfl) an fun a w h => ?_
  refine zi h hF (fun hF => ?_) (fun hF => ?_)
  ·obtain ⟨r4,hr5,hF⟩:=of_bind hF
   obtain ⟨hc6,hF⟩:=of_if hF
   refine wp_reg_seq tok (orc:=orcL [(14,[⟨.pt false 4294967295 (.pt true 97 (.st (.pair (.sl false 5 (.int .u8)) (.pair iS iS)))),some (some r4.2)⟩,⟨iS,r4.1⟩])]) (fz:=[]) (l:=[0,4]) (.inl rfl) h (by kernel_rfl) (ac (c77 k x0 r4 hr5) (ac hc6 an)) fun a w h => ?_
   cases hF
   exact wp_ret (retO_ok tok h rfl (by kernel_rfl)).1
  ·refine wp_skip ?_
   obtain ⟨r7,hr15,hF⟩:=of_bind hF
   refine wp_reg_seq tok (orc:=orcL [(18,[⟨.pt false 4294967295 (.pt true 97 (.st (.pair (.sl false 5 (.int .u8)) (.pair iS iS)))),some (some r7.2)⟩,⟨iS,r7.1⟩])]) (fz:=[]) (l:=[0,1,5]) (.inl rfl) h (by kernel_rfl) (ac (c77 k x0 r7 hr15) an) fun a w h => ?_
   obtain ⟨r8,hr14,hF⟩:=of_bind hF
   refine wp_reg_seq tok (orc:=orcL [(20,[⟨.pt false 4294967295 (.pt true 97 (.st (.pair (.sl false 5 (.int .u8)) (.pair iS iS)))),some (some r8.2)⟩,⟨iS,r8.1⟩])]) (fz:=[]) (l:=[0,1,5,6]) (.inl rfl) h (by kernel_rfl) (ac (c77 k r7.2 r8 hr14) an) fun a w h => ?_
   obtain ⟨r9,hr13,hF⟩:=of_bind hF
   refine wp_reg_seq tok (orc:=orcL [(22,[⟨.pt false 4294967295 (.pt true 97 (.st (.pair (.sl false 5 (.int .u8)) (.pair iS iS)))),some (some r9.2)⟩,⟨iS,r9.1⟩])]) (fz:=[]) (l:=[0,1,5,6,7]) (.inl rfl) h (by kernel_rfl) (ac (c77 k r8.2 r9 hr13) an) fun a w h => ?_
   obtain ⟨r10,hr12,hF⟩:=of_bind hF
   refine wp_reg_seq tok (orc:=orcL [(24,[⟨.pt false 4294967295 (.pt true 97 (.st (.pair (.sl false 5 (.int .u8)) (.pair iS iS)))),some (some r10.2)⟩,⟨iS,r10.1⟩])]) (fz:=[]) (l:=[0,1,5,6,7,8]) (.inl rfl) h (by kernel_rfl) (ac (c77 k r9.2 r10 hr12) an) fun a w h => ?_
   obtain ⟨hc11,hF⟩:=of_if hF
   refine wp_reg_seq tok (orc:=o0) (fz:=[]) (l:=[0,4]) (.inl rfl) h (by kernel_rfl) (ac hc11 an) fun a w h => ?_
   cases hF
   exact wp_ret (retO_ok tok h rfl (by kernel_rfl)).1
def f61 (k:Nat) (x0:((List Int) × (Int × Int))) (x1:Int):Option (Bool × ((List Int) × (Int × Int))):=(f54 k x0 x1).bind fun r1 => (some ((r1.1 == (0:Int)),r1.2))
theorem c61 (k:Nat) (x0:((List Int) × (Int × Int))) (x1:Int) (r:(Bool × ((List Int) × (Int × Int)))) (hF:f61 k x0 x1=some r):PMut Try.prog 61 [⟨sh0,some x0⟩,⟨iS,x1⟩] [⟨.bool,r.1⟩] (List.set [⟨sh0,some x0⟩,⟨iS,x1⟩] 0 ⟨sh0,some r.2⟩):=by
 refine pmutO_intro (j:=0) (fin:=⟨sh0,some r.2⟩) Try.func61 rfl rfl (Nat.le_of_ble_eq_true rfl) (Nat.le_of_ble_eq_true rfl) (by kernel_rfl) (by kernel_rfl) ?_
 intro w0 Zi f0 v0 hw a w h
 rw [f61] at hF
 refine wp_reg_seq tok (orc:=o0) (fz:=[]) (l:=[0,1]) (.inl rfl) h (by kernel_rfl) an fun a w h => ?_
 obtain ⟨r1,hr2,hF⟩:=of_bind hF
 refine wp_reg_seq tok (orc:=orcL [(7,[⟨.pt false 4294967295 (.pt true 97 (.st (.pair (.sl false 5 (.int .u8)) (.pair iS iS)))),some (some r1.2)⟩,⟨iS,r1.1⟩])]) (fz:=[]) (l:=[0,4]) (.inl rfl) h (by kernel_rfl) (ac (c54 k x0 x1 r1 hr2) an) fun a w h => ?_
 cases hF
 exact wp_ret (retO_ok tok h rfl (by kernel_rfl)).1
def f95.j45 (k:Nat):(((List Int) × (Int × Int)) × (List (ByteArray × ByteArray)))→Option ((List (ByteArray × ByteArray)) × ((List Int) × (Int × Int)))
 | (v43,v44) => some (v44,v43)
def f95.j95 (k:Nat):(((List Int) × (Int × Int)) × (List (ByteArray × ByteArray)))→Option ((List (ByteArray × ByteArray)) × ((List Int) × (Int × Int)))
 | (v93,v94) => some (v94,v93)
def f95.j87 (k:Nat):(((List Int) × (Int × Int)) × (List (ByteArray × ByteArray)))→Option ((List (ByteArray × ByteArray)) × ((List Int) × (Int × Int)))
 | (v85,v86) => (f61 k v85 (5:Int)).bind fun r88 => (if r88.1 then ((f54 k r88.2 (3:Int)).bind fun r96 => (if (0≤r96.1∧r96.1 < (List.length [(⟨#[121,101,115]⟩:ByteArray),(⟨#[45,49]⟩:ByteArray),(⟨#[110,111]⟩:ByteArray)]:Int)) then (if ((List.length v86+List.length [((⟨#[111,110,101,119,97,121]⟩:ByteArray),(List.getD [(⟨#[121,101,115]⟩:ByteArray),(⟨#[45,49]⟩:ByteArray),(⟨#[110,111]⟩:ByteArray)] (Int.toNat r96.1) (⟨#[]⟩:ByteArray)))])*32≤140737488355328) then (f95.j95 k (r96.2,(v86 ++ [((⟨#[111,110,101,119,97,121]⟩:ByteArray),(List.getD [(⟨#[121,101,115]⟩:ByteArray),(⟨#[45,49]⟩:ByteArray),(⟨#[110,111]⟩:ByteArray)] (Int.toNat r96.1) (⟨#[]⟩:ByteArray)))]))) else none) else none)) else (f95.j95 k (r88.2,v86)))
def f95.j79 (k:Nat):(((List Int) × (Int × Int)) × (List (ByteArray × ByteArray)))→Option ((List (ByteArray × ByteArray)) × ((List Int) × (Int × Int)))
 | (v77,v78) => (f61 k v77 (3:Int)).bind fun r80 => (if (!r80.1) then ((f54 k r80.2 (4:Int)).bind fun r101 => (if (0≤r101.1∧r101.1 < (List.length [(⟨#[72,105,103,104,32,83,116,114,101,101,116]⟩:ByteArray),(⟨#[77,105,108,108,32,76,97,110,101]⟩:ByteArray),(⟨#[82,105,110,103,32,82,111,97,100]⟩:ByteArray),(⟨#[81,117,97,121]⟩:ByteArray)]:Int)) then (if ((List.length v78+List.length [((⟨#[110,97,109,101]⟩:ByteArray),(List.getD [(⟨#[72,105,103,104,32,83,116,114,101,101,116]⟩:ByteArray),(⟨#[77,105,108,108,32,76,97,110,101]⟩:ByteArray),(⟨#[82,105,110,103,32,82,111,97,100]⟩:ByteArray),(⟨#[81,117,97,121]⟩:ByteArray)] (Int.toNat r101.1) (⟨#[]⟩:ByteArray)))])*32≤140737488355328) then (f95.j87 k (r101.2,(v78 ++ [((⟨#[110,97,109,101]⟩:ByteArray),(List.getD [(⟨#[72,105,103,104,32,83,116,114,101,101,116]⟩:ByteArray),(⟨#[77,105,108,108,32,76,97,110,101]⟩:ByteArray),(⟨#[82,105,110,103,32,82,111,97,100]⟩:ByteArray),(⟨#[81,117,97,121]⟩:ByteArray)] (Int.toNat r101.1) (⟨#[]⟩:ByteArray)))]))) else none) else none)) else (f95.j87 k (r80.2,v78)))
def f95.j71 (k:Nat) (r68:(Bool × ((List Int) × (Int × Int)))):(List (ByteArray × ByteArray))→Option ((List (ByteArray × ByteArray)) × ((List Int) × (Int × Int)))
 | v70 => (f61 k r68.2 (3:Int)).bind fun r72 => (if r72.1 then ((f54 k r72.2 (4:Int)).bind fun r106 => (if (0≤r106.1∧r106.1 < (List.length [(⟨#[53]⟩:ByteArray),(⟨#[49,50]⟩:ByteArray),(⟨#[51,48]⟩:ByteArray),(⟨#[102,97,115,116]⟩:ByteArray)]:Int)) then (if ((List.length v70+List.length [((⟨#[109,97,120,115,112,101,101,100]⟩:ByteArray),(List.getD [(⟨#[53]⟩:ByteArray),(⟨#[49,50]⟩:ByteArray),(⟨#[51,48]⟩:ByteArray),(⟨#[102,97,115,116]⟩:ByteArray)] (Int.toNat r106.1) (⟨#[]⟩:ByteArray)))])*32≤140737488355328) then (f95.j79 k (r106.2,(v70 ++ [((⟨#[109,97,120,115,112,101,101,100]⟩:ByteArray),(List.getD [(⟨#[53]⟩:ByteArray),(⟨#[49,50]⟩:ByteArray),(⟨#[51,48]⟩:ByteArray),(⟨#[102,97,115,116]⟩:ByteArray)] (Int.toNat r106.1) (⟨#[]⟩:ByteArray)))]))) else none) else none)) else (f95.j79 k (r72.2,v70)))
def f95.j66 (k:Nat):(((List Int) × (Int × Int)) × (List (ByteArray × ByteArray)))→Option ((List (ByteArray × ByteArray)) × ((List Int) × (Int × Int)))
 | (v64,v65) => (f54 k v64 (5:Int)).bind fun r67 => (if (0≤r67.1∧r67.1 < (List.length [(⟨#[109,97,105,110]⟩:ByteArray),(⟨#[115,116,114,101,101,116]⟩:ByteArray),(⟨#[112,97,116,104]⟩:ByteArray),(⟨#[115,116,114,101,101,116]⟩:ByteArray),(⟨#[109,111,116,111,114,119,97,121]⟩:ByteArray)]:Int)) then (if ((List.length v65+List.length [((⟨#[104,105,103,104,119,97,121]⟩:ByteArray),(List.getD [(⟨#[109,97,105,110]⟩:ByteArray),(⟨#[115,116,114,101,101,116]⟩:ByteArray),(⟨#[112,97,116,104]⟩:ByteArray),(⟨#[115,116,114,101,101,116]⟩:ByteArray),(⟨#[109,111,116,111,114,119,97,121]⟩:ByteArray)] (Int.toNat r67.1) (⟨#[]⟩:ByteArray)))])*32≤140737488355328) then ((f61 k r67.2 (8:Int)).bind fun r68 => (if r68.1 then (if ((List.length (v65 ++ [((⟨#[104,105,103,104,119,97,121]⟩:ByteArray),(List.getD [(⟨#[109,97,105,110]⟩:ByteArray),(⟨#[115,116,114,101,101,116]⟩:ByteArray),(⟨#[112,97,116,104]⟩:ByteArray),(⟨#[115,116,114,101,101,116]⟩:ByteArray),(⟨#[109,111,116,111,114,119,97,121]⟩:ByteArray)] (Int.toNat r67.1) (⟨#[]⟩:ByteArray)))])+List.length [((⟨#[106,117,110,99,116,105,111,110]⟩:ByteArray),(⟨#[114,105,110,103]⟩:ByteArray))])*32≤140737488355328) then (f95.j71 k r68 ((v65 ++ [((⟨#[104,105,103,104,119,97,121]⟩:ByteArray),(List.getD [(⟨#[109,97,105,110]⟩:ByteArray),(⟨#[115,116,114,101,101,116]⟩:ByteArray),(⟨#[112,97,116,104]⟩:ByteArray),(⟨#[115,116,114,101,101,116]⟩:ByteArray),(⟨#[109,111,116,111,114,119,97,121]⟩:ByteArray)] (Int.toNat r67.1) (⟨#[]⟩:ByteArray)))]) ++ [((⟨#[106,117,110,99,116,105,111,110]⟩:ByteArray),(⟨#[114,105,110,103]⟩:ByteArray))])) else none) else (f95.j71 k r68 (v65 ++ [((⟨#[104,105,103,104,119,97,121]⟩:ByteArray),(List.getD [(⟨#[109,97,105,110]⟩:ByteArray),(⟨#[115,116,114,101,101,116]⟩:ByteArray),(⟨#[112,97,116,104]⟩:ByteArray),(⟨#[115,116,114,101,101,116]⟩:ByteArray),(⟨#[109,111,116,111,114,119,97,121]⟩:ByteArray)] (Int.toNat r67.1) (⟨#[]⟩:ByteArray)))])))) else none) else none)
def f95 (k:Nat) (x0:((List Int) × (Int × Int))) (x1:Int):Option ((List (ByteArray × ByteArray)) × ((List Int) × (Int × Int))):=if (x1 == (1:Int)) then ((f61 k x0 (3:Int)).bind fun r30 => (if r30.1 then ((f54 k r30.2 (5:Int)).bind fun r46 => (if (0≤r46.1∧r46.1 < (List.length [(⟨#[79,108,100,32,77,105,108,108]⟩:ByteArray),(⟨#[78,111,114,116,104,32,71,97,116,101]⟩:ByteArray),(⟨#[83,116,97,116,105,111,110]⟩:ByteArray),(⟨#[77,105,108,108,32,76,97,110,101,32,52]⟩:ByteArray),(⟨#[82,101,100,32,76,105,111,110]⟩:ByteArray)]:Int)) then (if ((List.length ([]:List (ByteArray × ByteArray))+List.length [((⟨#[110,97,109,101]⟩:ByteArray),(List.getD [(⟨#[79,108,100,32,77,105,108,108]⟩:ByteArray),(⟨#[78,111,114,116,104,32,71,97,116,101]⟩:ByteArray),(⟨#[83,116,97,116,105,111,110]⟩:ByteArray),(⟨#[77,105,108,108,32,76,97,110,101,32,52]⟩:ByteArray),(⟨#[82,101,100,32,76,105,111,110]⟩:ByteArray)] (Int.toNat r46.1) (⟨#[]⟩:ByteArray)))])*32≤140737488355328) then ((f61 k r46.2 (2:Int)).bind fun r47 => (if r47.1 then ((f54 k r47.2 (3:Int)).bind fun r48 => (if (0≤r48.1∧r48.1 < (List.length [(⟨#[116,111,119,110]⟩:ByteArray),(⟨#[118,105,108,108,97,103,101]⟩:ByteArray),(⟨#[115,104,111,112]⟩:ByteArray)]:Int)) then (if ((List.length (([]:List (ByteArray × ByteArray)) ++ [((⟨#[110,97,109,101]⟩:ByteArray),(List.getD [(⟨#[79,108,100,32,77,105,108,108]⟩:ByteArray),(⟨#[78,111,114,116,104,32,71,97,116,101]⟩:ByteArray),(⟨#[83,116,97,116,105,111,110]⟩:ByteArray),(⟨#[77,105,108,108,32,76,97,110,101,32,52]⟩:ByteArray),(⟨#[82,101,100,32,76,105,111,110]⟩:ByteArray)] (Int.toNat r46.1) (⟨#[]⟩:ByteArray)))])+List.length [((⟨#[112,108,97,99,101]⟩:ByteArray),(List.getD [(⟨#[116,111,119,110]⟩:ByteArray),(⟨#[118,105,108,108,97,103,101]⟩:ByteArray),(⟨#[115,104,111,112]⟩:ByteArray)] (Int.toNat r48.1) (⟨#[]⟩:ByteArray)))])*32≤140737488355328) then ((some (((([]:List (ByteArray × ByteArray)) ++ [((⟨#[110,97,109,101]⟩:ByteArray),(List.getD [(⟨#[79,108,100,32,77,105,108,108]⟩:ByteArray),(⟨#[78,111,114,116,104,32,71,97,116,101]⟩:ByteArray),(⟨#[83,116,97,116,105,111,110]⟩:ByteArray),(⟨#[77,105,108,108,32,76,97,110,101,32,52]⟩:ByteArray),(⟨#[82,101,100,32,76,105,111,110]⟩:ByteArray)] (Int.toNat r46.1) (⟨#[]⟩:ByteArray)))]) ++ [((⟨#[112,108,97,99,101]⟩:ByteArray),(List.getD [(⟨#[116,111,119,110]⟩:ByteArray),(⟨#[118,105,108,108,97,103,101]⟩:ByteArray),(⟨#[115,104,111,112]⟩:ByteArray)] (Int.toNat r48.1) (⟨#[]⟩:ByteArray)))]):(List (ByteArray × ByteArray)))).bind fun v49 => (f95.j45 k (r48.2,v49))) else none) else none)) else (f95.j45 k (r47.2,(([]:List (ByteArray × ByteArray)) ++ [((⟨#[110,97,109,101]⟩:ByteArray),(List.getD [(⟨#[79,108,100,32,77,105,108,108]⟩:ByteArray),(⟨#[78,111,114,116,104,32,71,97,116,101]⟩:ByteArray),(⟨#[83,116,97,116,105,111,110]⟩:ByteArray),(⟨#[77,105,108,108,32,76,97,110,101,32,52]⟩:ByteArray),(⟨#[82,101,100,32,76,105,111,110]⟩:ByteArray)] (Int.toNat r46.1) (⟨#[]⟩:ByteArray)))]))))) else none) else none)) else (f95.j45 k (r30.2,([]:List (ByteArray × ByteArray)))))) else ((f61 k x0 (6:Int)).bind fun r59 => (if r59.1 then ((f54 k r59.2 (3:Int)).bind fun r116 => (if (0≤r116.1∧r116.1 < (List.length [(⟨#[110,111]⟩:ByteArray),(⟨#[112,114,105,118,97,116,101]⟩:ByteArray),(⟨#[121,101,115]⟩:ByteArray)]:Int)) then (if ((List.length ([]:List (ByteArray × ByteArray))+List.length [((⟨#[97,99,99,101,115,115]⟩:ByteArray),(List.getD [(⟨#[110,111]⟩:ByteArray),(⟨#[112,114,105,118,97,116,101]⟩:ByteArray),(⟨#[121,101,115]⟩:ByteArray)] (Int.toNat r116.1) (⟨#[]⟩:ByteArray)))])*32≤140737488355328) then (f95.j66 k (r116.2,(([]:List (ByteArray × ByteArray)) ++ [((⟨#[97,99,99,101,115,115]⟩:ByteArray),(List.getD [(⟨#[110,111]⟩:ByteArray),(⟨#[112,114,105,118,97,116,101]⟩:ByteArray),(⟨#[121,101,115]⟩:ByteArray)] (Int.toNat r116.1) (⟨#[]⟩:ByteArray)))]))) else none) else none)) else (f95.j66 k (r59.2,([]:List (ByteArray × ByteArray))))))
theorem c95 (k:Nat) (x0:((List Int) × (Int × Int))) (x1:Int) (r:((List (ByteArray × ByteArray)) × ((List Int) × (Int × Int)))) (hF:f95 k x0 x1=some r):PMut Try.prog 95 [⟨sh0,some x0⟩,⟨iS,x1⟩] [⟨sh1,r.1⟩] (List.set [⟨sh0,some x0⟩,⟨iS,x1⟩] 0 ⟨sh0,some r.2⟩):=by
 refine pmutO_intro (j:=0) (fin:=⟨sh0,some r.2⟩) Try.func95 rfl rfl (Nat.le_of_ble_eq_true rfl) (Nat.le_of_ble_eq_true rfl) (by kernel_rfl) (by kernel_rfl) ?_
 intro w0 Zi f0 v0 hw a w h
 rw [f95] at hF
 refine wp_reg_seq tok (orc:=o0) (fz:=[]) (l:=[0,1]) (.inl rfl) h (by kernel_rfl) an fun a w h => ?_
 refine wp_reg_seq tok (orc:=o0) (fz:=[]) (l:=[0,1,5]) (.inl rfl) h (by kernel_rfl) an fun a w h => ?_
 refine wp_seq ?_
 refine wp_reg_seq tok (orc:=o0) (fz:=[]) (l:=[0,5,8]) (.inl rfl) h (by kernel_rfl) an fun a w h => ?_
 refine zi h hF (fun hF => ?_) (fun hF => ?_)
 ·refine wp_seq ?_
  obtain ⟨r30,hr58,hF⟩:=of_bind hF
  refine wp_reg_seq tok (orc:=orcL [(10,[⟨.pt false 4294967295 (.pt true 97 (.st (.pair (.sl false 5 (.int .u8)) (.pair iS iS)))),some (some r30.2)⟩,⟨.bool,r30.1⟩])]) (fz:=[]) (l:=[0,5,10]) (.inl rfl) h (by kernel_rfl) (ac (c61 k x0 (3:Int) r30 hr58) an) fun a w h => ?_
  refine wp_midT (fun a w => ∃ v:(((List Int) × (Int × Int)) × (List (ByteArray × ByteArray))),f95.j45 k v=some r∧Rel w0 f0 Zi ⟨Try.f95.ntmps,[0],fun _ => v0⟩ ((fun ((v43,v44):(((List Int) × (Int × Int)) × (List (ByteArray × ByteArray)))) => ([(0,.val sh0 (some v43)),(5,.val sh1 v44)]:SS)) v) a w) ?_ ?_
  ·
   refine zi h hF (fun hF => ?_) (fun hF => ?_)
   ·obtain ⟨r46,hr55,hF⟩:=of_bind hF
    obtain ⟨hc56,hF⟩:=of_if hF
    obtain ⟨hc57,hF⟩:=of_if hF
    refine wp_reg_seq tok (orc:=orcL [(14,[⟨.pt false 4294967295 (.pt true 97 (.st (.pair (.sl false 5 (.int .u8)) (.pair iS iS)))),some (some r46.2)⟩,⟨iS,r46.1⟩])]) (fz:=[]) (l:=[0,5]) (.inl rfl) h (by kernel_rfl) (ac (c54 k r30.2 (5:Int) r46 hr55) (ac hc56 (ac hc57 an))) fun a w h => ?_
    obtain ⟨r47,hr54,hF⟩:=of_bind hF
    refine wp_reg_seq tok (orc:=orcL [(21,[⟨.pt false 4294967295 (.pt true 97 (.st (.pair (.sl false 5 (.int .u8)) (.pair iS iS)))),some (some r47.2)⟩,⟨.bool,r47.1⟩])]) (fz:=[]) (l:=[0,5,21]) (.inl rfl) h (by kernel_rfl) (ac (c61 k r46.2 (2:Int) r47 hr54) an) fun a w h => ?_
    refine zi h hF (fun hF => ?_) (fun hF => ?_)
    ·obtain ⟨r48,hr51,hF⟩:=of_bind hF
     obtain ⟨hc52,hF⟩:=of_if hF
     obtain ⟨hc53,hF⟩:=of_if hF
     refine wp_reg tok (orc:=orcL [(25,[⟨.pt false 4294967295 (.pt true 97 (.st (.pair (.sl false 5 (.int .u8)) (.pair iS iS)))),some (some r48.2)⟩,⟨iS,r48.1⟩])]) (fz:=[]) (l:=[0,5]) (.inl rfl) h (by kernel_rfl) (ac (c54 k r47.2 (3:Int) r48 hr51) (ac hc52 (ac hc53 an))) fun a w h => ?_
     obtain ⟨v49,hv50,hF⟩:=of_bind hF
     replace h:=h.cast (S':=[(0,.val sh0 (some r48.2)),(5,.val sh1 v49)]) (by cases hv50; kernel_rfl)
     exact ⟨(r48.2,v49),hF,h.arrive (fz:=[]) (l:=[0,5]) (.inl rfl) (by kernel_rfl)⟩
    ·refine wp_skip ?_
     exact ⟨(r47.2,(([]:List (ByteArray × ByteArray)) ++ [((⟨#[110,97,109,101]⟩:ByteArray),(gD [(⟨#[79,108,100,32,77,105,108,108]⟩:ByteArray),(⟨#[78,111,114,116,104,32,71,97,116,101]⟩:ByteArray),(⟨#[83,116,97,116,105,111,110]⟩:ByteArray),(⟨#[77,105,108,108,32,76,97,110,101,32,52]⟩:ByteArray),(⟨#[82,101,100,32,76,105,111,110]⟩:ByteArray)] (tZ r46.1) (⟨#[]⟩:ByteArray)))])),hF,h.arrive (fz:=[]) (l:=[0,5]) (.inl rfl) (by kernel_rfl)⟩
   ·refine wp_skip ?_
    exact ⟨(r30.2,([]:List (ByteArray × ByteArray))),hF,h.arrive (fz:=[]) (l:=[0,5]) (.inl rfl) (by kernel_rfl)⟩
  ·rintro a w ⟨v,hF,h⟩
   obtain ⟨v43,v44⟩:=v
   rw [f95.j45] at hF
   refine wp_reg_seq tok (orc:=o0) (fz:=[]) (l:=[0,4,5]) (.inl rfl) h (by kernel_rfl) an fun a w h => ?_
   cases hF
   exact wp_ret (retO_ok tok h rfl (by kernel_rfl)).1
 ·refine wp_skip ?_
  refine wp_seq ?_
  obtain ⟨r59,hr120,hF⟩:=of_bind hF
  refine wp_reg_seq tok (orc:=orcL [(33,[⟨.pt false 4294967295 (.pt true 97 (.st (.pair (.sl false 5 (.int .u8)) (.pair iS iS)))),some (some r59.2)⟩,⟨.bool,r59.1⟩])]) (fz:=[]) (l:=[0,5,33]) (.inl rfl) h (by kernel_rfl) (ac (c61 k x0 (6:Int) r59 hr120) an) fun a w h => ?_
  refine wp_midT (fun a w => ∃ v:(((List Int) × (Int × Int)) × (List (ByteArray × ByteArray))),f95.j66 k v=some r∧Rel w0 f0 Zi ⟨Try.f95.ntmps,[0],fun _ => v0⟩ ((fun ((v64,v65):(((List Int) × (Int × Int)) × (List (ByteArray × ByteArray)))) => ([(0,.val sh0 (some v64)),(5,.val sh1 v65)]:SS)) v) a w) ?_ ?_
  ·
   refine zi h hF (fun hF => ?_) (fun hF => ?_)
   ·obtain ⟨r116,hr117,hF⟩:=of_bind hF
    obtain ⟨hc118,hF⟩:=of_if hF
    obtain ⟨hc119,hF⟩:=of_if hF
    refine wp_reg tok (orc:=orcL [(37,[⟨.pt false 4294967295 (.pt true 97 (.st (.pair (.sl false 5 (.int .u8)) (.pair iS iS)))),some (some r116.2)⟩,⟨iS,r116.1⟩])]) (fz:=[]) (l:=[0,5]) (.inl rfl) h (by kernel_rfl) (ac (c54 k r59.2 (3:Int) r116 hr117) (ac hc118 (ac hc119 an))) fun a w h => ?_
    exact ⟨(r116.2,(([]:List (ByteArray × ByteArray)) ++ [((⟨#[97,99,99,101,115,115]⟩:ByteArray),(gD [(⟨#[110,111]⟩:ByteArray),(⟨#[112,114,105,118,97,116,101]⟩:ByteArray),(⟨#[121,101,115]⟩:ByteArray)] (tZ r116.1) (⟨#[]⟩:ByteArray)))])),hF,h.arrive (fz:=[]) (l:=[0,5]) (.inl rfl) (by kernel_rfl)⟩
   ·refine wp_skip ?_
    exact ⟨(r59.2,([]:List (ByteArray × ByteArray))),hF,h.arrive (fz:=[]) (l:=[0,5]) (.inl rfl) (by kernel_rfl)⟩
  ·rintro a w ⟨v,hF,h⟩
   obtain ⟨v64,v65⟩:=v
   rw [f95.j66] at hF
   obtain ⟨r67,hr113,hF⟩:=of_bind hF
   obtain ⟨hc114,hF⟩:=of_if hF
   obtain ⟨hc115,hF⟩:=of_if hF
   refine wp_reg_seq tok (orc:=orcL [(46,[⟨.pt false 4294967295 (.pt true 97 (.st (.pair (.sl false 5 (.int .u8)) (.pair iS iS)))),some (some r67.2)⟩,⟨iS,r67.1⟩])]) (fz:=[]) (l:=[0,5]) (.inl rfl) h (by kernel_rfl) (ac (c54 k v64 (5:Int) r67 hr113) (ac hc114 (ac hc115 an))) fun a w h => ?_
   refine wp_seq ?_
   obtain ⟨r68,hr112,hF⟩:=of_bind hF
   refine wp_reg_seq tok (orc:=orcL [(53,[⟨.pt false 4294967295 (.pt true 97 (.st (.pair (.sl false 5 (.int .u8)) (.pair iS iS)))),some (some r68.2)⟩,⟨.bool,r68.1⟩])]) (fz:=[]) (l:=[0,5,53]) (.inl rfl) h (by kernel_rfl) (ac (c61 k r67.2 (8:Int) r68 hr112) an) fun a w h => ?_
   refine wp_midT (fun a w => ∃ v:(List (ByteArray × ByteArray)),f95.j71 k r68 v=some r∧Rel w0 f0 Zi ⟨Try.f95.ntmps,[0],fun _ => v0⟩ ((fun (v70:(List (ByteArray × ByteArray))) => ([(0,.val sh0 (some r68.2)),(5,.val sh1 v70)]:SS)) v) a w) ?_ ?_
   ·
    refine zi h hF (fun hF => ?_) (fun hF => ?_)
    ·obtain ⟨hc111,hF⟩:=of_if hF
     refine wp_reg tok (orc:=o0) (fz:=[]) (l:=[0,5]) (.inl rfl) h (by kernel_rfl) (ac hc111 an) fun a w h => ?_
     exact ⟨((v65 ++ [((⟨#[104,105,103,104,119,97,121]⟩:ByteArray),(gD [(⟨#[109,97,105,110]⟩:ByteArray),(⟨#[115,116,114,101,101,116]⟩:ByteArray),(⟨#[112,97,116,104]⟩:ByteArray),(⟨#[115,116,114,101,101,116]⟩:ByteArray),(⟨#[109,111,116,111,114,119,97,121]⟩:ByteArray)] (tZ r67.1) (⟨#[]⟩:ByteArray)))]) ++ [((⟨#[106,117,110,99,116,105,111,110]⟩:ByteArray),(⟨#[114,105,110,103]⟩:ByteArray))]),hF,h.arrive (fz:=[]) (l:=[0,5]) (.inl rfl) (by kernel_rfl)⟩
    ·refine wp_skip ?_
     exact ⟨(v65 ++ [((⟨#[104,105,103,104,119,97,121]⟩:ByteArray),(gD [(⟨#[109,97,105,110]⟩:ByteArray),(⟨#[115,116,114,101,101,116]⟩:ByteArray),(⟨#[112,97,116,104]⟩:ByteArray),(⟨#[115,116,114,101,101,116]⟩:ByteArray),(⟨#[109,111,116,111,114,119,97,121]⟩:ByteArray)] (tZ r67.1) (⟨#[]⟩:ByteArray)))]),hF,h.arrive (fz:=[]) (l:=[0,5]) (.inl rfl) (by kernel_rfl)⟩
   ·rintro a w ⟨v70,hF,h⟩
    rw [f95.j71] at hF
    refine wp_seq ?_
    obtain ⟨r72,hr110,hF⟩:=of_bind hF
    refine wp_reg_seq tok (orc:=orcL [(59,[⟨.pt false 4294967295 (.pt true 97 (.st (.pair (.sl false 5 (.int .u8)) (.pair iS iS)))),some (some r72.2)⟩,⟨.bool,r72.1⟩])]) (fz:=[]) (l:=[0,5,59]) (.inl rfl) h (by kernel_rfl) (ac (c61 k r68.2 (3:Int) r72 hr110) an) fun a w h => ?_
    refine wp_midT (fun a w => ∃ v:(((List Int) × (Int × Int)) × (List (ByteArray × ByteArray))),f95.j79 k v=some r∧Rel w0 f0 Zi ⟨Try.f95.ntmps,[0],fun _ => v0⟩ ((fun ((v77,v78):(((List Int) × (Int × Int)) × (List (ByteArray × ByteArray)))) => ([(0,.val sh0 (some v77)),(5,.val sh1 v78)]:SS)) v) a w) ?_ ?_
    ·
     refine zi h hF (fun hF => ?_) (fun hF => ?_)
     ·obtain ⟨r106,hr107,hF⟩:=of_bind hF
      obtain ⟨hc108,hF⟩:=of_if hF
      obtain ⟨hc109,hF⟩:=of_if hF
      refine wp_reg tok (orc:=orcL [(63,[⟨.pt false 4294967295 (.pt true 97 (.st (.pair (.sl false 5 (.int .u8)) (.pair iS iS)))),some (some r106.2)⟩,⟨iS,r106.1⟩])]) (fz:=[]) (l:=[0,5]) (.inl rfl) h (by kernel_rfl) (ac (c54 k r72.2 (4:Int) r106 hr107) (ac hc108 (ac hc109 an))) fun a w h => ?_
      exact ⟨(r106.2,(v70 ++ [((⟨#[109,97,120,115,112,101,101,100]⟩:ByteArray),(gD [(⟨#[53]⟩:ByteArray),(⟨#[49,50]⟩:ByteArray),(⟨#[51,48]⟩:ByteArray),(⟨#[102,97,115,116]⟩:ByteArray)] (tZ r106.1) (⟨#[]⟩:ByteArray)))])),hF,h.arrive (fz:=[]) (l:=[0,5]) (.inl rfl) (by kernel_rfl)⟩
     ·refine wp_skip ?_
      exact ⟨(r72.2,v70),hF,h.arrive (fz:=[]) (l:=[0,5]) (.inl rfl) (by kernel_rfl)⟩
    ·rintro a w ⟨v,hF,h⟩
     obtain ⟨v77,v78⟩:=v
     rw [f95.j79] at hF
     refine wp_seq ?_
     obtain ⟨r80,hr105,hF⟩:=of_bind hF
     refine wp_reg_seq tok (orc:=orcL [(70,[⟨.pt false 4294967295 (.pt true 97 (.st (.pair (.sl false 5 (.int .u8)) (.pair iS iS)))),some (some r80.2)⟩,⟨.bool,r80.1⟩])]) (fz:=[]) (l:=[0,5,71]) (.inl rfl) h (by kernel_rfl) (ac (c61 k v77 (3:Int) r80 hr105) an) fun a w h => ?_
     refine wp_midT (fun a w => ∃ v:(((List Int) × (Int × Int)) × (List (ByteArray × ByteArray))),f95.j87 k v=some r∧Rel w0 f0 Zi ⟨Try.f95.ntmps,[0],fun _ => v0⟩ ((fun ((v85,v86):(((List Int) × (Int × Int)) × (List (ByteArray × ByteArray)))) => ([(0,.val sh0 (some v85)),(5,.val sh1 v86)]:SS)) v) a w) ?_ ?_
     ·
      refine zi h hF (fun hF => ?_) (fun hF => ?_)
      ·obtain ⟨r101,hr102,hF⟩:=of_bind hF
       obtain ⟨hc103,hF⟩:=of_if hF
       obtain ⟨hc104,hF⟩:=of_if hF
       refine wp_reg tok (orc:=orcL [(75,[⟨.pt false 4294967295 (.pt true 97 (.st (.pair (.sl false 5 (.int .u8)) (.pair iS iS)))),some (some r101.2)⟩,⟨iS,r101.1⟩])]) (fz:=[]) (l:=[0,5]) (.inl rfl) h (by kernel_rfl) (ac (c54 k r80.2 (4:Int) r101 hr102) (ac hc103 (ac hc104 an))) fun a w h => ?_
       exact ⟨(r101.2,(v78 ++ [((⟨#[110,97,109,101]⟩:ByteArray),(gD [(⟨#[72,105,103,104,32,83,116,114,101,101,116]⟩:ByteArray),(⟨#[77,105,108,108,32,76,97,110,101]⟩:ByteArray),(⟨#[82,105,110,103,32,82,111,97,100]⟩:ByteArray),(⟨#[81,117,97,121]⟩:ByteArray)] (tZ r101.1) (⟨#[]⟩:ByteArray)))])),hF,h.arrive (fz:=[]) (l:=[0,5]) (.inl rfl) (by kernel_rfl)⟩
      ·refine wp_skip ?_
       exact ⟨(r80.2,v78),hF,h.arrive (fz:=[]) (l:=[0,5]) (.inl rfl) (by kernel_rfl)⟩
     ·rintro a w ⟨v,hF,h⟩
      obtain ⟨v85,v86⟩:=v
      rw [f95.j87] at hF
      refine wp_seq ?_
      obtain ⟨r88,hr100,hF⟩:=of_bind hF
      refine wp_reg_seq tok (orc:=orcL [(82,[⟨.pt false 4294967295 (.pt true 97 (.st (.pair (.sl false 5 (.int .u8)) (.pair iS iS)))),some (some r88.2)⟩,⟨.bool,r88.1⟩])]) (fz:=[]) (l:=[0,5,82]) (.inl rfl) h (by kernel_rfl) (ac (c61 k v85 (5:Int) r88 hr100) an) fun a w h => ?_
      refine wp_midT (fun a w => ∃ v:(((List Int) × (Int × Int)) × (List (ByteArray × ByteArray))),f95.j95 k v=some r∧Rel w0 f0 Zi ⟨Try.f95.ntmps,[0],fun _ => v0⟩ ((fun ((v93,v94):(((List Int) × (Int × Int)) × (List (ByteArray × ByteArray)))) => ([(0,.val sh0 (some v93)),(5,.val sh1 v94)]:SS)) v) a w) ?_ ?_
      ·
       refine zi h hF (fun hF => ?_) (fun hF => ?_)
       ·obtain ⟨r96,hr97,hF⟩:=of_bind hF
        obtain ⟨hc98,hF⟩:=of_if hF
        obtain ⟨hc99,hF⟩:=of_if hF
        refine wp_reg tok (orc:=orcL [(86,[⟨.pt false 4294967295 (.pt true 97 (.st (.pair (.sl false 5 (.int .u8)) (.pair iS iS)))),some (some r96.2)⟩,⟨iS,r96.1⟩])]) (fz:=[]) (l:=[0,5]) (.inl rfl) h (by kernel_rfl) (ac (c54 k r88.2 (3:Int) r96 hr97) (ac hc98 (ac hc99 an))) fun a w h => ?_
        exact ⟨(r96.2,(v86 ++ [((⟨#[111,110,101,119,97,121]⟩:ByteArray),(gD [(⟨#[121,101,115]⟩:ByteArray),(⟨#[45,49]⟩:ByteArray),(⟨#[110,111]⟩:ByteArray)] (tZ r96.1) (⟨#[]⟩:ByteArray)))])),hF,h.arrive (fz:=[]) (l:=[0,5]) (.inl rfl) (by kernel_rfl)⟩
       ·refine wp_skip ?_
        exact ⟨(r88.2,v86),hF,h.arrive (fz:=[]) (l:=[0,5]) (.inl rfl) (by kernel_rfl)⟩
      ·rintro a w ⟨v,hF,h⟩
       obtain ⟨v93,v94⟩:=v
       rw [f95.j95] at hF
       refine wp_reg_seq tok (orc:=o0) (fz:=[]) (l:=[0,4,5]) (.inl rfl) h (by kernel_rfl) an fun a w h => ?_
       cases hF
       exact wp_ret (retO_ok tok h rfl (by kernel_rfl)).1
def f96.j4 (k:Nat) (x2:Int) (x1:Int) (r1:(Int × ((List Int) × (Int × Int)))):(Int × Int)→Option (Int × ((List Int) × (Int × Int)))
 | (v2,v3) => if (bif (bif (bif (decide (v2 < (0:Int))) then true else (decide (v2 ≥ x2))) then true else (decide (v3 < (0:Int)))) then true else (decide (v3 ≥ x2))) then (some (x1,r1.2)) else (some ((IntKind.i64.wrap ((IntKind.i64.wrap (v3*x2))+v2)),r1.2))
def f96 (k:Nat) (x0:((List Int) × (Int × Int))) (x1:Int) (x2:Int):Option (Int × ((List Int) × (Int × Int))):=if (x2≠0) then (if (x2≠0) then ((f54 k x0 (4:Int)).bind fun r1 => (if (r1.1 == (0:Int)) then (f96.j4 k x2 x1 r1 ((IntKind.i64.wrap ((Int.tmod x1 x2) + (1:Int))),(IntKind.i64.wrap (Int.tdiv x1 x2)))) else (if (r1.1 == (1:Int)) then (f96.j4 k x2 x1 r1 ((IntKind.i64.wrap ((Int.tmod x1 x2) - (1:Int))),(IntKind.i64.wrap (Int.tdiv x1 x2)))) else (if (r1.1 == (2:Int)) then (f96.j4 k x2 x1 r1 ((Int.tmod x1 x2),(IntKind.i64.wrap ((IntKind.i64.wrap (Int.tdiv x1 x2)) + (1:Int))))) else (f96.j4 k x2 x1 r1 ((Int.tmod x1 x2),(IntKind.i64.wrap ((IntKind.i64.wrap (Int.tdiv x1 x2)) - (1:Int))))))))) else none) else none
theorem c96 (k:Nat) (x0:((List Int) × (Int × Int))) (x1:Int) (x2:Int) (r:(Int × ((List Int) × (Int × Int)))) (hF:f96 k x0 x1 x2=some r):PMut Try.prog 96 [⟨sh0,some x0⟩,⟨iS,x1⟩,⟨iS,x2⟩] [⟨iS,r.1⟩] (List.set [⟨sh0,some x0⟩,⟨iS,x1⟩,⟨iS,x2⟩] 0 ⟨sh0,some r.2⟩):=by
 refine pmutO_intro (j:=0) (fin:=⟨sh0,some r.2⟩) Try.func96 rfl rfl (Nat.le_of_ble_eq_true rfl) (Nat.le_of_ble_eq_true rfl) (by kernel_rfl) (by kernel_rfl) ?_
 intro w0 Zi f0 v0 hw a w h
 rw [f96] at hF
 refine wp_reg_seq tok (orc:=o0) (fz:=[]) (l:=[0,1,2]) (.inl rfl) h (by kernel_rfl) an fun a w h => ?_
 obtain ⟨hc7,hF⟩:=of_if hF
 refine wp_reg_seq tok (orc:=o0) (fz:=[]) (l:=[0,1,2,7]) (.inl rfl) h (by kernel_rfl) (ac hc7 an) fun a w h => ?_
 obtain ⟨hc6,hF⟩:=of_if hF
 refine wp_reg_seq tok (orc:=o0) (fz:=[]) (l:=[0,1,2,7,8]) (.inl rfl) h (by kernel_rfl) (ac hc6 an) fun a w h => ?_
 refine wp_seq ?_
 obtain ⟨r1,hr5,hF⟩:=of_bind hF
 refine wp_reg_seq tok (orc:=orcL [(16,[⟨.pt false 4294967295 (.pt true 97 (.st (.pair (.sl false 5 (.int .u8)) (.pair iS iS)))),some (some r1.2)⟩,⟨iS,r1.1⟩])]) (fz:=[]) (l:=[0,1,2,7,8,16]) (.inl rfl) h (by kernel_rfl) (ac (c54 k x0 (4:Int) r1 hr5) an) fun a w h => ?_
 refine wp_midT (fun a w => ∃ v:(Int × Int),f96.j4 k x2 x1 r1 v=some r∧Rel w0 f0 Zi ⟨Try.f96.ntmps,[0],fun _ => v0⟩ ((fun ((v2,v3):(Int × Int)) => ([(0,.val sh0 (some r1.2)),(1,.val iS x1),(2,.val iS x2),(7,.val iS v2),(8,.val iS v3)]:SS)) v) a w) ?_ ?_
 ·
  refine wp_block ?_
  refine wp_reg_seq tok (orc:=o0) (fz:=[]) (l:=[0,1,2,7,8,16,19]) (.inl rfl) h (by kernel_rfl) an fun a w h => ?_
  refine zi h hF (fun hF => ?_) (fun hF => ?_)
  ·refine wp_reg tok (orc:=o0) (fz:=[]) (l:=[0,1,2,7,8]) (.inl rfl) h (by kernel_rfl) an fun a w h => ?_
   exact ⟨((w64 ((Int.tmod x1 x2) + (1:Int))),(w64 (Int.tdiv x1 x2))),hF,h.arrive (fz:=[]) (l:=[0,1,2,7,8]) (.inl rfl) (by kernel_rfl)⟩
  ·refine wp_reg_seq tok (orc:=o0) (fz:=[]) (l:=[0,1,2,7,8,16,23]) (.inl rfl) h (by kernel_rfl) an fun a w h => ?_
   refine zi h hF (fun hF => ?_) (fun hF => ?_)
   ·refine wp_reg tok (orc:=o0) (fz:=[]) (l:=[0,1,2,7,8]) (.inl rfl) h (by kernel_rfl) an fun a w h => ?_
    exact ⟨((w64 ((Int.tmod x1 x2) - (1:Int))),(w64 (Int.tdiv x1 x2))),hF,h.arrive (fz:=[]) (l:=[0,1,2,7,8]) (.inl rfl) (by kernel_rfl)⟩
   ·refine wp_reg_seq tok (orc:=o0) (fz:=[]) (l:=[0,1,2,7,8,27]) (.inl rfl) h (by kernel_rfl) an fun a w h => ?_
    refine zi h hF (fun hF => ?_) (fun hF => ?_)
    ·refine wp_reg tok (orc:=o0) (fz:=[]) (l:=[0,1,2,7,8]) (.inl rfl) h (by kernel_rfl) an fun a w h => ?_
     exact ⟨((Int.tmod x1 x2),(w64 ((w64 (Int.tdiv x1 x2)) + (1:Int)))),hF,h.arrive (fz:=[]) (l:=[0,1,2,7,8]) (.inl rfl) (by kernel_rfl)⟩
    ·refine wp_reg tok (orc:=o0) (fz:=[]) (l:=[0,1,2,7,8]) (.inl rfl) h (by kernel_rfl) an fun a w h => ?_
     exact ⟨((Int.tmod x1 x2),(w64 ((w64 (Int.tdiv x1 x2)) - (1:Int)))),hF,h.arrive (fz:=[]) (l:=[0,1,2,7,8]) (.inl rfl) (by kernel_rfl)⟩
 ·rintro a w ⟨v,hF,h⟩
  obtain ⟨v2,v3⟩:=v
  rw [f96.j4] at hF
  refine wp_seq ?_
  refine wp_reg_seq tok (orc:=o0) (fz:=[]) (l:=[0,1,2,7,8,46]) (.inl rfl) h (by kernel_rfl) an fun a w h => ?_
  refine zi h hF (fun hF => ?_) (fun hF => ?_)
  ·refine wp_reg_seq tok (orc:=o0) (fz:=[]) (l:=[0,6]) (.inl rfl) h (by kernel_rfl) an fun a w h => ?_
   cases hF
   exact wp_ret (retO_ok tok h rfl (by kernel_rfl)).1
  ·refine wp_skip ?_
   refine wp_reg_seq tok (orc:=o0) (fz:=[]) (l:=[0,6]) (.inl rfl) h (by kernel_rfl) an fun a w h => ?_
   cases hF
   exact wp_ret (retO_ok tok h rfl (by kernel_rfl)).1
def f82.j1555 (k:Nat) (v1427:Int) (q909:(((List Int) × (Int × Int)) × (List (Int × ((List Int) × (List (ByteArray × ByteArray))))) × Int)→Option (((List (Int × ((Int × Int) × (List (ByteArray × ByteArray))))) × ((List (Int × ((List Int) × (List (ByteArray × ByteArray))))) × (List (Int × ((List (Int × Bool)) × (List (ByteArray × ByteArray))))))) × ((List Int) × (Int × Int)))):(((List Int) × (Int × Int)) × (List (Int × ((List Int) × (List (ByteArray × ByteArray))))))→Option (((List (Int × ((Int × Int) × (List (ByteArray × ByteArray))))) × ((List (Int × ((List Int) × (List (ByteArray × ByteArray))))) × (List (Int × ((List (Int × Bool)) × (List (ByteArray × ByteArray))))))) × ((List Int) × (Int × Int)))
 | (v1553,v1554) => q909 (v1553,v1554,(IntKind.i64.wrap (v1427 + (1:Int))))
def f82.j1672 (k:Nat) (v1659:((List Int) × (Int × Int))) (v1661:Int) (r1:(Int × ((List Int) × (Int × Int)))) (v1662:Int) (q1618:(((List Int) × (Int × Int)) × (List Int) × Int × Int)→Option (((List (Int × ((Int × Int) × (List (ByteArray × ByteArray))))) × ((List (Int × ((List Int) × (List (ByteArray × ByteArray))))) × (List (Int × ((List (Int × Bool)) × (List (ByteArray × ByteArray))))))) × ((List Int) × (Int × Int)))):(List Int)→Option (((List (Int × ((Int × Int) × (List (ByteArray × ByteArray))))) × ((List (Int × ((List Int) × (List (ByteArray × ByteArray))))) × (List (Int × ((List (Int × Bool)) × (List (ByteArray × ByteArray))))))) × ((List Int) × (Int × Int)))
 | v1671 => (f96 k v1659 v1661 (IntKind.i64.wrap ((2:Int)+r1.1))).bind fun r1673 => (q1618 (r1673.2,v1671,r1673.1,(IntKind.i64.wrap (v1662 - (1:Int)))))
def f82.l1618 (k:Nat) (r1:(Int × ((List Int) × (Int × Int)))) (v1426:(List (Int × ((List Int) × (List (ByteArray × ByteArray)))))) (v1427:Int) (r1556:((List (ByteArray × ByteArray)) × ((List Int) × (Int × Int)))) (q1555:(((List Int) × (Int × Int)) × (List (Int × ((List Int) × (List (ByteArray × ByteArray))))))→Option (((List (Int × ((Int × Int) × (List (ByteArray × ByteArray))))) × ((List (Int × ((List Int) × (List (ByteArray × ByteArray))))) × (List (Int × ((List (Int × Bool)) × (List (ByteArray × ByteArray))))))) × ((List Int) × (Int × Int)))):Nat → (((List Int) × (Int × Int)) × (List Int) × Int × Int)→Option (((List (Int × ((Int × Int) × (List (ByteArray × ByteArray))))) × ((List (Int × ((List Int) × (List (ByteArray × ByteArray))))) × (List (Int × ((List (Int × Bool)) × (List (ByteArray × ByteArray))))))) × ((List Int) × (Int × Int)))
 | 0,_ => none
 | m1618+1,(v1659,v1660,v1661,v1662) => if (decide (v1662 ≥ (0:Int))) then (if (((((List.length v1660:Int):Int) == (0:Int))=false) → (0 ≤ (IntKind.i64.wrap ((List.length v1660:Int) - (1:Int))) ∧ (IntKind.i64.wrap ((List.length v1660:Int) - (1:Int))) < (List.length v1660:Int))) then (if (bif (((List.length v1660:Int):Int) == (0:Int)) then true else (((List.getD v1660 (Int.toNat (IntKind.i64.wrap ((List.length v1660:Int) - (1:Int)))) (0:Int)):Int) != (IntKind.i64.wrap ((1:Int)+v1661)))) then (if ((List.length v1660+List.length [(IntKind.i64.wrap ((1:Int)+v1661))])*8≤140737488355328) then (f82.j1672 k v1659 v1661 r1 v1662 ((f82.l1618 k r1 v1426 v1427 r1556 q1555) m1618) (List.append v1660 [(IntKind.i64.wrap ((1:Int)+v1661))])) else none) else (f82.j1672 k v1659 v1661 r1 v1662 ((f82.l1618 k r1 v1426 v1427 r1556 q1555) m1618) v1660)) else none) else (if (decide (((List.length v1660:Int):Int) > (1:Int))) then (if ((List.length v1426+List.length [((IntKind.i64.wrap ((100:Int)+v1427)),(v1660,r1556.1))])*56≤140737488355328) then (q1555 (v1659,(List.append v1426 [((IntKind.i64.wrap ((100:Int)+v1427)),(v1660,r1556.1))]))) else none) else (q1555 (v1659,v1426)))
def f82.l909 (k:Nat) (r136:(Int × ((List Int) × (Int × Int)))) (r1:(Int × ((List Int) × (Int × Int)))) (v116:(List (Int × ((Int × Int) × (List (ByteArray × ByteArray)))))):Nat → (((List Int) × (Int × Int)) × (List (Int × ((List Int) × (List (ByteArray × ByteArray))))) × Int)→Option (((List (Int × ((Int × Int) × (List (ByteArray × ByteArray))))) × ((List (Int × ((List Int) × (List (ByteArray × ByteArray))))) × (List (Int × ((List (Int × Bool)) × (List (ByteArray × ByteArray))))))) × ((List Int) × (Int × Int)))
 | 0,_ => none
 | m909+1,(v1425,v1426,v1427) => if (decide (v1427 < (IntKind.i64.wrap ((1:Int)+r136.1)))) then ((f95 k v1425 (2:Int)).bind fun r1556 => ((f54 k r1556.2 (IntKind.i64.wrap ((IntKind.i64.wrap ((2:Int)+r1.1)) * (IntKind.i64.wrap ((2:Int)+r1.1))))).bind fun r1557 => ((f54 k r1557.2 (6:Int)).bind fun r1558 => (f82.l1618 k r1 v1426 v1427 r1556 (f82.j1555 k v1427 ((f82.l909 k r136 r1 v116) m909)) k (r1558.2,([]:(List Int)),r1557.1,(IntKind.i64.wrap ((1:Int)+r1558.1))))))) else (some ((v116,(v1426,([]:(List (Int × ((List (Int × Bool)) × (List (ByteArray × ByteArray)))))))),v1425))
def f82.l69 (k:Nat) (r1:(Int × ((List Int) × (Int × Int)))):Nat → (((List Int) × (Int × Int)) × (List (Int × ((Int × Int) × (List (ByteArray × ByteArray))))) × Int)→Option (((List (Int × ((Int × Int) × (List (ByteArray × ByteArray))))) × ((List (Int × ((List Int) × (List (ByteArray × ByteArray))))) × (List (Int × ((List (Int × Bool)) × (List (ByteArray × ByteArray))))))) × ((List Int) × (Int × Int)))
 | 0,_ => none
 | m69+1,(v115,v116,v117) => if (decide (v117 < (IntKind.i64.wrap ((IntKind.i64.wrap ((2:Int)+r1.1)) * (IntKind.i64.wrap ((2:Int)+r1.1)))))) then (if (((IntKind.i64.wrap ((2:Int)+r1.1)):Int)≠0) then ((f54 k v115 (30:Int)).bind fun r127 => (if (((IntKind.i64.wrap ((2:Int)+r1.1)):Int)≠0) then ((f54 k r127.2 (30:Int)).bind fun r128 => ((f95 k r128.2 (1:Int)).bind fun r129 => (if ((List.length v116+List.length [((IntKind.i64.wrap ((1:Int)+v117)),(((IntKind.i64.wrap ((IntKind.i64.wrap ((100:Int) * (Int.tmod v117 (IntKind.i64.wrap ((2:Int)+r1.1)))))+r127.1)),(IntKind.i64.wrap ((IntKind.i64.wrap ((100:Int) * (IntKind.i64.wrap (Int.tdiv v117 (IntKind.i64.wrap ((2:Int)+r1.1))))))+r128.1))),r129.1))])*48≤140737488355328) then ((f82.l69 k r1) m69 (r129.2,(List.append v116 [((IntKind.i64.wrap ((1:Int)+v117)),(((IntKind.i64.wrap ((IntKind.i64.wrap ((100:Int) * (Int.tmod v117 (IntKind.i64.wrap ((2:Int)+r1.1)))))+r127.1)),(IntKind.i64.wrap ((IntKind.i64.wrap ((100:Int) * (IntKind.i64.wrap (Int.tdiv v117 (IntKind.i64.wrap ((2:Int)+r1.1))))))+r128.1))),r129.1))]),(IntKind.i64.wrap (v117 + (1:Int))))) else none))) else none)) else none) else ((f54 k v115 (9:Int)).bind fun r136 => (f82.l909 k r136 r1 v116 k (r136.2,([]:(List (Int × ((List Int) × (List (ByteArray × ByteArray)))))),(0:Int))))
def f82 (k:Nat) (x0:((List Int) × (Int × Int))):Option (((List (Int × ((Int × Int) × (List (ByteArray × ByteArray))))) × ((List (Int × ((List Int) × (List (ByteArray × ByteArray))))) × (List (Int × ((List (Int × Bool)) × (List (ByteArray × ByteArray))))))) × ((List Int) × (Int × Int))):=(f54 k x0 (4:Int)).bind fun r1 => (f82.l69 k r1 k (r1.2,([]:(List (Int × ((Int × Int) × (List (ByteArray × ByteArray)))))),(0:Int)))
theorem c82 (k:Nat) (x0:((List Int) × (Int × Int))) (r:(((List (Int × ((Int × Int) × (List (ByteArray × ByteArray))))) × ((List (Int × ((List Int) × (List (ByteArray × ByteArray))))) × (List (Int × ((List (Int × Bool)) × (List (ByteArray × ByteArray))))))) × ((List Int) × (Int × Int)))) (hF:f82 k x0=some r):PMut Try.prog 82 [⟨sh0,some x0⟩] [⟨sh9,r.1⟩] (List.set [⟨sh0,some x0⟩] 0 ⟨sh0,some r.2⟩):=by
 refine pmutO_intro (j:=0) (fin:=⟨sh0,some r.2⟩) Try.func82 rfl rfl (Nat.le_of_ble_eq_true rfl) (Nat.le_of_ble_eq_true rfl) (by kernel_rfl) (by kernel_rfl) ?_
 intro w0 Zi f0 v0 hw a w h
 rw [f82] at hF
 refine wp_reg_seq tok (orc:=o0) (fz:=[]) (l:=[0,2]) (.inl rfl) h (by kernel_rfl) an fun a w h => ?_
 refine wp_reg_seq tok (orc:=o0) (fz:=[]) (l:=[0,2,3]) (.inl rfl) h (by kernel_rfl) an fun a w h => ?_
 obtain ⟨r1,hr1682,hF⟩:=of_bind hF
 refine wp_reg_seq tok (orc:=orcL [(14,[⟨.pt false 4294967295 (.pt true 97 (.st (.pair (.sl false 5 (.int .u8)) (.pair iS iS)))),some (some r1.2)⟩,⟨iS,r1.1⟩])]) (fz:=[]) (l:=[0,2,3,4]) (.inl rfl) h (by kernel_rfl) (ac (c54 k x0 (4:Int) r1 hr1682) an) fun a w h => ?_
 refine wp_seq ?_
 refine wp_reg_seq tok (orc:=o0) (fz:=[]) (l:=[0,2,3,4,5]) (.inl rfl) h (by kernel_rfl) an fun a w h => ?_
 refine wp_block ?_
 refine wp_loop_fuel (f82.l69 k r1) (fun ((v115,v116,v117):(((List Int) × (Int × Int)) × (List (Int × ((Int × Int) × (List (ByteArray × ByteArray))))) × Int)) => [(0,.val sh0 (some v115)),(2,.val sh3 (some (([]:(List (Int × ((Int × Int) × (List (ByteArray × ByteArray)))))),(([]:(List (Int × ((List Int) × (List (ByteArray × ByteArray)))))),([]:(List (Int × ((List (Int × Bool)) × (List (ByteArray × ByteArray)))))))))),(3,.val sh3 (some (v116,(([]:(List (Int × ((List Int) × (List (ByteArray × ByteArray)))))),([]:(List (Int × ((List (Int × Bool)) × (List (ByteArray × ByteArray)))))))))),(4,.val iS (w64 ((2:Int)+r1.1))),(5,.val iS v117)]) (fun v h => by obtain ⟨v115,v116,v117⟩:=v; rw [f82.l69] at h; cases h) ?_ hF (h.arrive (fz:=[]) (l:=[0,2,3,4,5]) (.inl rfl) (by kernel_rfl))
 intro m69 v a w hF h
 obtain ⟨v115,v116,v117⟩:=v
 rw [f82.l69] at hF
 refine wp_seq ?_
 refine wp_reg_seq tok (orc:=o0) (fz:=[]) (l:=[0,2,3,4,5,20]) (.inl rfl) h (by kernel_rfl) an fun a w h => ?_
 refine zi h hF (fun hF => ?_) (fun hF => ?_)
 ·refine wp_skip ?_
  refine wp_seq <| wp_block ?_
  obtain ⟨hc132,hF⟩:=of_if hF
  obtain ⟨r127,hr133,hF⟩:=of_bind hF
  obtain ⟨hc134,hF⟩:=of_if hF
  obtain ⟨r128,hr135,hF⟩:=of_bind hF
  refine wp_regv_seq tok (orc:=orcL [(28,[⟨.pt false 4294967295 (.pt true 97 (.st (.pair (.sl false 5 (.int .u8)) (.pair iS iS)))),some (some r127.2)⟩,⟨iS,r127.1⟩]),(35,[⟨.pt false 4294967295 (.pt true 97 (.st (.pair (.sl false 5 (.int .u8)) (.pair iS iS)))),some (some r128.2)⟩,⟨iS,r128.1⟩])]) [((0,.val sh0 (some v115)),none,some 5),((0,.val sh0 (some r127.2)),some 5,some 12),((0,.val sh0 (some r128.2)),some 12,none),((2,.val sh3 (some (([]:(List (Int × ((Int × Int) × (List (ByteArray × ByteArray)))))),(([]:(List (Int × ((List Int) × (List (ByteArray × ByteArray)))))),([]:(List (Int × ((List (Int × Bool)) × (List (ByteArray × ByteArray)))))))))),none,none),((3,.val sh3 (some (v116,(([]:(List (Int × ((List Int) × (List (ByteArray × ByteArray)))))),([]:(List (Int × ((List (Int × Bool)) × (List (ByteArray × ByteArray)))))))))),none,none),((4,.val iS (w64 ((2:Int)+r1.1))),none,none),((5,.val iS v117),none,none),((6,.val sh4 (some (iO,iO))),some 15,some 16),((6,.val sh4 (some ((w64 ((w64 ((100:Int) * (Int.tmod v117 (w64 ((2:Int)+r1.1)))))+r127.1)),(w64 ((w64 ((100:Int) * (w64 (Int.tdiv v117 (w64 ((2:Int)+r1.1))))))+r128.1))))),some 16,none),((20,.val .bool (decide (v117 < (w64 ((w64 ((2:Int)+r1.1)) * (w64 ((2:Int)+r1.1))))))),none,some 16),((23,.val iS v117),some 0,some 16),((24,.val iS (w64 ((2:Int)+r1.1))),some 1,some 16),((25,.val iS (Int.tmod v117 (w64 ((2:Int)+r1.1)))),some 2,some 16),((26,.val iS (w64 ((100:Int) * (Int.tmod v117 (w64 ((2:Int)+r1.1)))))),some 3,some 16),((28,.val iS r127.1),some 5,some 16),((29,.val iS (w64 ((w64 ((100:Int) * (Int.tmod v117 (w64 ((2:Int)+r1.1)))))+r127.1))),some 6,some 16),((30,.val iS v117),some 7,some 16),((31,.val iS (w64 ((2:Int)+r1.1))),some 8,some 16),((32,.val iS (w64 (Int.tdiv v117 (w64 ((2:Int)+r1.1))))),some 9,some 16),((33,.val iS (w64 ((100:Int) * (w64 (Int.tdiv v117 (w64 ((2:Int)+r1.1))))))),some 10,some 16),((35,.val iS r128.1),some 12,some 16),((36,.val iS (w64 ((w64 ((100:Int) * (w64 (Int.tdiv v117 (w64 ((2:Int)+r1.1))))))+r128.1))),some 13,some 16),((37,.val sh5 ((w64 ((w64 ((100:Int) * (Int.tmod v117 (w64 ((2:Int)+r1.1)))))+r127.1)),(w64 ((w64 ((100:Int) * (w64 (Int.tdiv v117 (w64 ((2:Int)+r1.1))))))+r128.1)))),some 14,some 16)] [(27,0,4,5),(34,0,11,12)] [0,1,3,19,147,403,2451,2455,2483,2963,35219,2463,2487,2967,35223,2995,6579,35251,3987,35731,2495,2975,35231,2999,6583,35255,3991,35735,4019,7091,35763,39347,36755,2559,3007,6591,35263,3999,35743,4023,7095,35767,39351,36759,8115,36787,39859,3071,6655,35327,4031,7103,35775,39359,36767,8119,36791,39863,16307,40883,4095,7167,35839,39423,8127,36799,39871,16311,40887,49075,8191,36863,39935,16319,40895,49079,16383,40959,49087,32767,49151,65535,131071] 131071 [(2,0,1),(5,1,1),(9,2,1),(12,3,1)] h (by kernel_rfl) (by kernel_rfl) (by kernel_rfl) (ac hc132 (ac (c54 k v115 (30:Int) r127 hr133) (ac hc134 (ac (c54 k r127.2 (30:Int) r128 hr135) an)))) (fun _ _ _ _ _ h => h) fun a w h => ?_
  obtain ⟨r129,hr130,hF⟩:=of_bind hF
  obtain ⟨hc131,hF⟩:=of_if hF
  refine wp_regv tok (orc:=orcL [(44,[⟨.pt false 4294967295 (.pt true 97 (.st (.pair (.sl false 5 (.int .u8)) (.pair iS iS)))),some (some r129.2)⟩,⟨sh2,r129.1⟩]),(47,[⟨.pt false 4294967293 .unit,some ()⟩])]) [((0,.val sh0 (some r128.2)),none,some 6),((0,.val sh0 (some r129.2)),some 6,none),((2,.val sh3 (some (([]:(List (Int × ((Int × Int) × (List (ByteArray × ByteArray)))))),(([]:(List (Int × ((List Int) × (List (ByteArray × ByteArray)))))),([]:(List (Int × ((List (Int × Bool)) × (List (ByteArray × ByteArray)))))))))),none,none),((3,.val sh3 (some (v116,(([]:(List (Int × ((List Int) × (List (ByteArray × ByteArray)))))),([]:(List (Int × ((List (Int × Bool)) × (List (ByteArray × ByteArray)))))))))),none,some 11),((3,.val sh3 (some ((List.append v116 [((w64 ((1:Int)+v117)),(((w64 ((w64 ((100:Int) * (Int.tmod v117 (w64 ((2:Int)+r1.1)))))+r127.1)),(w64 ((w64 ((100:Int) * (w64 (Int.tdiv v117 (w64 ((2:Int)+r1.1))))))+r128.1))),r129.1))]),(([]:(List (Int × ((List Int) × (List (ByteArray × ByteArray)))))),([]:(List (Int × ((List (Int × Bool)) × (List (ByteArray × ByteArray)))))))))),some 11,none),((4,.val iS (w64 ((2:Int)+r1.1))),none,none),((5,.val iS v117),none,none),((6,.val sh4 (some ((w64 ((w64 ((100:Int) * (Int.tmod v117 (w64 ((2:Int)+r1.1)))))+r127.1)),(w64 ((w64 ((100:Int) * (w64 (Int.tdiv v117 (w64 ((2:Int)+r1.1))))))+r128.1))))),none,some 11),((38,.addr 3 [.der,.fst]),some 0,some 11),((39,.copy 3 [.der,.fst]),some 1,some 11),((40,.val iS v117),some 2,some 11),((41,.val iS (w64 ((1:Int)+v117))),some 3,some 11),((42,.val sh5 ((w64 ((w64 ((100:Int) * (Int.tmod v117 (w64 ((2:Int)+r1.1)))))+r127.1)),(w64 ((w64 ((100:Int) * (w64 (Int.tdiv v117 (w64 ((2:Int)+r1.1))))))+r128.1)))),some 4,some 11),((44,.val sh2 r129.1),some 6,some 11),((45,.val sh6 ((w64 ((1:Int)+v117)),(((w64 ((w64 ((100:Int) * (Int.tmod v117 (w64 ((2:Int)+r1.1)))))+r127.1)),(w64 ((w64 ((100:Int) * (w64 (Int.tdiv v117 (w64 ((2:Int)+r1.1))))))+r128.1))),r129.1))),some 7,some 11),((46,.val sh7 [((w64 ((1:Int)+v117)),(((w64 ((w64 ((100:Int) * (Int.tmod v117 (w64 ((2:Int)+r1.1)))))+r127.1)),(w64 ((w64 ((100:Int) * (w64 (Int.tdiv v117 (w64 ((2:Int)+r1.1))))))+r128.1))),r129.1))]),some 8,some 11),((47,.grown 3 [.der,.fst] ⟨sh7,(List.append v116 [((w64 ((1:Int)+v117)),(((w64 ((w64 ((100:Int) * (Int.tmod v117 (w64 ((2:Int)+r1.1)))))+r127.1)),(w64 ((w64 ((100:Int) * (w64 (Int.tdiv v117 (w64 ((2:Int)+r1.1))))))+r128.1))),r129.1))])⟩),some 9,some 11),((48,.addr 3 [.der,.fst]),some 10,some 11)] [(43,0,5,6)] [0,4,36,37,44,52,100,39,45,53,101,60,108,116,47,55,103,61,109,117,124,63,111,119,125,252,127,253,508,255,509,511,1023,2047,4095] 4095 [(6,0,1),(9,1,1),(11,2,1)] h (by kernel_rfl) (by kernel_rfl) (by kernel_rfl) (ac (PMut.frozen (outs':=[⟨sh2,r129.1⟩]) (c95 k r128.2 (1:Int) r129 hr130) (by kernel_rfl)) (ac hc131 (ac (show ([.der,.fst]:Path)=[.der,.fst] from rfl) an))) (fun _ _ _ _ _ h => h) fun a w h => ?_
  refine wp_reg tok (orc:=o0) (fz:=[]) (l:=[0,2,3,4,5]) (.inl rfl) h (by kernel_rfl) an fun a w h => ?_
  exact ⟨(r129.2,(List.append v116 [((w64 ((1:Int)+v117)),(((w64 ((w64 ((100:Int) * (Int.tmod v117 (w64 ((2:Int)+r1.1)))))+r127.1)),(w64 ((w64 ((100:Int) * (w64 (Int.tdiv v117 (w64 ((2:Int)+r1.1))))))+r128.1))),r129.1))]),(w64 (v117 + (1:Int)))),hF,h.arrive (fz:=[]) (l:=[0,2,3,4,5]) (.inl rfl) (by kernel_rfl)⟩
 ·refine wp_exit ?_
  obtain ⟨r136,hr1681,hF⟩:=of_bind hF
  refine wp_reg_seq tok (orc:=orcL [(50,[⟨.pt false 4294967295 (.pt true 97 (.st (.pair (.sl false 5 (.int .u8)) (.pair iS iS)))),some (some r136.2)⟩,⟨iS,r136.1⟩])]) (fz:=[]) (l:=[0,2,3,4,7]) (.inl rfl) h (by kernel_rfl) (ac (c54 k v115 (9:Int) r136 hr1681) an) fun a w h => ?_
  refine wp_seq ?_
  refine wp_reg_seq tok (orc:=o0) (fz:=[]) (l:=[0,2,3,4,7,8]) (.inl rfl) h (by kernel_rfl) an fun a w h => ?_
  refine wp_block ?_
  refine wp_loop_fuel (f82.l909 k r136 r1 v116) (fun ((v1425,v1426,v1427):(((List Int) × (Int × Int)) × (List (Int × ((List Int) × (List (ByteArray × ByteArray))))) × Int)) => [(0,.val sh0 (some v1425)),(2,.val sh3 (some (([]:(List (Int × ((Int × Int) × (List (ByteArray × ByteArray)))))),(([]:(List (Int × ((List Int) × (List (ByteArray × ByteArray)))))),([]:(List (Int × ((List (Int × Bool)) × (List (ByteArray × ByteArray)))))))))),(3,.val sh3 (some (v116,(v1426,([]:(List (Int × ((List (Int × Bool)) × (List (ByteArray × ByteArray)))))))))),(4,.val iS (w64 ((2:Int)+r1.1))),(7,.val iS (w64 ((1:Int)+r136.1))),(8,.val iS v1427)]) (fun v h => by obtain ⟨v1425,v1426,v1427⟩:=v; rw [f82.l909] at h; cases h) ?_ hF (h.arrive (fz:=[]) (l:=[0,2,3,4,7,8]) (.inl rfl) (by kernel_rfl))
  intro m909 v a w hF h
  obtain ⟨v1425,v1426,v1427⟩:=v
  rw [f82.l909] at hF
  refine wp_seq ?_
  refine wp_reg_seq tok (orc:=o0) (fz:=[]) (l:=[0,2,3,4,7,8,54]) (.inl rfl) h (by kernel_rfl) an fun a w h => ?_
  refine zi h hF (fun hF => ?_) (fun hF => ?_)
  ·refine wp_skip ?_
   refine wp_mid (fun a w => ∃ v:(((List Int) × (Int × Int)) × (List (Int × ((List Int) × (List (ByteArray × ByteArray)))))),f82.j1555 k v1427 ((f82.l909 k r136 r1 v116) m909) v=some r∧Rel w0 f0 Zi ⟨Try.f82.ntmps,[0],fun _ => v0⟩ ((fun ((v1553,v1554):(((List Int) × (Int × Int)) × (List (Int × ((List Int) × (List (ByteArray × ByteArray))))))) => ([(0,.val sh0 (some v1553)),(2,.val sh3 (some (([]:(List (Int × ((Int × Int) × (List (ByteArray × ByteArray)))))),(([]:(List (Int × ((List Int) × (List (ByteArray × ByteArray)))))),([]:(List (Int × ((List (Int × Bool)) × (List (ByteArray × ByteArray)))))))))),(3,.val sh3 (some (v116,(v1554,([]:(List (Int × ((List (Int × Bool)) × (List (ByteArray × ByteArray)))))))))),(4,.val iS (w64 ((2:Int)+r1.1))),(7,.val iS (w64 ((1:Int)+r136.1))),(8,.val iS v1427)]:SS)) v) a w) ?_ ?_
   ·
    refine wp_block ?_
    obtain ⟨r1556,hr1680,hF⟩:=of_bind hF
    refine wp_reg_seq tok (orc:=orcL [(60,[⟨.pt false 4294967295 (.pt true 97 (.st (.pair (.sl false 5 (.int .u8)) (.pair iS iS)))),some (some r1556.2)⟩,⟨sh2,r1556.1⟩])]) (fz:=[]) (l:=[0,2,3,4,7,8,9]) (.inl rfl) h (by kernel_rfl) (ac (PMut.frozen (outs':=[⟨sh2,r1556.1⟩]) (c95 k v1425 (2:Int) r1556 hr1680) (by kernel_rfl)) an) fun a w h => ?_
    obtain ⟨r1557,hr1679,hF⟩:=of_bind hF
    refine wp_reg_seq tok (orc:=orcL [(66,[⟨.pt false 4294967295 (.pt true 97 (.st (.pair (.sl false 5 (.int .u8)) (.pair iS iS)))),some (some r1557.2)⟩,⟨iS,r1557.1⟩])]) (fz:=[]) (l:=[0,2,3,4,7,8,9,10]) (.inl rfl) h (by kernel_rfl) (ac (c54 k r1556.2 (w64 ((w64 ((2:Int)+r1.1)) * (w64 ((2:Int)+r1.1)))) r1557 hr1679) an) fun a w h => ?_
    refine wp_seq ?_
    obtain ⟨r1558,hr1678,hF⟩:=of_bind hF
    refine wp_reg_seq tok (orc:=orcL [(68,[⟨.pt false 4294967295 (.pt true 97 (.st (.pair (.sl false 5 (.int .u8)) (.pair iS iS)))),some (some r1558.2)⟩,⟨iS,r1558.1⟩])]) (fz:=[]) (l:=[0,2,3,4,7,8,9,10,11]) (.inl rfl) h (by kernel_rfl) (ac (c54 k r1557.2 (6:Int) r1558 hr1678) an) fun a w h => ?_
    refine wp_block ?_
    refine wp_loop_fuel (f82.l1618 k r1 v1426 v1427 r1556 (f82.j1555 k v1427 ((f82.l909 k r136 r1 v116) m909))) (fun ((v1659,v1660,v1661,v1662):(((List Int) × (Int × Int)) × (List Int) × Int × Int)) => [(0,.val sh0 (some v1659)),(2,.val sh3 (some (([]:(List (Int × ((Int × Int) × (List (ByteArray × ByteArray)))))),(([]:(List (Int × ((List Int) × (List (ByteArray × ByteArray)))))),([]:(List (Int × ((List (Int × Bool)) × (List (ByteArray × ByteArray)))))))))),(3,.val sh3 (some (v116,(v1426,([]:(List (Int × ((List (Int × Bool)) × (List (ByteArray × ByteArray)))))))))),(4,.val iS (w64 ((2:Int)+r1.1))),(7,.val iS (w64 ((1:Int)+r136.1))),(8,.val iS v1427),(9,.val sh8 (some ((w64 ((100:Int)+v1427)),(v1660,r1556.1)))),(10,.val iS v1661),(11,.val iS v1662)]) (fun v h => by obtain ⟨v1659,v1660,v1661,v1662⟩:=v; rw [f82.l1618] at h; cases h) ?_ hF (h.arrive (fz:=[]) (l:=[0,2,3,4,7,8,9,10,11]) (.inl rfl) (by kernel_rfl))
    intro m1618 v a w hF h
    obtain ⟨v1659,v1660,v1661,v1662⟩:=v
    rw [f82.l1618] at hF
    refine wp_seq ?_
    refine wp_reg_seq tok (orc:=o0) (fz:=[]) (l:=[0,2,3,4,7,8,9,10,11,71]) (.inl rfl) h (by kernel_rfl) an fun a w h => ?_
    refine zi h hF (fun hF => ?_) (fun hF => ?_)
    ·refine wp_skip ?_
     refine wp_seq <| wp_block ?_
     refine wp_seq ?_
     obtain ⟨hc1676,hF⟩:=of_if hF
     refine wp_reg_seq tok (orc:=o0) (fz:=[]) (l:=[0,2,3,4,7,8,9,10,11,90]) (.inl rfl) h (by kernel_rfl) (ac hc1676 an) fun a w h => ?_
     refine wp_midT (fun a w => ∃ v:(List Int),f82.j1672 k v1659 v1661 r1 v1662 ((f82.l1618 k r1 v1426 v1427 r1556 (f82.j1555 k v1427 ((f82.l909 k r136 r1 v116) m909))) m1618) v=some r∧Rel w0 f0 Zi ⟨Try.f82.ntmps,[0],fun _ => v0⟩ ((fun (v1671:(List Int)) => ([(0,.val sh0 (some v1659)),(2,.val sh3 (some (([]:(List (Int × ((Int × Int) × (List (ByteArray × ByteArray)))))),(([]:(List (Int × ((List Int) × (List (ByteArray × ByteArray)))))),([]:(List (Int × ((List (Int × Bool)) × (List (ByteArray × ByteArray)))))))))),(3,.val sh3 (some (v116,(v1426,([]:(List (Int × ((List (Int × Bool)) × (List (ByteArray × ByteArray)))))))))),(4,.val iS (w64 ((2:Int)+r1.1))),(7,.val iS (w64 ((1:Int)+r136.1))),(8,.val iS v1427),(9,.val sh8 (some ((w64 ((100:Int)+v1427)),(v1671,r1556.1)))),(10,.val iS v1661),(11,.val iS v1662)]:SS)) v) a w) ?_ ?_
     ·
      refine zi h hF (fun hF => ?_) (fun hF => ?_)
      ·obtain ⟨hc1675,hF⟩:=of_if hF
       refine wp_reg tok (orc:=orcL [(96,[⟨.pt false 4294967293 .unit,some ()⟩])]) (fz:=[]) (l:=[0,2,3,4,7,8,9,10,11]) (.inl rfl) h (by kernel_rfl) (ac (PrefL.mk (l:=[[.der,.snd,.fst],[.der,.snd,.fst]]) (p:=[.der,.snd,.fst]) rfl) (ac hc1675 (ac (show ([.der,.snd,.fst]:Path)=[.der,.snd,.fst] from rfl) an))) fun a w h => ?_
       exact ⟨(List.append v1660 [(w64 ((1:Int)+v1661))]),hF,h.arrive (fz:=[]) (l:=[0,2,3,4,7,8,9,10,11]) (.inl rfl) (by kernel_rfl)⟩
      ·refine wp_skip ?_
       exact ⟨v1660,hF,h.arrive (fz:=[]) (l:=[0,2,3,4,7,8,9,10,11]) (.inl rfl) (by kernel_rfl)⟩
     ·rintro a w ⟨v1671,hF,h⟩
      rw [f82.j1672] at hF
      obtain ⟨r1673,hr1674,hF⟩:=of_bind hF
      refine wp_reg tok (orc:=orcL [(101,[⟨.pt false 4294967295 (.pt true 97 (.st (.pair (.sl false 5 (.int .u8)) (.pair iS iS)))),some (some r1673.2)⟩,⟨iS,r1673.1⟩])]) (fz:=[]) (l:=[0,2,3,4,7,8,9,10,11]) (.inl rfl) h (by kernel_rfl) (ac (c96 k v1659 v1661 (w64 ((2:Int)+r1.1)) r1673 hr1674) an) fun a w h => ?_
      refine wp_reg tok (orc:=o0) (fz:=[]) (l:=[0,2,3,4,7,8,9,10,11]) (.inl rfl) h (by kernel_rfl) an fun a w h => ?_
      exact ⟨(r1673.2,v1671,r1673.1,(w64 (v1662 - (1:Int)))),hF,h.arrive (fz:=[]) (l:=[0,2,3,4,7,8,9,10,11]) (.inl rfl) (by kernel_rfl)⟩
    ·refine wp_exit ?_
     refine wp_reg_seq tok (orc:=o0) (fz:=[]) (l:=[0,2,3,4,7,8,9,105]) (.inl rfl) h (by kernel_rfl) an fun a w h => ?_
     refine zi h hF (fun hF => ?_) (fun hF => ?_)
     ·obtain ⟨hc1677,hF⟩:=of_if hF
      replace h:=Rel.freezeW [9] hw h (by kernel_rfl)
      refine wp_reg tok (orc:=orcL [(110,[⟨.pt false 4294967293 .unit,some ()⟩])]) (fz:=[]) (l:=[0,2,3,4,7,8]) (.inl rfl) h (by kernel_rfl) (ac (PrefL.mk (l:=[[.der,.snd,.fst],[.der,.snd,.fst]]) (p:=[.der,.snd,.fst]) rfl) (ac hc1677 (ac (show ([.der,.snd,.fst]:Path)=[.der,.snd,.fst] from rfl) an))) fun a w h => ?_
      exact ⟨(v1659,(List.append v1426 [((w64 ((100:Int)+v1427)),(v1660,r1556.1))])),hF,h.arrive (fz:=[]) (l:=[0,2,3,4,7,8]) (.inl rfl) (by kernel_rfl)⟩
     ·refine wp_skip ?_
      exact ⟨(v1659,v1426),hF,h.arrive (fz:=[]) (l:=[0,2,3,4,7,8]) (.inl rfl) (by kernel_rfl)⟩
   ·rintro a w ⟨v,hF,h⟩
    obtain ⟨v1553,v1554⟩:=v
    rw [f82.j1555] at hF
    refine wp_reg tok (orc:=o0) (fz:=[]) (l:=[0,2,3,4,7,8]) (.inl rfl) h (by kernel_rfl) an fun a w h => ?_
    exact ⟨(v1553,v1554,(w64 (v1427 + (1:Int)))),hF,h.arrive (fz:=[]) (l:=[0,2,3,4,7,8]) (.inl rfl) (by kernel_rfl)⟩
  ·refine wp_exit ?_
   refine wp_reg_seq tok (orc:=o0) (fz:=[]) (l:=[0,2]) (.inl rfl) h (by kernel_rfl) an fun a w h => ?_
   cases hF
   exact wp_ret (retO_ok tok h rfl (by kernel_rfl)).1
def f70 (k:Nat) (x0:Int):Option Bool:=some (bif (decide (x0 ≥ (1:Int))) then (decide (x0 ≤ (1000000000:Int))) else false)
theorem c70 (k:Nat) (x0:Int) (r:Bool) (hF:f70 k x0=some r):PCall Try.prog 70 [⟨iS,x0⟩] [⟨.bool,r⟩]:=by
 refine pcall_intro Try.func70 rfl rfl (Nat.le_of_ble_eq_true rfl) ?_
 intro w0 Zi a w h
 rw [f70] at hF
 refine zs [0] h an fun a w h => ?_
 refine zs [2] h an fun a w h => ?_
 cases hF
 exact wp_ret (ret_okR tok h rfl (by kernel_rfl)).1
def f71 (k:Nat) (x0:(Int × Int)):Option Bool:=some (bif (bif (bif (decide (x0.1 ≥ (-10000000:Int))) then (decide (x0.1 ≤ (10000000:Int))) else false) then (decide (x0.2 ≥ (-10000000:Int))) else false) then (decide (x0.2 ≤ (10000000:Int))) else false)
theorem c71 (k:Nat) (x0:(Int × Int)) (r:Bool) (hF:f71 k x0=some r):PCall Try.prog 71 [⟨sh5,x0⟩] [⟨.bool,r⟩]:=by
 refine pcall_intro Try.func71 rfl rfl (Nat.le_of_ble_eq_true rfl) ?_
 intro w0 Zi a w h
 rw [f71] at hF
 refine zs [1] h an fun a w h => ?_
 refine zs [2] h an fun a w h => ?_
 cases hF
 exact wp_ret (ret_okR tok h rfl (by kernel_rfl)).1
def f117.l12 (k:Nat) (x0:ByteArray):Nat→Int→Option Bool
 | 0,_ => none
 | m12+1,v20 => if (decide (v20 < (ByteArray.size x0:Int))) then (if ((0:Int)≤v20∧v20 < (ByteArray.size x0:Int)) then (if (!(bif (bif (bif (bif (decide (((byteAt x0 v20):Int) ≥ (97:Int))) then (decide (((byteAt x0 v20):Int) ≤ (122:Int))) else false) then true else (bif (decide (((byteAt x0 v20):Int) ≥ (48:Int))) then (decide (((byteAt x0 v20):Int) ≤ (57:Int))) else false)) then true else (((byteAt x0 v20):Int) == (58:Int))) then true else (((byteAt x0 v20):Int) == (95:Int)))) then (some false) else ((f117.l12 k x0) m12 (IntKind.i64.wrap (v20 + (1:Int))))) else none) else (some (bif (decide (((ByteArray.size x0:Int):Int) ≥ (1:Int))) then (decide (((ByteArray.size x0:Int):Int) ≤ (40:Int))) else false))
def f117 (k:Nat) (x0:ByteArray):Option Bool:=f117.l12 k x0 k (0:Int)
theorem c117 (k:Nat) (x0:ByteArray) (r:Bool) (hF:f117 k x0=some r):PCall Try.prog 117 [⟨.str,x0⟩] [⟨.bool,r⟩]:=by
 refine pcall_intro Try.func117 rfl rfl (Nat.le_of_ble_eq_true rfl) ?_
 intro w0 Zi a w h
 rw [f117] at hF
 refine zs [0] h an fun a w h => ?_
 refine wp_seq ?_
 refine zs [0,3] h an fun a w h => ?_
 refine wp_block ?_
 refine wp_loop_fuel (f117.l12 k x0) (fun v20 => [(0,.val .str x0),(3,.val iS v20)]) (fun v h => by rw [f117.l12] at h; cases h) ?_ hF (ar h [0,3])
 intro m12 v20 a w hF h
 rw [f117.l12] at hF
 refine wp_seq ?_
 refine zs [0,3,8] h an fun a w h => ?_
 refine zi h hF (fun hF => ?_) (fun hF => ?_)
 ·refine wp_skip ?_
  refine wp_seq <| wp_block ?_
  obtain ⟨hc22,hF⟩:=of_if hF
  refine zs [0,3,4] h (ac hc22 an) fun a w h => ?_
  refine zs [0,3,36] h an fun a w h => ?_
  refine zi h hF (fun hF => ?_) (fun hF => ?_)
  ·refine zs [2] h an fun a w h => ?_
   cases hF
   exact wp_ret (ret_okR tok h rfl (by kernel_rfl)).1
  ·refine wp_skip ?_
   refine zt [0,3] h an fun a w h => ?_
   exact ⟨(w64 (v20 + (1:Int))),hF,ar h [0,3]⟩
 ·refine wp_exit ?_
  refine zs [2] h an fun a w h => ?_
  cases hF
  exact wp_ret (ret_okR tok h rfl (by kernel_rfl)).1
def f118.l18 (k:Nat) (x0:ByteArray):Nat→Int→Option Bool
 | 0,_ => none
 | m18+1,v30 => if (decide (v30 < (ByteArray.size x0:Int))) then (if ((0:Int)≤v30∧v30 < (ByteArray.size x0:Int)) then (if (((decide (((byteAt x0 v30):Int) < (32:Int)))=false) → ((0:Int)≤v30∧v30 < (ByteArray.size x0:Int))) then (if (bif (decide (((byteAt x0 v30):Int) < (32:Int))) then true else (decide (((byteAt x0 v30):Int) > (126:Int)))) then (some false) else ((f118.l18 k x0) m18 (IntKind.i64.wrap (v30 + (1:Int))))) else none) else none) else (some (bif (decide (((ByteArray.size x0:Int):Int) ≥ (1:Int))) then (decide (((ByteArray.size x0:Int):Int) ≤ (100:Int))) else false))
def f118 (k:Nat) (x0:ByteArray):Option Bool:=f118.l18 k x0 k (0:Int)
theorem c118 (k:Nat) (x0:ByteArray) (r:Bool) (hF:f118 k x0=some r):PCall Try.prog 118 [⟨.str,x0⟩] [⟨.bool,r⟩]:=by
 refine pcall_intro Try.func118 rfl rfl (Nat.le_of_ble_eq_true rfl) ?_
 intro w0 Zi a w h
 rw [f118] at hF
 refine zs [0] h an fun a w h => ?_
 refine wp_seq ?_
 refine zs [0,3] h an fun a w h => ?_
 refine wp_block ?_
 refine wp_loop_fuel (f118.l18 k x0) (fun v30 => [(0,.val .str x0),(3,.val iS v30)]) (fun v h => by rw [f118.l18] at h; cases h) ?_ hF (ar h [0,3])
 intro m18 v30 a w hF h
 rw [f118.l18] at hF
 refine wp_seq ?_
 refine zs [0,3,7] h an fun a w h => ?_
 refine zi h hF (fun hF => ?_) (fun hF => ?_)
 ·refine wp_skip ?_
  refine wp_seq <| wp_block ?_
  obtain ⟨hc33,hF⟩:=of_if hF
  obtain ⟨hc34,hF⟩:=of_if hF
  refine zs [0,3,19] h (ac hc33 (ac hc34 an)) fun a w h => ?_
  refine zi h hF (fun hF => ?_) (fun hF => ?_)
  ·refine zs [2] h an fun a w h => ?_
   cases hF
   exact wp_ret (ret_okR tok h rfl (by kernel_rfl)).1
  ·refine wp_skip ?_
   refine zt [0,3] h an fun a w h => ?_
   exact ⟨(w64 (v30 + (1:Int))),hF,ar h [0,3]⟩
 ·refine wp_exit ?_
  refine zs [2] h an fun a w h => ?_
  cases hF
  exact wp_ret (ret_okR tok h rfl (by kernel_rfl)).1
def f110.l54 (k:Nat) (x0:(List (ByteArray × ByteArray))):Nat→Int→Option Bool
 | 0,_ => none
 | m54+1,v90 => if (bif (decide (v90 < (List.length x0:Int))) then (decide (((List.length x0:Int):Int) ≤ (30:Int))) else false) then (if (0≤v90∧v90 < (List.length x0:Int)) then ((f117 k (List.getD x0 (Int.toNat v90) ((⟨#[]⟩:ByteArray),(⟨#[]⟩:ByteArray))).1).bind fun r99 => (if (((!r99)=false) → (0≤v90∧v90 < (List.length x0:Int))) then ((if ((!r99)=false) then f118 k (List.getD x0 (Int.toNat v90) ((⟨#[]⟩:ByteArray),(⟨#[]⟩:ByteArray))).2 else some default).bind fun r100 => (if ((((bif (!r99) then true else (!r100))=false) ∧ ((decide (v90 > (0:Int)))=true)) → (0 ≤ (IntKind.i64.wrap (v90 - (1:Int))) ∧ (IntKind.i64.wrap (v90 - (1:Int))) < (List.length x0:Int))) then (if ((((bif (!r99) then true else (!r100))=false) ∧ ((decide (v90 > (0:Int)))=true)) → (0≤v90∧v90 < (List.length x0:Int))) then (if (bif (bif (!r99) then true else (!r100)) then true else (bif (decide (v90 > (0:Int))) then (!(Op.bytesLess (ByteArray.toList (List.getD x0 (Int.toNat (IntKind.i64.wrap (v90 - (1:Int)))) ((⟨#[]⟩:ByteArray),(⟨#[]⟩:ByteArray))).1) (ByteArray.toList (List.getD x0 (Int.toNat v90) ((⟨#[]⟩:ByteArray),(⟨#[]⟩:ByteArray))).1))) else false)) then (some false) else ((f110.l54 k x0) m54 (IntKind.i64.wrap (v90 + (1:Int))))) else none) else none)) else none)) else none) else (some (decide (((List.length x0:Int):Int) ≤ (30:Int))))
def f110 (k:Nat) (x0:(List (ByteArray × ByteArray))):Option Bool:=f110.l54 k x0 k (0:Int)
theorem c110 (k:Nat) (x0:(List (ByteArray × ByteArray))) (r:Bool) (hF:f110 k x0=some r):PCall Try.prog 110 [⟨sh2,x0⟩] [⟨.bool,r⟩]:=by
 refine pcall_intro Try.func110 rfl rfl (Nat.le_of_ble_eq_true rfl) ?_
 intro w0 Zi a w h
 rw [f110] at hF
 refine zs [0] h an fun a w h => ?_
 refine wp_seq ?_
 refine zs [0,3] h an fun a w h => ?_
 refine wp_block ?_
 refine wp_loop_fuel (f110.l54 k x0) (fun v90 => [(0,.val sh2 x0),(3,.val iS v90)]) (fun v h => by rw [f110.l54] at h; cases h) ?_ hF (ar h [0,3])
 intro m54 v90 a w hF h
 rw [f110.l54] at hF
 refine wp_seq ?_
 refine zs [0,3,12] h an fun a w h => ?_
 refine zi h hF (fun hF => ?_) (fun hF => ?_)
 ·refine wp_skip ?_
  refine wp_seq <| wp_block ?_
  obtain ⟨hc101,hF⟩:=of_if hF
  obtain ⟨r99,hr102,hF⟩:=of_bind hF
  obtain ⟨hc103,hF⟩:=of_if hF
  obtain ⟨r100,hr104,hF⟩:=of_bind hF
  obtain ⟨hc105,hF⟩:=of_if hF
  obtain ⟨hc106,hF⟩:=of_if hF
  refine wp_regy_seq tok (orc:=orcL [(20,[⟨.bool,r99⟩]),(28,[⟨.bool,r100⟩])]) (l:=[0,3,48]) ([],[],[],[]) 34 nw h (by kernel_rfl) (by kernel_rfl) (ac hc101 (ac (c117 k (gD x0 (tZ v90) ((⟨#[]⟩:ByteArray),(⟨#[]⟩:ByteArray))).1 r99 hr102) (ac hc103 (ac (fun (hg:((!r99)=false)) => c118 k (gD x0 (tZ v90) ((⟨#[]⟩:ByteArray),(⟨#[]⟩:ByteArray))).2 r100 (of_g hg hr104)) (ac hc105 (ac hc106 an)))))) fun a w h => ?_
  refine zi h hF (fun hF => ?_) (fun hF => ?_)
  ·refine zs [2] h an fun a w h => ?_
   cases hF
   exact wp_ret (ret_okR tok h rfl (by kernel_rfl)).1
  ·refine wp_skip ?_
   refine zt [0,3] h an fun a w h => ?_
   exact ⟨(w64 (v90 + (1:Int))),hF,ar h [0,3]⟩
 ·refine wp_exit ?_
  refine zs [2] h an fun a w h => ?_
  cases hF
  exact wp_ret (ret_okR tok h rfl (by kernel_rfl)).1
def f99.l16 (k:Nat) (x0:((List (Int × ((Int × Int) × (List (ByteArray × ByteArray))))) × ((List (Int × ((List Int) × (List (ByteArray × ByteArray))))) × (List (Int × ((List (Int × Bool)) × (List (ByteArray × ByteArray)))))))) (x1:Int):Nat → (Int × Int)→Option Int
 | 0,_ => none
 | m16+1,(v27,v28) => if (decide (v27 < v28)) then (if (((2:Int):Int)≠0) then (if (0 ≤ (IntKind.i64.wrap (Int.tdiv (IntKind.i64.wrap (v27+v28)) (2:Int))) ∧ (IntKind.i64.wrap (Int.tdiv (IntKind.i64.wrap (v27+v28)) (2:Int))) < (List.length x0.1:Int)) then (if (decide (((List.getD x0.1 (Int.toNat (IntKind.i64.wrap (Int.tdiv (IntKind.i64.wrap (v27+v28)) (2:Int)))) ((0:Int),(((0:Int),(0:Int)),([]:(List (ByteArray × ByteArray)))))).1:Int) < x1)) then ((f99.l16 k x0 x1) m16 ((IntKind.i64.wrap ((IntKind.i64.wrap (Int.tdiv (IntKind.i64.wrap (v27+v28)) (2:Int))) + (1:Int))),v28)) else ((f99.l16 k x0 x1) m16 (v27,(IntKind.i64.wrap (Int.tdiv (IntKind.i64.wrap (v27+v28)) (2:Int)))))) else none) else none) else (if (((decide (v27 < (List.length x0.1:Int)))=true) → (0≤v27∧v27 < (List.length x0.1:Int))) then (if (bif (decide (v27 < (List.length x0.1:Int))) then (((List.getD x0.1 (Int.toNat v27) ((0:Int),(((0:Int),(0:Int)),([]:(List (ByteArray × ByteArray)))))).1:Int) == x1) else false) then (some v27) else (some (-1:Int))) else none)
def f99 (k:Nat) (x0:((List (Int × ((Int × Int) × (List (ByteArray × ByteArray))))) × ((List (Int × ((List Int) × (List (ByteArray × ByteArray))))) × (List (Int × ((List (Int × Bool)) × (List (ByteArray × ByteArray)))))))) (x1:Int):Option Int:=f99.l16 k x0 x1 k ((0:Int),(List.length x0.1:Int))
theorem c99 (k:Nat) (x0:((List (Int × ((Int × Int) × (List (ByteArray × ByteArray))))) × ((List (Int × ((List Int) × (List (ByteArray × ByteArray))))) × (List (Int × ((List (Int × Bool)) × (List (ByteArray × ByteArray)))))))) (x1:Int) (r:Int) (hF:f99 k x0 x1=some r):PCall Try.prog 99 [⟨sh11,x0⟩,⟨iS,x1⟩] [⟨iS,r⟩]:=by
 refine pcall_intro Try.func99 rfl rfl (Nat.le_of_ble_eq_true rfl) ?_
 intro w0 Zi a w h
 rw [f99] at hF
 refine zs [1,2] h an fun a w h => ?_
 refine zs [1,2,5] h an fun a w h => ?_
 refine zs [1,2,5,6] h an fun a w h => ?_
 refine wp_seq <| wp_block ?_
 refine wp_loop_fuel (f99.l16 k x0 x1) (fun ((v27,v28):(Int × Int)) => [(1,.val iS x1),(2,.val sh10 (some x0)),(5,.val iS v27),(6,.val iS v28)]) (fun v h => by obtain ⟨v27,v28⟩:=v; rw [f99.l16] at h; cases h) ?_ hF (ar h [1,2,5,6])
 intro m16 v a w hF h
 obtain ⟨v27,v28⟩:=v
 rw [f99.l16] at hF
 refine wp_seq ?_
 refine zs [1,2,5,6,13] h an fun a w h => ?_
 refine zi h hF (fun hF => ?_) (fun hF => ?_)
 ·refine wp_skip ?_
  refine wp_block ?_
  obtain ⟨hc30,hF⟩:=of_if hF
  refine zs [1,2,5,6,7] h (ac hc30 an) fun a w h => ?_
  obtain ⟨hc29,hF⟩:=of_if hF
  refine zs [1,2,5,6,7,25] h (ac hc29 an) fun a w h => ?_
  refine zi h hF (fun hF => ?_) (fun hF => ?_)
  ·refine zt [1,2,5,6] h an fun a w h => ?_
   exact ⟨((w64 ((w64 (Int.tdiv (w64 (v27+v28)) (2:Int))) + (1:Int))),v28),hF,ar h [1,2,5,6]⟩
  ·refine zt [1,2,5,6] h an fun a w h => ?_
   exact ⟨(v27,(w64 (Int.tdiv (w64 (v27+v28)) (2:Int)))),hF,ar h [1,2,5,6]⟩
 ·refine wp_exit ?_
  refine wp_seq ?_
  obtain ⟨hc31,hF⟩:=of_if hF
  refine zs [5,43] h (ac hc31 an) fun a w h => ?_
  refine zi h hF (fun hF => ?_) (fun hF => ?_)
  ·refine zs [4] h an fun a w h => ?_
   cases hF
   exact wp_ret (ret_okR tok h rfl (by kernel_rfl)).1
  ·refine wp_skip ?_
   refine zs [4] h an fun a w h => ?_
   cases hF
   exact wp_ret (ret_okR tok h rfl (by kernel_rfl)).1
def f111.l38 (k:Nat) (x1:(Int × ((List Int) × (List (ByteArray × ByteArray))))) (x0:((List (Int × ((Int × Int) × (List (ByteArray × ByteArray))))) × ((List (Int × ((List Int) × (List (ByteArray × ByteArray))))) × (List (Int × ((List (Int × Bool)) × (List (ByteArray × ByteArray)))))))):Nat→Int→Option Bool
 | 0,_ => none
 | m38+1,v62 => if (decide (v62 < (List.length x1.2.1:Int))) then (if (0≤v62∧v62 < (List.length x1.2.1:Int)) then ((f99 k x0 (List.getD x1.2.1 (Int.toNat v62) (0:Int))).bind fun r68 => (if ((((decide (r68 < (0:Int)))=false) ∧ ((decide (v62 > (0:Int)))=true)) → (0≤v62∧v62 < (List.length x1.2.1:Int))) then (if ((((decide (r68 < (0:Int)))=false) ∧ ((decide (v62 > (0:Int)))=true)) → (0 ≤ (IntKind.i64.wrap (v62 - (1:Int))) ∧ (IntKind.i64.wrap (v62 - (1:Int))) < (List.length x1.2.1:Int))) then (if (bif (decide (r68 < (0:Int))) then true else (bif (decide (v62 > (0:Int))) then (((List.getD x1.2.1 (Int.toNat v62) (0:Int)):Int) == (List.getD x1.2.1 (Int.toNat (IntKind.i64.wrap (v62 - (1:Int)))) (0:Int))) else false)) then (some false) else ((f111.l38 k x1 x0) m38 (IntKind.i64.wrap (v62 + (1:Int))))) else none) else none)) else none) else (some true)
def f111 (k:Nat) (x0:((List (Int × ((Int × Int) × (List (ByteArray × ByteArray))))) × ((List (Int × ((List Int) × (List (ByteArray × ByteArray))))) × (List (Int × ((List (Int × Bool)) × (List (ByteArray × ByteArray)))))))) (x1:(Int × ((List Int) × (List (ByteArray × ByteArray))))):Option Bool:=(f70 k x1.1).bind fun r1 => ((if ((!r1)=false) then f110 k x1.2.2 else some default).bind fun r2 => (if (bif (bif (bif (!r1) then true else (!r2)) then true else (decide (((List.length x1.2.1:Int):Int) < (2:Int)))) then true else (decide (((List.length x1.2.1:Int):Int) > (2000:Int)))) then (some false) else (f111.l38 k x1 x0 k (0:Int))))
theorem c111 (k:Nat) (x0:((List (Int × ((Int × Int) × (List (ByteArray × ByteArray))))) × ((List (Int × ((List Int) × (List (ByteArray × ByteArray))))) × (List (Int × ((List (Int × Bool)) × (List (ByteArray × ByteArray)))))))) (x1:(Int × ((List Int) × (List (ByteArray × ByteArray))))) (r:Bool) (hF:f111 k x0 x1=some r):PCall Try.prog 111 [⟨sh11,x0⟩,⟨sh13,x1⟩] [⟨.bool,r⟩]:=by
 refine pcall_intro Try.func111 rfl rfl (Nat.le_of_ble_eq_true rfl) ?_
 intro w0 Zi a w h
 rw [f111] at hF
 refine zs [2,3] h an fun a w h => ?_
 refine wp_seq ?_
 obtain ⟨r1,hr73,hF⟩:=of_bind hF
 obtain ⟨r2,hr74,hF⟩:=of_bind hF
 refine zc (orcL [(8,[⟨.bool,r1⟩]),(13,[⟨.bool,r2⟩])]) [2,3,27] h (ac (c70 k x1.1 r1 hr73) (ac (fun (hg:((!r1)=false)) => c110 k x1.2.2 r2 (of_g hg hr74)) an)) fun a w h => ?_
 refine zi h hF (fun hF => ?_) (fun hF => ?_)
 ·refine zs [4] h an fun a w h => ?_
  cases hF
  exact wp_ret (ret_okR tok h rfl (by kernel_rfl)).1
 ·refine wp_skip ?_
  refine wp_seq ?_
  refine zs [2,3,5] h an fun a w h => ?_
  refine wp_block ?_
  refine wp_loop_fuel (f111.l38 k x1 x0) (fun v62 => [(2,.val sh10 (some x0)),(3,.val sh12 (some x1)),(5,.val iS v62)]) (fun v h => by rw [f111.l38] at h; cases h) ?_ hF (ar h [2,3,5])
  intro m38 v62 a w hF h
  rw [f111.l38] at hF
  refine wp_seq ?_
  refine zs [2,3,5,32] h an fun a w h => ?_
  refine zi h hF (fun hF => ?_) (fun hF => ?_)
  ·refine wp_skip ?_
   refine wp_seq <| wp_block ?_
   obtain ⟨hc69,hF⟩:=of_if hF
   obtain ⟨r68,hr70,hF⟩:=of_bind hF
   obtain ⟨hc71,hF⟩:=of_if hF
   obtain ⟨hc72,hF⟩:=of_if hF
   refine wp_regy_seq tok (orc:=orcL [(41,[⟨iS,r68⟩])]) (l:=[2,3,5,60]) ([],[],[],[]) 26 nw h (by kernel_rfl) (by kernel_rfl) (ac hc69 (ac (c99 k x0 (gD x1.2.1 (tZ v62) iO) r68 hr70) (ac hc71 (ac hc72 an)))) fun a w h => ?_
   refine zi h hF (fun hF => ?_) (fun hF => ?_)
   ·refine zs [4] h an fun a w h => ?_
    cases hF
    exact wp_ret (ret_okR tok h rfl (by kernel_rfl)).1
   ·refine wp_skip ?_
    refine zt [2,3,5] h an fun a w h => ?_
    exact ⟨(w64 (v62 + (1:Int))),hF,ar h [2,3,5]⟩
  ·refine wp_exit ?_
   refine zs [4] h an fun a w h => ?_
   cases hF
   exact wp_ret (ret_okR tok h rfl (by kernel_rfl)).1
def f119.l12 (k:Nat) (x0:((List (Int × ((Int × Int) × (List (ByteArray × ByteArray))))) × ((List (Int × ((List Int) × (List (ByteArray × ByteArray))))) × (List (Int × ((List (Int × Bool)) × (List (ByteArray × ByteArray)))))))) (x1:Int):Nat→Int→Option Int
 | 0,_ => none
 | m12+1,v20 => if (decide (v20 < (List.length x0.2.1:Int))) then (if (0≤v20∧v20 < (List.length x0.2.1:Int)) then (if (((List.getD x0.2.1 (Int.toNat v20) ((0:Int),(([]:(List Int)),([]:(List (ByteArray × ByteArray)))))).1:Int) == x1) then (some v20) else ((f119.l12 k x0 x1) m12 (IntKind.i64.wrap (v20 + (1:Int))))) else none) else (some (-1:Int))
def f119 (k:Nat) (x0:((List (Int × ((Int × Int) × (List (ByteArray × ByteArray))))) × ((List (Int × ((List Int) × (List (ByteArray × ByteArray))))) × (List (Int × ((List (Int × Bool)) × (List (ByteArray × ByteArray)))))))) (x1:Int):Option Int:=f119.l12 k x0 x1 k (0:Int)
theorem c119 (k:Nat) (x0:((List (Int × ((Int × Int) × (List (ByteArray × ByteArray))))) × ((List (Int × ((List Int) × (List (ByteArray × ByteArray))))) × (List (Int × ((List (Int × Bool)) × (List (ByteArray × ByteArray)))))))) (x1:Int) (r:Int) (hF:f119 k x0 x1=some r):PCall Try.prog 119 [⟨sh11,x0⟩,⟨iS,x1⟩] [⟨iS,r⟩]:=by
 refine pcall_intro Try.func119 rfl rfl (Nat.le_of_ble_eq_true rfl) ?_
 intro w0 Zi a w h
 rw [f119] at hF
 refine zs [1,2] h an fun a w h => ?_
 refine wp_seq ?_
 refine zs [1,2,5] h an fun a w h => ?_
 refine wp_block ?_
 refine wp_loop_fuel (f119.l12 k x0 x1) (fun v20 => [(1,.val iS x1),(2,.val sh10 (some x0)),(5,.val iS v20)]) (fun v h => by rw [f119.l12] at h; cases h) ?_ hF (ar h [1,2,5])
 intro m12 v20 a w hF h
 rw [f119.l12] at hF
 refine wp_seq ?_
 refine zs [1,2,5,10] h an fun a w h => ?_
 refine zi h hF (fun hF => ?_) (fun hF => ?_)
 ·refine wp_skip ?_
  refine wp_seq <| wp_block ?_
  obtain ⟨hc22,hF⟩:=of_if hF
  refine zs [1,2,5,20] h (ac hc22 an) fun a w h => ?_
  refine zi h hF (fun hF => ?_) (fun hF => ?_)
  ·refine zs [4] h an fun a w h => ?_
   cases hF
   exact wp_ret (ret_okR tok h rfl (by kernel_rfl)).1
  ·refine wp_skip ?_
   refine zt [1,2,5] h an fun a w h => ?_
   exact ⟨(w64 (v20 + (1:Int))),hF,ar h [1,2,5]⟩
 ·refine wp_exit ?_
  refine zs [4] h an fun a w h => ?_
  cases hF
  exact wp_ret (ret_okR tok h rfl (by kernel_rfl)).1
def f112.l234 (k:Nat) (v212:Int) (x1:(Int × ((List (Int × Bool)) × (List (ByteArray × ByteArray))))) (q128:Int→Option Bool):Nat→Int→Option Bool
 | 0,_ => none
 | m234+1,v246 => if (decide (v246 < v212)) then (if (0≤v246∧v246 < (List.length x1.2.1:Int)) then (if (0≤v212∧v212 < (List.length x1.2.1:Int)) then (if (((List.getD x1.2.1 (Int.toNat v246) ((0:Int),false)).1:Int) == (List.getD x1.2.1 (Int.toNat v212) ((0:Int),false)).1) then (some false) else ((f112.l234 k v212 x1 q128) m234 (IntKind.i64.wrap (v246 + (1:Int))))) else none) else none) else (q128 (IntKind.i64.wrap (v212 + (1:Int))))
def f112.l128 (k:Nat) (x1:(Int × ((List (Int × Bool)) × (List (ByteArray × ByteArray))))) (x0:((List (Int × ((Int × Int) × (List (ByteArray × ByteArray))))) × ((List (Int × ((List Int) × (List (ByteArray × ByteArray))))) × (List (Int × ((List (Int × Bool)) × (List (ByteArray × ByteArray)))))))):Nat→Int→Option Bool
 | 0,_ => none
 | m128+1,v212 => if (decide (v212 < (List.length x1.2.1:Int))) then (if (0≤v212∧v212 < (List.length x1.2.1:Int)) then ((f119 k x0 (List.getD x1.2.1 (Int.toNat v212) ((0:Int),false)).1).bind fun r233 => (if (decide (r233 < (0:Int))) then (some false) else (f112.l234 k v212 x1 ((f112.l128 k x1 x0) m128) k (0:Int)))) else none) else (some true)
def f112 (k:Nat) (x0:((List (Int × ((Int × Int) × (List (ByteArray × ByteArray))))) × ((List (Int × ((List Int) × (List (ByteArray × ByteArray))))) × (List (Int × ((List (Int × Bool)) × (List (ByteArray × ByteArray)))))))) (x1:(Int × ((List (Int × Bool)) × (List (ByteArray × ByteArray))))):Option Bool:=(f70 k x1.1).bind fun r1 => ((if ((!r1)=false) then f110 k x1.2.2 else some default).bind fun r2 => (if (bif (bif (bif (!r1) then true else (!r2)) then true else (decide (((List.length x1.2.1:Int):Int) < (1:Int)))) then true else (decide (((List.length x1.2.1:Int):Int) > (30:Int)))) then (some false) else (f112.l128 k x1 x0 k (0:Int))))
theorem c112 (k:Nat) (x0:((List (Int × ((Int × Int) × (List (ByteArray × ByteArray))))) × ((List (Int × ((List Int) × (List (ByteArray × ByteArray))))) × (List (Int × ((List (Int × Bool)) × (List (ByteArray × ByteArray)))))))) (x1:(Int × ((List (Int × Bool)) × (List (ByteArray × ByteArray))))) (r:Bool) (hF:f112 k x0 x1=some r):PCall Try.prog 112 [⟨sh11,x0⟩,⟨sh15,x1⟩] [⟨.bool,r⟩]:=by
 refine pcall_intro Try.func112 rfl rfl (Nat.le_of_ble_eq_true rfl) ?_
 intro w0 Zi a w h
 rw [f112] at hF
 refine zs [2,3] h an fun a w h => ?_
 refine wp_seq ?_
 obtain ⟨r1,hr253,hF⟩:=of_bind hF
 obtain ⟨r2,hr254,hF⟩:=of_bind hF
 refine zc (orcL [(9,[⟨.bool,r1⟩]),(14,[⟨.bool,r2⟩])]) [2,3,28] h (ac (c70 k x1.1 r1 hr253) (ac (fun (hg:((!r1)=false)) => c110 k x1.2.2 r2 (of_g hg hr254)) an)) fun a w h => ?_
 refine zi h hF (fun hF => ?_) (fun hF => ?_)
 ·refine zs [4] h an fun a w h => ?_
  cases hF
  exact wp_ret (ret_okR tok h rfl (by kernel_rfl)).1
 ·refine wp_skip ?_
  refine wp_seq ?_
  refine zs [2,3,5] h an fun a w h => ?_
  refine wp_block ?_
  refine wp_loop_fuel (f112.l128 k x1 x0) (fun v212 => [(2,.val sh10 (some x0)),(3,.val sh14 (some x1)),(5,.val iS v212)]) (fun v h => by rw [f112.l128] at h; cases h) ?_ hF (ar h [2,3,5])
  intro m128 v212 a w hF h
  rw [f112.l128] at hF
  refine wp_seq ?_
  refine zs [2,3,5,33] h an fun a w h => ?_
  refine zi h hF (fun hF => ?_) (fun hF => ?_)
  ·refine wp_skip ?_
   refine wp_seq <| wp_block ?_
   refine wp_seq ?_
   obtain ⟨hc251,hF⟩:=of_if hF
   obtain ⟨r233,hr252,hF⟩:=of_bind hF
   refine wp_regy_seq tok (orc:=orcL [(43,[⟨iS,r233⟩])]) (l:=[2,3,5,44]) ([],[],[],[]) 9 nw h (by kernel_rfl) (by kernel_rfl) (ac hc251 (ac (c119 k x0 (gD x1.2.1 (tZ v212) (iO,false)).1 r233 hr252) an)) fun a w h => ?_
   refine zi h hF (fun hF => ?_) (fun hF => ?_)
   ·refine zs [4] h an fun a w h => ?_
    cases hF
    exact wp_ret (ret_okR tok h rfl (by kernel_rfl)).1
   ·refine wp_skip ?_
    refine zs [2,3,5,6] h an fun a w h => ?_
    refine wp_block ?_
    refine wp_loop_fuel (f112.l234 k v212 x1 ((f112.l128 k x1 x0) m128)) (fun v246 => [(2,.val sh10 (some x0)),(3,.val sh14 (some x1)),(5,.val iS v212),(6,.val iS v246)]) (fun v h => by rw [f112.l234] at h; cases h) ?_ hF (ar h [2,3,5,6])
    intro m234 v246 a w hF h
    rw [f112.l234] at hF
    refine wp_seq ?_
    refine zs [2,3,5,6,47] h an fun a w h => ?_
    refine zi h hF (fun hF => ?_) (fun hF => ?_)
    ·refine wp_skip ?_
     refine wp_seq <| wp_block ?_
     obtain ⟨hc249,hF⟩:=of_if hF
     obtain ⟨hc250,hF⟩:=of_if hF
     refine wp_regy_seq tok (orc:=o0) (l:=[2,3,5,6,62]) ([],[],[],[]) 13 nw h (by kernel_rfl) (by kernel_rfl) (ac hc249 (ac hc250 an)) fun a w h => ?_
     refine zi h hF (fun hF => ?_) (fun hF => ?_)
     ·refine zs [4] h an fun a w h => ?_
      cases hF
      exact wp_ret (ret_okR tok h rfl (by kernel_rfl)).1
     ·refine wp_skip ?_
      refine zt [2,3,5,6] h an fun a w h => ?_
      exact ⟨(w64 (v246 + (1:Int))),hF,ar h [2,3,5,6]⟩
    ·refine wp_exit ?_
     refine zt [2,3,5] h an fun a w h => ?_
     exact ⟨(w64 (v212 + (1:Int))),hF,ar h [2,3,5]⟩
  ·refine wp_exit ?_
   refine zs [4] h an fun a w h => ?_
   cases hF
   exact wp_ret (ret_okR tok h rfl (by kernel_rfl)).1
def f97.l212 (k:Nat) (x0:((List (Int × ((Int × Int) × (List (ByteArray × ByteArray))))) × ((List (Int × ((List Int) × (List (ByteArray × ByteArray))))) × (List (Int × ((List (Int × Bool)) × (List (ByteArray × ByteArray)))))))):Nat→Int→Option Bool
 | 0,_ => none
 | m212+1,v236 => if (decide (v236 < (List.length x0.2.2:Int))) then (if (0≤v236∧v236 < (List.length x0.2.2:Int)) then ((f112 k x0 (List.getD x0.2.2 (Int.toNat v236) ((0:Int),(([]:(List (Int × Bool))),([]:(List (ByteArray × ByteArray))))))).bind fun r242 => (if ((((!r242)=false) ∧ ((decide (v236 > (0:Int)))=true)) → (0 ≤ (IntKind.i64.wrap (v236 - (1:Int))) ∧ (IntKind.i64.wrap (v236 - (1:Int))) < (List.length x0.2.2:Int))) then (if ((((!r242)=false) ∧ ((decide (v236 > (0:Int)))=true)) → (0≤v236∧v236 < (List.length x0.2.2:Int))) then (if (bif (!r242) then true else (bif (decide (v236 > (0:Int))) then (decide (((List.getD x0.2.2 (Int.toNat (IntKind.i64.wrap (v236 - (1:Int)))) ((0:Int),(([]:(List (Int × Bool))),([]:(List (ByteArray × ByteArray)))))).1:Int) ≥ (List.getD x0.2.2 (Int.toNat v236) ((0:Int),(([]:(List (Int × Bool))),([]:(List (ByteArray × ByteArray)))))).1)) else false)) then (some false) else ((f97.l212 k x0) m212 (IntKind.i64.wrap (v236 + (1:Int))))) else none) else none)) else none) else (some true)
def f97.l142 (k:Nat) (x0:((List (Int × ((Int × Int) × (List (ByteArray × ByteArray))))) × ((List (Int × ((List Int) × (List (ByteArray × ByteArray))))) × (List (Int × ((List (Int × Bool)) × (List (ByteArray × ByteArray)))))))):Nat→Int→Option Bool
 | 0,_ => none
 | m142+1,v166 => if (decide (v166 < (List.length x0.2.1:Int))) then (if (0≤v166∧v166 < (List.length x0.2.1:Int)) then ((f111 k x0 (List.getD x0.2.1 (Int.toNat v166) ((0:Int),(([]:(List Int)),([]:(List (ByteArray × ByteArray))))))).bind fun r172 => (if ((((!r172)=false) ∧ ((decide (v166 > (0:Int)))=true)) → (0 ≤ (IntKind.i64.wrap (v166 - (1:Int))) ∧ (IntKind.i64.wrap (v166 - (1:Int))) < (List.length x0.2.1:Int))) then (if ((((!r172)=false) ∧ ((decide (v166 > (0:Int)))=true)) → (0≤v166∧v166 < (List.length x0.2.1:Int))) then (if (bif (!r172) then true else (bif (decide (v166 > (0:Int))) then (decide (((List.getD x0.2.1 (Int.toNat (IntKind.i64.wrap (v166 - (1:Int)))) ((0:Int),(([]:(List Int)),([]:(List (ByteArray × ByteArray)))))).1:Int) ≥ (List.getD x0.2.1 (Int.toNat v166) ((0:Int),(([]:(List Int)),([]:(List (ByteArray × ByteArray)))))).1)) else false)) then (some false) else ((f97.l142 k x0) m142 (IntKind.i64.wrap (v166 + (1:Int))))) else none) else none)) else none) else (f97.l212 k x0 k (0:Int))
def f97.l54 (k:Nat) (x0:((List (Int × ((Int × Int) × (List (ByteArray × ByteArray))))) × ((List (Int × ((List Int) × (List (ByteArray × ByteArray))))) × (List (Int × ((List (Int × Bool)) × (List (ByteArray × ByteArray)))))))):Nat→Int→Option Bool
 | 0,_ => none
 | m54+1,v90 => if (decide (v90 < (List.length x0.1:Int))) then (if (0≤v90∧v90 < (List.length x0.1:Int)) then ((f70 k (List.getD x0.1 (Int.toNat v90) ((0:Int),(((0:Int),(0:Int)),([]:(List (ByteArray × ByteArray)))))).1).bind fun r99 => ((if ((!r99)=false) then f71 k (List.getD x0.1 (Int.toNat v90) ((0:Int),(((0:Int),(0:Int)),([]:(List (ByteArray × ByteArray)))))).2.1 else some default).bind fun r100 => ((if ((bif (!r99) then true else (!r100))=false) then f110 k (List.getD x0.1 (Int.toNat v90) ((0:Int),(((0:Int),(0:Int)),([]:(List (ByteArray × ByteArray)))))).2.2 else some default).bind fun r101 => (if ((((bif (bif (!r99) then true else (!r100)) then true else (!r101))=false) ∧ ((decide (v90 > (0:Int)))=true)) → (0 ≤ (IntKind.i64.wrap (v90 - (1:Int))) ∧ (IntKind.i64.wrap (v90 - (1:Int))) < (List.length x0.1:Int))) then (if (bif (bif (bif (!r99) then true else (!r100)) then true else (!r101)) then true else (bif (decide (v90 > (0:Int))) then (decide (((List.getD x0.1 (Int.toNat (IntKind.i64.wrap (v90 - (1:Int)))) ((0:Int),(((0:Int),(0:Int)),([]:(List (ByteArray × ByteArray)))))).1:Int) ≥ (List.getD x0.1 (Int.toNat v90) ((0:Int),(((0:Int),(0:Int)),([]:(List (ByteArray × ByteArray)))))).1)) else false)) then (some false) else ((f97.l54 k x0) m54 (IntKind.i64.wrap (v90 + (1:Int))))) else none)))) else none) else (f97.l142 k x0 k (0:Int))
def f97 (k:Nat) (x0:((List (Int × ((Int × Int) × (List (ByteArray × ByteArray))))) × ((List (Int × ((List Int) × (List (ByteArray × ByteArray))))) × (List (Int × ((List (Int × Bool)) × (List (ByteArray × ByteArray)))))))):Option Bool:=if (bif (bif (decide (((List.length x0.1:Int):Int) > (5000:Int))) then true else (decide (((List.length x0.2.1:Int):Int) > (1000:Int)))) then true else (decide (((List.length x0.2.2:Int):Int) > (300:Int)))) then (some false) else (f97.l54 k x0 k (0:Int))
theorem c97 (k:Nat) (x0:((List (Int × ((Int × Int) × (List (ByteArray × ByteArray))))) × ((List (Int × ((List Int) × (List (ByteArray × ByteArray))))) × (List (Int × ((List (Int × Bool)) × (List (ByteArray × ByteArray)))))))) (r:Bool) (hF:f97 k x0=some r):PCall Try.prog 97 [⟨sh11,x0⟩] [⟨.bool,r⟩]:=by
 refine pcall_intro Try.func97 rfl rfl (Nat.le_of_ble_eq_true rfl) ?_
 intro w0 Zi a w h
 rw [f97] at hF
 refine zs [1] h an fun a w h => ?_
 refine wp_seq ?_
 refine zs [1,22] h an fun a w h => ?_
 refine zi h hF (fun hF => ?_) (fun hF => ?_)
 ·refine zs [2] h an fun a w h => ?_
  cases hF
  exact wp_ret (ret_okR tok h rfl (by kernel_rfl)).1
 ·refine wp_skip ?_
  refine wp_seq ?_
  refine zs [1,3] h an fun a w h => ?_
  refine wp_block ?_
  refine wp_loop_fuel (f97.l54 k x0) (fun v90 => [(1,.val sh10 (some x0)),(3,.val iS v90)]) (fun v h => by rw [f97.l54] at h; cases h) ?_ hF (ar h [1,3])
  intro m54 v90 a w hF h
  rw [f97.l54] at hF
  refine wp_seq ?_
  refine zs [1,3,27] h an fun a w h => ?_
  refine zi h hF (fun hF => ?_) (fun hF => ?_)
  ·refine wp_skip ?_
   refine wp_seq <| wp_block ?_
   obtain ⟨hc106,hF⟩:=of_if hF
   refine zs [1,3,4] h (ac hc106 an) fun a w h => ?_
   obtain ⟨r99,hr102,hF⟩:=of_bind hF
   obtain ⟨r100,hr103,hF⟩:=of_bind hF
   obtain ⟨r101,hr104,hF⟩:=of_bind hF
   obtain ⟨hc105,hF⟩:=of_if hF
   refine wp_regy_seq tok (orc:=orcL [(37,[⟨.bool,r99⟩]),(42,[⟨.bool,r100⟩]),(48,[⟨.bool,r101⟩])]) (l:=[1,3,66]) ([],[],[],[]) 32 nw h (by kernel_rfl) (by kernel_rfl) (ac (c70 k (gD x0.1 (tZ v90) (iO,((iO,iO),([]:(List (ByteArray × ByteArray)))))).1 r99 hr102) (ac (fun (hg:((!r99)=false)) => c71 k (gD x0.1 (tZ v90) (iO,((iO,iO),([]:(List (ByteArray × ByteArray)))))).2.1 r100 (of_g hg hr103)) (ac (fun (hg:((bif (!r99) then true else (!r100))=false)) => c110 k (gD x0.1 (tZ v90) (iO,((iO,iO),([]:(List (ByteArray × ByteArray)))))).2.2 r101 (of_g hg hr104)) (ac hc105 an)))) fun a w h => ?_
   refine zi h hF (fun hF => ?_) (fun hF => ?_)
   ·refine zs [2] h an fun a w h => ?_
    cases hF
    exact wp_ret (ret_okR tok h rfl (by kernel_rfl)).1
   ·refine wp_skip ?_
    refine zt [1,3] h an fun a w h => ?_
    exact ⟨(w64 (v90 + (1:Int))),hF,ar h [1,3]⟩
  ·refine wp_exit ?_
   refine wp_seq ?_
   refine zs [1,5] h an fun a w h => ?_
   refine wp_block ?_
   refine wp_loop_fuel (f97.l142 k x0) (fun v166 => [(1,.val sh10 (some x0)),(5,.val iS v166)]) (fun v h => by rw [f97.l142] at h; cases h) ?_ hF (ar h [1,5])
   intro m142 v166 a w hF h
   rw [f97.l142] at hF
   refine wp_seq ?_
   refine zs [1,5,71] h an fun a w h => ?_
   refine zi h hF (fun hF => ?_) (fun hF => ?_)
   ·refine wp_skip ?_
    refine wp_seq <| wp_block ?_
    obtain ⟨hc173,hF⟩:=of_if hF
    obtain ⟨r172,hr174,hF⟩:=of_bind hF
    obtain ⟨hc175,hF⟩:=of_if hF
    obtain ⟨hc176,hF⟩:=of_if hF
    refine wp_regy_seq tok (orc:=orcL [(80,[⟨.bool,r172⟩])]) (l:=[1,5,101]) ([],[],[],[]) 28 nw h (by kernel_rfl) (by kernel_rfl) (ac hc173 (ac (c111 k x0 (gD x0.2.1 (tZ v166) (iO,(lO,([]:(List (ByteArray × ByteArray)))))) r172 hr174) (ac hc175 (ac hc176 an)))) fun a w h => ?_
    refine zi h hF (fun hF => ?_) (fun hF => ?_)
    ·refine zs [2] h an fun a w h => ?_
     cases hF
     exact wp_ret (ret_okR tok h rfl (by kernel_rfl)).1
    ·refine wp_skip ?_
     refine zt [1,5] h an fun a w h => ?_
     exact ⟨(w64 (v166 + (1:Int))),hF,ar h [1,5]⟩
   ·refine wp_exit ?_
    refine wp_seq ?_
    refine zs [1,6] h an fun a w h => ?_
    refine wp_block ?_
    refine wp_loop_fuel (f97.l212 k x0) (fun v236 => [(1,.val sh10 (some x0)),(6,.val iS v236)]) (fun v h => by rw [f97.l212] at h; cases h) ?_ hF (ar h [1,6])
    intro m212 v236 a w hF h
    rw [f97.l212] at hF
    refine wp_seq ?_
    refine zs [1,6,106] h an fun a w h => ?_
    refine zi h hF (fun hF => ?_) (fun hF => ?_)
    ·refine wp_skip ?_
     refine wp_seq <| wp_block ?_
     obtain ⟨hc243,hF⟩:=of_if hF
     obtain ⟨r242,hr244,hF⟩:=of_bind hF
     obtain ⟨hc245,hF⟩:=of_if hF
     obtain ⟨hc246,hF⟩:=of_if hF
     refine wp_regy_seq tok (orc:=orcL [(115,[⟨.bool,r242⟩])]) (l:=[1,6,136]) ([],[],[],[]) 28 nw h (by kernel_rfl) (by kernel_rfl) (ac hc243 (ac (c112 k x0 (gD x0.2.2 (tZ v236) (iO,(([]:(List (Int × Bool))),([]:(List (ByteArray × ByteArray)))))) r242 hr244) (ac hc245 (ac hc246 an)))) fun a w h => ?_
     refine zi h hF (fun hF => ?_) (fun hF => ?_)
     ·refine zs [2] h an fun a w h => ?_
      cases hF
      exact wp_ret (ret_okR tok h rfl (by kernel_rfl)).1
     ·refine wp_skip ?_
      refine zt [1,6] h an fun a w h => ?_
      exact ⟨(w64 (v236 + (1:Int))),hF,ar h [1,6]⟩
    ·refine wp_exit ?_
     refine zs [2] h an fun a w h => ?_
     cases hF
     exact wp_ret (ret_okR tok h rfl (by kernel_rfl)).1
def f103.l18 (k:Nat) (x0:(List (ByteArray × ByteArray))) (x1:ByteArray):Nat→Int→Option ByteArray
 | 0,_ => none
 | m18+1,v30 => if (decide (v30 < (List.length x0:Int))) then (if (0≤v30∧v30 < (List.length x0:Int)) then (if (ByteArray.toList (List.getD x0 (Int.toNat v30) ((⟨#[]⟩:ByteArray),(⟨#[]⟩:ByteArray))).1 == ByteArray.toList x1) then (if (0≤v30∧v30 < (List.length x0:Int)) then (some (List.getD x0 (Int.toNat v30) ((⟨#[]⟩:ByteArray),(⟨#[]⟩:ByteArray))).2) else none) else ((f103.l18 k x0 x1) m18 (IntKind.i64.wrap (v30 + (1:Int))))) else none) else (some (⟨#[]⟩:ByteArray))
def f103 (k:Nat) (x0:(List (ByteArray × ByteArray))) (x1:ByteArray):Option ByteArray:=f103.l18 k x0 x1 k (0:Int)
theorem c103 (k:Nat) (x0:(List (ByteArray × ByteArray))) (x1:ByteArray) (r:ByteArray) (hF:f103 k x0 x1=some r):PCall Try.prog 103 [⟨sh2,x0⟩,⟨.str,x1⟩] [⟨.str,r⟩]:=by
 refine pcall_intro Try.func103 rfl rfl (Nat.le_of_ble_eq_true rfl) ?_
 intro w0 Zi a w h
 rw [f103] at hF
 refine zs [0,1] h an fun a w h => ?_
 refine wp_seq ?_
 refine zs [0,1,5] h an fun a w h => ?_
 refine wp_block ?_
 refine wp_loop_fuel (f103.l18 k x0 x1) (fun v30 => [(0,.val sh2 x0),(1,.val .str x1),(5,.val iS v30)]) (fun v h => by rw [f103.l18] at h; cases h) ?_ hF (ar h [0,1,5])
 intro m18 v30 a w hF h
 rw [f103.l18] at hF
 refine wp_seq ?_
 refine zs [0,1,5,9] h an fun a w h => ?_
 refine zi h hF (fun hF => ?_) (fun hF => ?_)
 ·refine wp_skip ?_
  refine wp_seq <| wp_block ?_
  obtain ⟨hc34,hF⟩:=of_if hF
  refine zs [0,1,5,18] h (ac hc34 an) fun a w h => ?_
  refine zi h hF (fun hF => ?_) (fun hF => ?_)
  ·obtain ⟨hc33,hF⟩:=of_if hF
   refine zs [4] h (ac hc33 an) fun a w h => ?_
   cases hF
   exact wp_ret (ret_okR tok h rfl (by kernel_rfl)).1
  ·refine wp_skip ?_
   refine zt [0,1,5] h an fun a w h => ?_
   exact ⟨(w64 (v30 + (1:Int))),hF,ar h [0,1,5]⟩
 ·refine wp_exit ?_
  refine zs [4] h an fun a w h => ?_
  cases hF
  exact wp_ret (ret_okR tok h rfl (by kernel_rfl)).1
def f113.l28 (k:Nat) (x0:ByteArray) (x1:Int):Nat → (Int × Int)→Option Int
 | 0,_ => none
 | m28+1,(v47,v48) => if (decide (v48 < (ByteArray.size x0:Int))) then (if ((0:Int)≤v48∧v48 < (ByteArray.size x0:Int)) then (if (((decide (((byteAt x0 v48):Int) < (48:Int)))=false) → ((0:Int)≤v48∧v48 < (ByteArray.size x0:Int))) then (if (bif (decide (((byteAt x0 v48):Int) < (48:Int))) then true else (decide (((byteAt x0 v48):Int) > (57:Int)))) then (some (-1:Int)) else (if ((0:Int)≤v48∧v48 < (ByteArray.size x0:Int)) then ((f113.l28 k x0 x1) m28 ((IntKind.i64.wrap ((IntKind.i64.wrap (v47 * (10:Int))) + (IntKind.i64.wrap (IntKind.u8.wrap ((byteAt x0 v48) - (48:Int)))))),(IntKind.i64.wrap (v48 + (1:Int))))) else none)) else none) else none) else (if (decide (v47 > x1)) then (some (-1:Int)) else (some v47))
def f113 (k:Nat) (x0:ByteArray) (x1:Int):Option Int:=if (bif (((ByteArray.size x0:Int):Int) == (0:Int)) then true else (decide (((ByteArray.size x0:Int):Int) > (10:Int)))) then (some (-1:Int)) else (f113.l28 k x0 x1 k ((0:Int),(0:Int)))
theorem c113 (k:Nat) (x0:ByteArray) (x1:Int) (r:Int) (hF:f113 k x0 x1=some r):PCall Try.prog 113 [⟨.str,x0⟩,⟨iS,x1⟩] [⟨iS,r⟩]:=by
 refine pcall_intro Try.func113 rfl rfl (Nat.le_of_ble_eq_true rfl) ?_
 intro w0 Zi a w h
 rw [f113] at hF
 refine zs [0,1] h an fun a w h => ?_
 refine zs [0,1,5] h an fun a w h => ?_
 refine wp_seq ?_
 refine zs [0,1,5,14] h an fun a w h => ?_
 refine zi h hF (fun hF => ?_) (fun hF => ?_)
 ·refine zs [4] h an fun a w h => ?_
  cases hF
  exact wp_ret (ret_okR tok h rfl (by kernel_rfl)).1
 ·refine wp_skip ?_
  refine wp_seq ?_
  refine zs [0,1,5,6] h an fun a w h => ?_
  refine wp_block ?_
  refine wp_loop_fuel (f113.l28 k x0 x1) (fun ((v47,v48):(Int × Int)) => [(0,.val .str x0),(1,.val iS x1),(5,.val iS v47),(6,.val iS v48)]) (fun v h => by obtain ⟨v47,v48⟩:=v; rw [f113.l28] at h; cases h) ?_ hF (ar h [0,1,5,6])
  intro m28 v a w hF h
  obtain ⟨v47,v48⟩:=v
  rw [f113.l28] at hF
  refine wp_seq ?_
  refine zs [0,1,5,6,18] h an fun a w h => ?_
  refine zi h hF (fun hF => ?_) (fun hF => ?_)
  ·refine wp_skip ?_
   refine wp_seq <| wp_block ?_
   refine wp_seq ?_
   obtain ⟨hc53,hF⟩:=of_if hF
   obtain ⟨hc54,hF⟩:=of_if hF
   refine zs [0,1,5,6,30] h (ac hc53 (ac hc54 an)) fun a w h => ?_
   refine zi h hF (fun hF => ?_) (fun hF => ?_)
   ·refine zs [4] h an fun a w h => ?_
    cases hF
    exact wp_ret (ret_okR tok h rfl (by kernel_rfl)).1
   ·refine wp_skip ?_
    obtain ⟨hc52,hF⟩:=of_if hF
    refine zt [0,1,5,6] h (ac hc52 an) fun a w h => ?_
    refine zt [0,1,5,6] h an fun a w h => ?_
    exact ⟨((w64 ((w64 (v47 * (10:Int))) + (w64 (IntKind.u8.wrap ((byteAt x0 v48) - (48:Int)))))),(w64 (v48 + (1:Int)))),hF,ar h [0,1,5,6]⟩
  ·refine wp_exit ?_
   refine wp_seq ?_
   refine zs [5,41] h an fun a w h => ?_
   refine zi h hF (fun hF => ?_) (fun hF => ?_)
   ·refine zs [4] h an fun a w h => ?_
    cases hF
    exact wp_ret (ret_okR tok h rfl (by kernel_rfl)).1
   ·refine wp_skip ?_
    refine zs [4] h an fun a w h => ?_
    cases hF
    exact wp_ret (ret_okR tok h rfl (by kernel_rfl)).1
def f98.j8 (k:Nat):Int→Option Int
 | v7 => some v7
def f98.j4 (k:Nat) (x0:(List (ByteArray × ByteArray))):Int→Option Int
 | v3 => (f103 k x0 (⟨#[109,97,120,115,112,101,101,100]⟩:ByteArray)).bind fun r5 => ((f113 k r5 (30:Int)).bind fun r6 => (if (bif (decide (r6 ≥ (1:Int))) then (decide (r6 < v3)) else false) then (f98.j8 k r6) else (f98.j8 k v3)))
def f98 (k:Nat) (x0:(List (ByteArray × ByteArray))) (x1:Int):Option Int:=(f103 k x0 (⟨#[104,105,103,104,119,97,121]⟩:ByteArray)).bind fun r1 => ((f103 k x0 (⟨#[97,99,99,101,115,115]⟩:ByteArray)).bind fun r2 => (if (bif (bif (ByteArray.toList r1 == ByteArray.toList (⟨#[]⟩:ByteArray)) then true else (ByteArray.toList r2 == ByteArray.toList (⟨#[110,111]⟩:ByteArray))) then true else (ByteArray.toList r2 == ByteArray.toList (⟨#[112,114,105,118,97,116,101]⟩:ByteArray))) then (some (0:Int)) else (if (x1 == (2:Int)) then (if (ByteArray.toList r1 == ByteArray.toList (⟨#[109,111,116,111,114,119,97,121]⟩:ByteArray)) then (some (0:Int)) else (some (1:Int))) else (if (x1 != (1:Int)) then (some (0:Int)) else (if (ByteArray.toList r1 == ByteArray.toList (⟨#[109,111,116,111,114,119,97,121]⟩:ByteArray)) then (f98.j4 k x0 (30:Int)) else (if (ByteArray.toList r1 == ByteArray.toList (⟨#[109,97,105,110]⟩:ByteArray)) then (f98.j4 k x0 (20:Int)) else (if (ByteArray.toList r1 == ByteArray.toList (⟨#[115,116,114,101,101,116]⟩:ByteArray)) then (f98.j4 k x0 (10:Int)) else (f98.j4 k x0 (0:Int)))))))))
theorem c98 (k:Nat) (x0:(List (ByteArray × ByteArray))) (x1:Int) (r:Int) (hF:f98 k x0 x1=some r):PCall Try.prog 98 [⟨sh2,x0⟩,⟨iS,x1⟩] [⟨iS,r⟩]:=by
 refine pcall_intro Try.func98 rfl rfl (Nat.le_of_ble_eq_true rfl) ?_
 intro w0 Zi a w h
 rw [f98] at hF
 refine zs [0,1] h an fun a w h => ?_
 obtain ⟨r1,hr12,hF⟩:=of_bind hF
 refine zc (orcL [(10,[⟨.str,r1⟩])]) [0,1,5] h (ac (c103 k x0 (⟨#[104,105,103,104,119,97,121]⟩:ByteArray) r1 hr12) an) fun a w h => ?_
 obtain ⟨r2,hr11,hF⟩:=of_bind hF
 refine zc (orcL [(12,[⟨.str,r2⟩])]) [0,1,5,6] h (ac (c103 k x0 (⟨#[97,99,99,101,115,115]⟩:ByteArray) r2 hr11) an) fun a w h => ?_
 refine wp_seq ?_
 refine zs [0,1,5,22] h an fun a w h => ?_
 refine zi h hF (fun hF => ?_) (fun hF => ?_)
 ·refine zs [4] h an fun a w h => ?_
  cases hF
  exact wp_ret (ret_okR tok h rfl (by kernel_rfl)).1
 ·refine wp_skip ?_
  refine wp_seq ?_
  refine zs [0,1,5,24] h an fun a w h => ?_
  refine zi h hF (fun hF => ?_) (fun hF => ?_)
  ·refine wp_seq ?_
   refine zs [26] h an fun a w h => ?_
   refine zi h hF (fun hF => ?_) (fun hF => ?_)
   ·refine zs [4] h an fun a w h => ?_
    cases hF
    exact wp_ret (ret_okR tok h rfl (by kernel_rfl)).1
   ·refine wp_skip ?_
    refine zs [4] h an fun a w h => ?_
    cases hF
    exact wp_ret (ret_okR tok h rfl (by kernel_rfl)).1
  ·refine wp_skip ?_
   refine wp_seq ?_
   refine zs [0,5,28] h an fun a w h => ?_
   refine zi h hF (fun hF => ?_) (fun hF => ?_)
   ·refine zs [4] h an fun a w h => ?_
    cases hF
    exact wp_ret (ret_okR tok h rfl (by kernel_rfl)).1
   ·refine wp_skip ?_
    refine zs [0,5,7] h an fun a w h => ?_
    refine wp_seq ?_
    refine zs [0,7,29] h an fun a w h => ?_
    refine wp_midT (fun a w => ∃ v:Int,f98.j4 k x0 v=some r∧Rel w0 (fun _ => False) Zi Try.f98.ntmps ((fun v3 => ([(0,.val sh2 x0),(7,.val iS v3)]:SS)) v) a w) ?_ ?_
    ·
     refine wp_block ?_
     refine zs [0,7,29,30] h an fun a w h => ?_
     refine zi h hF (fun hF => ?_) (fun hF => ?_)
     ·refine zt [0,7] h an fun a w h => ?_
      exact ⟨(30:Int),hF,ar h [0,7]⟩
     ·refine zs [0,7,29,32] h an fun a w h => ?_
      refine zi h hF (fun hF => ?_) (fun hF => ?_)
      ·refine zt [0,7] h an fun a w h => ?_
       exact ⟨(20:Int),hF,ar h [0,7]⟩
      ·refine zs [0,7,34] h an fun a w h => ?_
       refine zi h hF (fun hF => ?_) (fun hF => ?_)
       ·refine zt [0,7] h an fun a w h => ?_
        exact ⟨(10:Int),hF,ar h [0,7]⟩
       ·refine wp_skip ?_
        exact ⟨iO,hF,ar h [0,7]⟩
    ·rintro a w ⟨v3,hF,h⟩
     rw [f98.j4] at hF
     obtain ⟨r5,hr9,hF⟩:=of_bind hF
     obtain ⟨r6,hr10,hF⟩:=of_bind hF
     refine zc (orcL [(37,[⟨.str,r5⟩]),(38,[⟨iS,r6⟩])]) [7,8] h (ac (c103 k x0 (⟨#[109,97,120,115,112,101,101,100]⟩:ByteArray) r5 hr9) (ac (c113 k r5 (30:Int) r6 hr10) an)) fun a w h => ?_
     refine wp_seq ?_
     refine zs [7,8,45] h an fun a w h => ?_
     refine wp_midT (fun a w => ∃ v:Int,f98.j8 k v=some r∧Rel w0 (fun _ => False) Zi Try.f98.ntmps ((fun v7 => ([(7,.val iS v7)]:SS)) v) a w) ?_ ?_
     ·
      refine zi h hF (fun hF => ?_) (fun hF => ?_)
      ·refine zt [7] h an fun a w h => ?_
       exact ⟨r6,hF,ar h [7]⟩
      ·refine wp_skip ?_
       exact ⟨v3,hF,ar h [7]⟩
     ·rintro a w ⟨v7,hF,h⟩
      rw [f98.j8] at hF
      refine zs [4] h an fun a w h => ?_
      cases hF
      exact wp_ret (ret_okR tok h rfl (by kernel_rfl)).1
def f100 (k:Nat) (x0:(List (ByteArray × ByteArray))) (x1:Int):Option Int:=(f103 k x0 (⟨#[111,110,101,119,97,121]⟩:ByteArray)).bind fun r1 => (if (x1 != (1:Int)) then (some (0:Int)) else ((if (((ByteArray.toList r1 == ByteArray.toList (⟨#[121,101,115]⟩:ByteArray))=false) ∧ ((ByteArray.toList r1 == ByteArray.toList (⟨#[]⟩:ByteArray))=true)) then f103 k x0 (⟨#[106,117,110,99,116,105,111,110]⟩:ByteArray) else some default).bind fun r2 => (if (bif (ByteArray.toList r1 == ByteArray.toList (⟨#[121,101,115]⟩:ByteArray)) then true else (bif (ByteArray.toList r1 == ByteArray.toList (⟨#[]⟩:ByteArray)) then (ByteArray.toList r2 == ByteArray.toList (⟨#[114,105,110,103]⟩:ByteArray)) else false)) then (some (1:Int)) else (if (ByteArray.toList r1 == ByteArray.toList (⟨#[45,49]⟩:ByteArray)) then (some (-1:Int)) else (some (0:Int))))))
theorem c100 (k:Nat) (x0:(List (ByteArray × ByteArray))) (x1:Int) (r:Int) (hF:f100 k x0 x1=some r):PCall Try.prog 100 [⟨sh2,x0⟩,⟨iS,x1⟩] [⟨iS,r⟩]:=by
 refine pcall_intro Try.func100 rfl rfl (Nat.le_of_ble_eq_true rfl) ?_
 intro w0 Zi a w h
 rw [f100] at hF
 refine zs [0,1] h an fun a w h => ?_
 obtain ⟨r1,hr4,hF⟩:=of_bind hF
 refine zc (orcL [(7,[⟨.str,r1⟩])]) [0,1,5] h (ac (c103 k x0 (⟨#[111,110,101,119,97,121]⟩:ByteArray) r1 hr4) an) fun a w h => ?_
 refine wp_seq ?_
 refine zs [0,5,9] h an fun a w h => ?_
 refine zi h hF (fun hF => ?_) (fun hF => ?_)
 ·refine zs [4] h an fun a w h => ?_
  cases hF
  exact wp_ret (ret_okR tok h rfl (by kernel_rfl)).1
 ·refine wp_skip ?_
  refine wp_seq ?_
  obtain ⟨r2,hr3,hF⟩:=of_bind hF
  refine zc (orcL [(17,[⟨.str,r2⟩])]) [5,20] h (ac (fun (hg:(((ByteArray.toList r1 == ByteArray.toList (⟨#[121,101,115]⟩:ByteArray))=false) ∧ ((ByteArray.toList r1 == ByteArray.toList (⟨#[]⟩:ByteArray))=true))) => c103 k x0 (⟨#[106,117,110,99,116,105,111,110]⟩:ByteArray) r2 (of_g hg hr3)) an) fun a w h => ?_
  refine zi h hF (fun hF => ?_) (fun hF => ?_)
  ·refine zs [4] h an fun a w h => ?_
   cases hF
   exact wp_ret (ret_okR tok h rfl (by kernel_rfl)).1
  ·refine wp_skip ?_
   refine wp_seq ?_
   refine zs [22] h an fun a w h => ?_
   refine zi h hF (fun hF => ?_) (fun hF => ?_)
   ·refine zs [4] h an fun a w h => ?_
    cases hF
    exact wp_ret (ret_okR tok h rfl (by kernel_rfl)).1
   ·refine wp_skip ?_
    refine zs [4] h an fun a w h => ?_
    cases hF
    exact wp_ret (ret_okR tok h rfl (by kernel_rfl)).1
def f101.l16 (k:Nat) (x0:((List (Int × (Int × Int))) × ((List (Int × (Int × (Int × (Int × (Int × ByteArray)))))) × (List (Int × Int))))) (x1:Int):Nat → (Int × Int)→Option Int
 | 0,_ => none
 | m16+1,(v27,v28) => if (decide (v27 < v28)) then (if (((2:Int):Int)≠0) then (if (0 ≤ (IntKind.i64.wrap (Int.tdiv (IntKind.i64.wrap (v27+v28)) (2:Int))) ∧ (IntKind.i64.wrap (Int.tdiv (IntKind.i64.wrap (v27+v28)) (2:Int))) < (List.length x0.1:Int)) then (if (decide (((List.getD x0.1 (Int.toNat (IntKind.i64.wrap (Int.tdiv (IntKind.i64.wrap (v27+v28)) (2:Int)))) ((0:Int),((0:Int),(0:Int)))).1:Int) < x1)) then ((f101.l16 k x0 x1) m16 ((IntKind.i64.wrap ((IntKind.i64.wrap (Int.tdiv (IntKind.i64.wrap (v27+v28)) (2:Int))) + (1:Int))),v28)) else ((f101.l16 k x0 x1) m16 (v27,(IntKind.i64.wrap (Int.tdiv (IntKind.i64.wrap (v27+v28)) (2:Int)))))) else none) else none) else (if (((decide (v27 < (List.length x0.1:Int)))=true) → (0≤v27∧v27 < (List.length x0.1:Int))) then (if (bif (decide (v27 < (List.length x0.1:Int))) then (((List.getD x0.1 (Int.toNat v27) ((0:Int),((0:Int),(0:Int)))).1:Int) == x1) else false) then (some v27) else (some (-1:Int))) else none)
def f101 (k:Nat) (x0:((List (Int × (Int × Int))) × ((List (Int × (Int × (Int × (Int × (Int × ByteArray)))))) × (List (Int × Int))))) (x1:Int):Option Int:=f101.l16 k x0 x1 k ((0:Int),(List.length x0.1:Int))
theorem c101 (k:Nat) (x0:tG) (x1:Int) (r:Int) (hF:f101 k x0 x1=some r):PCall Try.prog 101 [⟨sh18,x0⟩,⟨iS,x1⟩] [⟨iS,r⟩]:=by
 refine pcall_intro Try.func101 rfl rfl (Nat.le_of_ble_eq_true rfl) ?_
 intro w0 Zi a w h
 rw [f101] at hF
 refine zs [1,2] h an fun a w h => ?_
 refine zs [1,2,5] h an fun a w h => ?_
 refine zs [1,2,5,6] h an fun a w h => ?_
 refine wp_seq <| wp_block ?_
 refine wp_loop_fuel (f101.l16 k x0 x1) (fun ((v27,v28):(Int × Int)) => [(1,.val iS x1),(2,.val sh17 (some x0)),(5,.val iS v27),(6,.val iS v28)]) (fun v h => by obtain ⟨v27,v28⟩:=v; rw [f101.l16] at h; cases h) ?_ hF (ar h [1,2,5,6])
 intro m16 v a w hF h
 obtain ⟨v27,v28⟩:=v
 rw [f101.l16] at hF
 refine wp_seq ?_
 refine zs [1,2,5,6,13] h an fun a w h => ?_
 refine zi h hF (fun hF => ?_) (fun hF => ?_)
 ·refine wp_skip ?_
  refine wp_block ?_
  obtain ⟨hc30,hF⟩:=of_if hF
  refine zs [1,2,5,6,7] h (ac hc30 an) fun a w h => ?_
  obtain ⟨hc29,hF⟩:=of_if hF
  refine zs [1,2,5,6,7,25] h (ac hc29 an) fun a w h => ?_
  refine zi h hF (fun hF => ?_) (fun hF => ?_)
  ·refine zt [1,2,5,6] h an fun a w h => ?_
   exact ⟨((w64 ((w64 (Int.tdiv (w64 (v27+v28)) (2:Int))) + (1:Int))),v28),hF,ar h [1,2,5,6]⟩
  ·refine zt [1,2,5,6] h an fun a w h => ?_
   exact ⟨(v27,(w64 (Int.tdiv (w64 (v27+v28)) (2:Int)))),hF,ar h [1,2,5,6]⟩
 ·refine wp_exit ?_
  refine wp_seq ?_
  obtain ⟨hc31,hF⟩:=of_if hF
  refine zs [5,43] h (ac hc31 an) fun a w h => ?_
  refine zi h hF (fun hF => ?_) (fun hF => ?_)
  ·refine zs [4] h an fun a w h => ?_
   cases hF
   exact wp_ret (ret_okR tok h rfl (by kernel_rfl)).1
  ·refine wp_skip ?_
   refine zs [4] h an fun a w h => ?_
   cases hF
   exact wp_ret (ret_okR tok h rfl (by kernel_rfl)).1
def f115 (k:Nat) (x0:(Int × Int)) (x1:(Int × Int)):Option Int:=some (IntKind.i64.wrap ((IntKind.i64.wrap ((IntKind.i64.wrap (x1.1 - x0.1)) * (IntKind.i64.wrap (x1.1 - x0.1)))) + (IntKind.i64.wrap ((IntKind.i64.wrap (x1.2 - x0.2)) * (IntKind.i64.wrap (x1.2 - x0.2))))))
theorem c115 (k:Nat) (x0:(Int × Int)) (x1:(Int × Int)) (r:Int) (hF:f115 k x0 x1=some r):PCall Try.prog 115 [⟨sh5,x0⟩,⟨sh5,x1⟩] [⟨iS,r⟩]:=by
 refine pcall_intro Try.func115 rfl rfl (Nat.le_of_ble_eq_true rfl) ?_
 intro w0 Zi a w h
 rw [f115] at hF
 refine zs [2,3] h an fun a w h => ?_
 refine zs [4] h an fun a w h => ?_
 cases hF
 exact wp_ret (ret_okR tok h rfl (by kernel_rfl)).1
def f114.l13 (k:Nat) (x0:Int):Nat → (Int × Int)→Option Int
 | 0,_ => none
 | m13+1,(v22,v23) => if (decide (v22 < v23)) then (if (((2:Int):Int)≠0) then (if (decide (((IntKind.i64.wrap ((IntKind.i64.wrap (Int.tdiv (IntKind.i64.wrap ((IntKind.i64.wrap (v22+v23)) + (1:Int))) (2:Int))) * (IntKind.i64.wrap (Int.tdiv (IntKind.i64.wrap ((IntKind.i64.wrap (v22+v23)) + (1:Int))) (2:Int))))):Int)≤x0)) then ((f114.l13 k x0) m13 ((IntKind.i64.wrap (Int.tdiv (IntKind.i64.wrap ((IntKind.i64.wrap (v22+v23)) + (1:Int))) (2:Int))),v23)) else ((f114.l13 k x0) m13 (v22,(IntKind.i64.wrap ((IntKind.i64.wrap (Int.tdiv (IntKind.i64.wrap ((IntKind.i64.wrap (v22+v23)) + (1:Int))) (2:Int))) - (1:Int)))))) else none) else (some v22)
def f114 (k:Nat) (x0:Int):Option Int:=if (decide (x0 < (0:Int))) then (some (-1:Int)) else (f114.l13 k x0 k ((0:Int),(3037000499:Int)))
theorem c114 (k:Nat) (x0:Int) (r:Int) (hF:f114 k x0=some r):PCall Try.prog 114 [⟨iS,x0⟩] [⟨iS,r⟩]:=by
 refine pcall_intro Try.func114 rfl rfl (Nat.le_of_ble_eq_true rfl) ?_
 intro w0 Zi a w h
 rw [f114] at hF
 refine zs [0] h an fun a w h => ?_
 refine wp_seq ?_
 refine zs [0,7] h an fun a w h => ?_
 refine zi h hF (fun hF => ?_) (fun hF => ?_)
 ·refine zs [2] h an fun a w h => ?_
  cases hF
  exact wp_ret (ret_okR tok h rfl (by kernel_rfl)).1
 ·refine wp_skip ?_
  refine zs [0,3] h an fun a w h => ?_
  refine zs [0,3,4] h an fun a w h => ?_
  refine wp_seq <| wp_block ?_
  refine wp_loop_fuel (f114.l13 k x0) (fun ((v22,v23):(Int × Int)) => [(0,.val iS x0),(3,.val iS v22),(4,.val iS v23)]) (fun v h => by obtain ⟨v22,v23⟩:=v; rw [f114.l13] at h; cases h) ?_ hF (ar h [0,3,4])
  intro m13 v a w hF h
  obtain ⟨v22,v23⟩:=v
  rw [f114.l13] at hF
  refine wp_seq ?_
  refine zs [0,3,4,10] h an fun a w h => ?_
  refine zi h hF (fun hF => ?_) (fun hF => ?_)
  ·refine wp_skip ?_
   refine wp_block ?_
   obtain ⟨hc24,hF⟩:=of_if hF
   refine zs [0,3,4,5] h (ac hc24 an) fun a w h => ?_
   refine zs [0,3,4,5,20] h an fun a w h => ?_
   refine zi h hF (fun hF => ?_) (fun hF => ?_)
   ·refine zt [0,3,4] h an fun a w h => ?_
    exact ⟨((w64 (Int.tdiv (w64 ((w64 (v22+v23)) + (1:Int))) (2:Int))),v23),hF,ar h [0,3,4]⟩
   ·refine zt [0,3,4] h an fun a w h => ?_
    exact ⟨(v22,(w64 ((w64 (Int.tdiv (w64 ((w64 (v22+v23)) + (1:Int))) (2:Int))) - (1:Int)))),hF,ar h [0,3,4]⟩
  ·refine wp_exit ?_
   refine zs [2] h an fun a w h => ?_
   cases hF
   exact wp_ret (ret_okR tok h rfl (by kernel_rfl)).1
def f102 (k:Nat) (x0:(Int × Int)) (x1:(Int × Int)):Option Int:=(f115 k x0 x1).bind fun r1 => ((f114 k (IntKind.i64.wrap ((4:Int)*r1))).bind fun r2 => (if (((2:Int):Int)≠0) then (some (IntKind.i64.wrap (Int.tdiv (IntKind.i64.wrap (r2 + (1:Int))) (2:Int)))) else none))
theorem c102 (k:Nat) (x0:(Int × Int)) (x1:(Int × Int)) (r:Int) (hF:f102 k x0 x1=some r):PCall Try.prog 102 [⟨sh5,x0⟩,⟨sh5,x1⟩] [⟨iS,r⟩]:=by
 refine pcall_intro Try.func102 rfl rfl (Nat.le_of_ble_eq_true rfl) ?_
 intro w0 Zi a w h
 rw [f102] at hF
 refine zs [2,3] h an fun a w h => ?_
 obtain ⟨r1,hr3,hF⟩:=of_bind hF
 obtain ⟨r2,hr4,hF⟩:=of_bind hF
 obtain ⟨hc5,hF⟩:=of_if hF
 refine zc (orcL [(7,[⟨iS,r1⟩]),(9,[⟨iS,r2⟩])]) [4] h (ac (c115 k x0 x1 r1 hr3) (ac (c114 k (w64 ((4:Int)*r1)) r2 hr4) (ac hc5 an))) fun a w h => ?_
 cases hF
 exact wp_ret (ret_okR tok h rfl (by kernel_rfl)).1
def f72 (k:Nat) (x0:(Int × Int)) (x1:(Int × Int)):Option Bool:=some (bif (decide (x0.1 < x1.1)) then true else (bif (x0.1 == x1.1) then (decide (x0.2 < x1.2)) else false))
theorem c72 (k:Nat) (x0:(Int × Int)) (x1:(Int × Int)) (r:Bool) (hF:f72 k x0 x1=some r):PCall Try.prog 72 [⟨sh5,x0⟩,⟨sh5,x1⟩] [⟨.bool,r⟩]:=by
 refine pcall_intro Try.func72 rfl rfl (Nat.le_of_ble_eq_true rfl) ?_
 intro w0 Zi a w h
 rw [f72] at hF
 refine zs [2,3] h an fun a w h => ?_
 refine zs [4] h an fun a w h => ?_
 cases hF
 exact wp_ret (ret_okR tok h rfl (by kernel_rfl)).1
def f47.l206 (k:Nat) (x0:((List (Int × (Int × Int))) × ((List (Int × (Int × (Int × (Int × (Int × ByteArray)))))) × (List (Int × Int))))):Nat→Int→Option Bool
 | 0,_ => none
 | m206+1,v242 => if (decide (v242 < (List.length x0.2.2:Int))) then (if (0≤v242∧v242 < (List.length x0.2.2:Int)) then (if (((bif (bif (bif (decide (((List.getD x0.2.2 (Int.toNat v242) ((0:Int),(0:Int))).1:Int) < (0:Int))) then true else (decide (((List.getD x0.2.2 (Int.toNat v242) ((0:Int),(0:Int))).1:Int) ≥ (List.length x0.2.1:Int)))) then true else (decide (((List.getD x0.2.2 (Int.toNat v242) ((0:Int),(0:Int))).2:Int) < (0:Int)))) then true else (decide (((List.getD x0.2.2 (Int.toNat v242) ((0:Int),(0:Int))).2:Int) ≥ (List.length x0.2.1:Int))))=false) → (0 ≤ (List.getD x0.2.2 (Int.toNat v242) ((0:Int),(0:Int))).1 ∧ (List.getD x0.2.2 (Int.toNat v242) ((0:Int),(0:Int))).1 < (List.length x0.2.1:Int))) then (if (((bif (bif (bif (decide (((List.getD x0.2.2 (Int.toNat v242) ((0:Int),(0:Int))).1:Int) < (0:Int))) then true else (decide (((List.getD x0.2.2 (Int.toNat v242) ((0:Int),(0:Int))).1:Int) ≥ (List.length x0.2.1:Int)))) then true else (decide (((List.getD x0.2.2 (Int.toNat v242) ((0:Int),(0:Int))).2:Int) < (0:Int)))) then true else (decide (((List.getD x0.2.2 (Int.toNat v242) ((0:Int),(0:Int))).2:Int) ≥ (List.length x0.2.1:Int))))=false) → (0 ≤ (List.getD x0.2.2 (Int.toNat v242) ((0:Int),(0:Int))).2 ∧ (List.getD x0.2.2 (Int.toNat v242) ((0:Int),(0:Int))).2 < (List.length x0.2.1:Int))) then (if ((((bif (bif (bif (bif (decide (((List.getD x0.2.2 (Int.toNat v242) ((0:Int),(0:Int))).1:Int) < (0:Int))) then true else (decide (((List.getD x0.2.2 (Int.toNat v242) ((0:Int),(0:Int))).1:Int) ≥ (List.length x0.2.1:Int)))) then true else (decide (((List.getD x0.2.2 (Int.toNat v242) ((0:Int),(0:Int))).2:Int) < (0:Int)))) then true else (decide (((List.getD x0.2.2 (Int.toNat v242) ((0:Int),(0:Int))).2:Int) ≥ (List.length x0.2.1:Int)))) then true else (((List.getD x0.2.1 (Int.toNat (List.getD x0.2.2 (Int.toNat v242) ((0:Int),(0:Int))).1) ((0:Int),((0:Int),((0:Int),((0:Int),((0:Int),(⟨#[]⟩:ByteArray))))))).2.1:Int) != (List.getD x0.2.1 (Int.toNat (List.getD x0.2.2 (Int.toNat v242) ((0:Int),(0:Int))).2) ((0:Int),((0:Int),((0:Int),((0:Int),((0:Int),(⟨#[]⟩:ByteArray))))))).1))=false) ∧ ((decide (v242 > (0:Int)))=true)) → (0 ≤ (IntKind.i64.wrap (v242 - (1:Int))) ∧ (IntKind.i64.wrap (v242 - (1:Int))) < (List.length x0.2.2:Int))) then ((if (((bif (bif (bif (bif (decide (((List.getD x0.2.2 (Int.toNat v242) ((0:Int),(0:Int))).1:Int) < (0:Int))) then true else (decide (((List.getD x0.2.2 (Int.toNat v242) ((0:Int),(0:Int))).1:Int) ≥ (List.length x0.2.1:Int)))) then true else (decide (((List.getD x0.2.2 (Int.toNat v242) ((0:Int),(0:Int))).2:Int) < (0:Int)))) then true else (decide (((List.getD x0.2.2 (Int.toNat v242) ((0:Int),(0:Int))).2:Int) ≥ (List.length x0.2.1:Int)))) then true else (((List.getD x0.2.1 (Int.toNat (List.getD x0.2.2 (Int.toNat v242) ((0:Int),(0:Int))).1) ((0:Int),((0:Int),((0:Int),((0:Int),((0:Int),(⟨#[]⟩:ByteArray))))))).2.1:Int) != (List.getD x0.2.1 (Int.toNat (List.getD x0.2.2 (Int.toNat v242) ((0:Int),(0:Int))).2) ((0:Int),((0:Int),((0:Int),((0:Int),((0:Int),(⟨#[]⟩:ByteArray))))))).1))=false) ∧ ((decide (v242 > (0:Int)))=true)) then f72 k (List.getD x0.2.2 (Int.toNat (IntKind.i64.wrap (v242 - (1:Int)))) ((0:Int),(0:Int))) (List.getD x0.2.2 (Int.toNat v242) ((0:Int),(0:Int))) else some default).bind fun r251 => ((some ((bif (bif (bif (bif (bif (decide (((List.getD x0.2.2 (Int.toNat v242) ((0:Int),(0:Int))).1:Int) < (0:Int))) then true else (decide (((List.getD x0.2.2 (Int.toNat v242) ((0:Int),(0:Int))).1:Int) ≥ (List.length x0.2.1:Int)))) then true else (decide (((List.getD x0.2.2 (Int.toNat v242) ((0:Int),(0:Int))).2:Int) < (0:Int)))) then true else (decide (((List.getD x0.2.2 (Int.toNat v242) ((0:Int),(0:Int))).2:Int) ≥ (List.length x0.2.1:Int)))) then true else (((List.getD x0.2.1 (Int.toNat (List.getD x0.2.2 (Int.toNat v242) ((0:Int),(0:Int))).1) ((0:Int),((0:Int),((0:Int),((0:Int),((0:Int),(⟨#[]⟩:ByteArray))))))).2.1:Int) != (List.getD x0.2.1 (Int.toNat (List.getD x0.2.2 (Int.toNat v242) ((0:Int),(0:Int))).2) ((0:Int),((0:Int),((0:Int),((0:Int),((0:Int),(⟨#[]⟩:ByteArray))))))).1)) then true else (bif (decide (v242 > (0:Int))) then (!r251) else false)):Bool)).bind fun v252 => (if v252 then (some false) else ((f47.l206 k x0) m206 (IntKind.i64.wrap (v242 + (1:Int))))))) else none) else none) else none) else none) else (some true)
def f47.l118 (k:Nat) (x0:((List (Int × (Int × Int))) × ((List (Int × (Int × (Int × (Int × (Int × ByteArray)))))) × (List (Int × Int))))):Nat→Int→Option Bool
 | 0,_ => none
 | m118+1,v142 => if (decide (v142 < (List.length x0.2.1:Int))) then (if (0≤v142∧v142 < (List.length x0.2.1:Int)) then ((if ((bif (bif (bif (decide (((List.getD x0.2.1 (Int.toNat v142) ((0:Int),((0:Int),((0:Int),((0:Int),((0:Int),(⟨#[]⟩:ByteArray))))))).1:Int) < (0:Int))) then true else (decide (((List.getD x0.2.1 (Int.toNat v142) ((0:Int),((0:Int),((0:Int),((0:Int),((0:Int),(⟨#[]⟩:ByteArray))))))).1:Int) ≥ (List.length x0.1:Int)))) then true else (decide (((List.getD x0.2.1 (Int.toNat v142) ((0:Int),((0:Int),((0:Int),((0:Int),((0:Int),(⟨#[]⟩:ByteArray))))))).2.1:Int) < (0:Int)))) then true else (decide (((List.getD x0.2.1 (Int.toNat v142) ((0:Int),((0:Int),((0:Int),((0:Int),((0:Int),(⟨#[]⟩:ByteArray))))))).2.1:Int) ≥ (List.length x0.1:Int))))=false) then f70 k (List.getD x0.2.1 (Int.toNat v142) ((0:Int),((0:Int),((0:Int),((0:Int),((0:Int),(⟨#[]⟩:ByteArray))))))).2.2.1 else some default).bind fun r148 => ((some ((bif (bif (bif (bif (bif (bif (bif (bif (decide (((List.getD x0.2.1 (Int.toNat v142) ((0:Int),((0:Int),((0:Int),((0:Int),((0:Int),(⟨#[]⟩:ByteArray))))))).1:Int) < (0:Int))) then true else (decide (((List.getD x0.2.1 (Int.toNat v142) ((0:Int),((0:Int),((0:Int),((0:Int),((0:Int),(⟨#[]⟩:ByteArray))))))).1:Int) ≥ (List.length x0.1:Int)))) then true else (decide (((List.getD x0.2.1 (Int.toNat v142) ((0:Int),((0:Int),((0:Int),((0:Int),((0:Int),(⟨#[]⟩:ByteArray))))))).2.1:Int) < (0:Int)))) then true else (decide (((List.getD x0.2.1 (Int.toNat v142) ((0:Int),((0:Int),((0:Int),((0:Int),((0:Int),(⟨#[]⟩:ByteArray))))))).2.1:Int) ≥ (List.length x0.1:Int)))) then true else (!r148)) then true else (decide (((List.getD x0.2.1 (Int.toNat v142) ((0:Int),((0:Int),((0:Int),((0:Int),((0:Int),(⟨#[]⟩:ByteArray))))))).2.2.2.1:Int) < (1:Int)))) then true else (decide (((List.getD x0.2.1 (Int.toNat v142) ((0:Int),((0:Int),((0:Int),((0:Int),((0:Int),(⟨#[]⟩:ByteArray))))))).2.2.2.1:Int) > (1000000:Int)))) then true else (decide (((List.getD x0.2.1 (Int.toNat v142) ((0:Int),((0:Int),((0:Int),((0:Int),((0:Int),(⟨#[]⟩:ByteArray))))))).2.2.2.2.1:Int) < (0:Int)))) then true else (decide (((List.getD x0.2.1 (Int.toNat v142) ((0:Int),((0:Int),((0:Int),((0:Int),((0:Int),(⟨#[]⟩:ByteArray))))))).2.2.2.2.1:Int) > (1000000000:Int)))):Bool)).bind fun v149 => (if v149 then (some false) else ((f47.l118 k x0) m118 (IntKind.i64.wrap (v142 + (1:Int))))))) else none) else (f47.l206 k x0 k (0:Int))
def f47.l42 (k:Nat) (x0:((List (Int × (Int × Int))) × ((List (Int × (Int × (Int × (Int × (Int × ByteArray)))))) × (List (Int × Int))))):Nat→Int→Option Bool
 | 0,_ => none
 | m42+1,v70 => if (decide (v70 < (List.length x0.1:Int))) then (if (0≤v70∧v70 < (List.length x0.1:Int)) then ((f70 k (List.getD x0.1 (Int.toNat v70) ((0:Int),((0:Int),(0:Int)))).1).bind fun r77 => ((if ((!r77)=false) then f71 k (List.getD x0.1 (Int.toNat v70) ((0:Int),((0:Int),(0:Int)))).2 else some default).bind fun r78 => (if ((((bif (!r77) then true else (!r78))=false) ∧ ((decide (v70 > (0:Int)))=true)) → (0 ≤ (IntKind.i64.wrap (v70 - (1:Int))) ∧ (IntKind.i64.wrap (v70 - (1:Int))) < (List.length x0.1:Int))) then (if (bif (bif (!r77) then true else (!r78)) then true else (bif (decide (v70 > (0:Int))) then (decide (((List.getD x0.1 (Int.toNat (IntKind.i64.wrap (v70 - (1:Int)))) ((0:Int),((0:Int),(0:Int)))).1:Int) ≥ (List.getD x0.1 (Int.toNat v70) ((0:Int),((0:Int),(0:Int)))).1)) else false)) then (some false) else ((f47.l42 k x0) m42 (IntKind.i64.wrap (v70 + (1:Int))))) else none))) else none) else (f47.l118 k x0 k (0:Int))
def f47 (k:Nat) (x0:((List (Int × (Int × Int))) × ((List (Int × (Int × (Int × (Int × (Int × ByteArray)))))) × (List (Int × Int))))):Option Bool:=if (bif (bif (decide (((List.length x0.1:Int):Int) > (5000:Int))) then true else (decide (((List.length x0.2.1:Int):Int) > (8000:Int)))) then true else (decide (((List.length x0.2.2:Int):Int) > (2000:Int)))) then (some false) else (f47.l42 k x0 k (0:Int))
theorem c47 (k:Nat) (x0:tG) (r:Bool) (hF:f47 k x0=some r):PCall Try.prog 47 [⟨sh18,x0⟩] [⟨.bool,r⟩]:=by
 refine pcall_intro Try.func47 rfl rfl (Nat.le_of_ble_eq_true rfl) ?_
 intro w0 Zi a w h
 rw [f47] at hF
 refine zs [1] h an fun a w h => ?_
 refine wp_seq ?_
 refine zs [1,26] h an fun a w h => ?_
 refine zi h hF (fun hF => ?_) (fun hF => ?_)
 ·refine zs [2] h an fun a w h => ?_
  cases hF
  exact wp_ret (ret_okR tok h rfl (by kernel_rfl)).1
 ·refine wp_skip ?_
  refine wp_seq ?_
  refine zs [1,3] h an fun a w h => ?_
  refine wp_block ?_
  refine wp_loop_fuel (f47.l42 k x0) (fun v70 => [(1,.val sh17 (some x0)),(3,.val iS v70)]) (fun v h => by rw [f47.l42] at h; cases h) ?_ hF (ar h [1,3])
  intro m42 v70 a w hF h
  rw [f47.l42] at hF
  refine wp_seq ?_
  refine zs [1,3,31] h an fun a w h => ?_
  refine zi h hF (fun hF => ?_) (fun hF => ?_)
  ·refine wp_skip ?_
   refine wp_seq <| wp_block ?_
   obtain ⟨hc82,hF⟩:=of_if hF
   refine zs [1,3,4] h (ac hc82 an) fun a w h => ?_
   obtain ⟨r77,hr79,hF⟩:=of_bind hF
   obtain ⟨r78,hr80,hF⟩:=of_bind hF
   obtain ⟨hc81,hF⟩:=of_if hF
   refine wp_regy_seq tok (orc:=orcL [(41,[⟨.bool,r77⟩]),(46,[⟨.bool,r78⟩])]) (l:=[1,3,64]) ([],[],[],[]) 26 nw h (by kernel_rfl) (by kernel_rfl) (ac (c70 k (gD x0.1 (tZ v70) (iO,(iO,iO))).1 r77 hr79) (ac (fun (hg:((!r77)=false)) => c71 k (gD x0.1 (tZ v70) (iO,(iO,iO))).2 r78 (of_g hg hr80)) (ac hc81 an))) fun a w h => ?_
   refine zi h hF (fun hF => ?_) (fun hF => ?_)
   ·refine zs [2] h an fun a w h => ?_
    cases hF
    exact wp_ret (ret_okR tok h rfl (by kernel_rfl)).1
   ·refine wp_skip ?_
    refine zt [1,3] h an fun a w h => ?_
    exact ⟨(w64 (v70 + (1:Int))),hF,ar h [1,3]⟩
  ·refine wp_exit ?_
   refine zs [1,5] h an fun a w h => ?_
   refine wp_seq ?_
   refine zs [1,5,6] h an fun a w h => ?_
   refine wp_block ?_
   refine wp_loop_fuel (f47.l118 k x0) (fun v142 => [(1,.val sh17 (some x0)),(5,.val iS (List.length x0.1:Int)),(6,.val iS v142)]) (fun v h => by rw [f47.l118] at h; cases h) ?_ hF (ar h [1,5,6])
   intro m118 v142 a w hF h
   rw [f47.l118] at hF
   refine wp_seq ?_
   refine zs [1,5,6,72] h an fun a w h => ?_
   refine zi h hF (fun hF => ?_) (fun hF => ?_)
   ·refine wp_skip ?_
    refine wp_seq <| wp_block ?_
    obtain ⟨hc152,hF⟩:=of_if hF
    refine zs [1,5,6,7] h (ac hc152 an) fun a w h => ?_
    obtain ⟨r148,hr151,hF⟩:=of_bind hF
    refine zc (orcL [(103,[⟨.bool,r148⟩])]) [1,5,6,125] h (ac (fun (hg:((bif (bif (bif (decide (((gD x0.2.1 (tZ v142) zR).1:Int) < iO)) then true else (decide (((gD x0.2.1 (tZ v142) zR).1:Int) ≥ (List.length x0.1:Int)))) then true else (decide (((gD x0.2.1 (tZ v142) zR).2.1:Int) < iO))) then true else (decide (((gD x0.2.1 (tZ v142) zR).2.1:Int) ≥ (List.length x0.1:Int))))=false)) => c70 k (gD x0.2.1 (tZ v142) zR).2.2.1 r148 (of_g hg hr151)) an) fun a w h => ?_
    obtain ⟨v149,hv150,hF⟩:=of_bind hF
    replace h:=h.cast (S':=[(1,.val sh17 (some x0)),(5,.val iS (List.length x0.1:Int)),(6,.val iS v142),(125,.val .bool v149)]) (by cases hv150; kernel_rfl)
    refine zi h hF (fun hF => ?_) (fun hF => ?_)
    ·refine zs [2] h an fun a w h => ?_
     cases hF
     exact wp_ret (ret_okR tok h rfl (by kernel_rfl)).1
    ·refine wp_skip ?_
     refine zt [1,5,6] h an fun a w h => ?_
     exact ⟨(w64 (v142 + (1:Int))),hF,ar h [1,5,6]⟩
   ·refine wp_exit ?_
    refine zs [1,8] h an fun a w h => ?_
    refine wp_seq ?_
    refine zs [1,8,9] h an fun a w h => ?_
    refine wp_block ?_
    refine wp_loop_fuel (f47.l206 k x0) (fun v242 => [(1,.val sh17 (some x0)),(8,.val iS (List.length x0.2.1:Int)),(9,.val iS v242)]) (fun v h => by rw [f47.l206] at h; cases h) ?_ hF (ar h [1,8,9])
    intro m206 v242 a w hF h
    rw [f47.l206] at hF
    refine wp_seq ?_
    refine zs [1,8,9,133] h an fun a w h => ?_
    refine zi h hF (fun hF => ?_) (fun hF => ?_)
    ·refine wp_skip ?_
     refine wp_seq <| wp_block ?_
     obtain ⟨hc258,hF⟩:=of_if hF
     refine zs [1,8,9,10] h (ac hc258 an) fun a w h => ?_
     obtain ⟨hc254,hF⟩:=of_if hF
     obtain ⟨hc255,hF⟩:=of_if hF
     obtain ⟨hc256,hF⟩:=of_if hF
     obtain ⟨r251,hr257,hF⟩:=of_bind hF
     refine wp_regy_seq tok (orc:=orcL [(189,[⟨.bool,r251⟩])]) (l:=[1,8,9,192]) ([],[],[],[]) 52 nw h (by kernel_rfl) (by kernel_rfl) (ac hc254 (ac hc255 (ac hc256 (ac (fun (hg:(((bif (bif (bif (bif (decide (((gD x0.2.2 (tZ v242) (iO,iO)).1:Int) < iO)) then true else (decide (((gD x0.2.2 (tZ v242) (iO,iO)).1:Int) ≥ (List.length x0.2.1:Int)))) then true else (decide (((gD x0.2.2 (tZ v242) (iO,iO)).2:Int) < iO))) then true else (decide (((gD x0.2.2 (tZ v242) (iO,iO)).2:Int) ≥ (List.length x0.2.1:Int)))) then true else (((gD x0.2.1 (tZ (gD x0.2.2 (tZ v242) (iO,iO)).1) zR).2.1:Int) != (gD x0.2.1 (tZ (gD x0.2.2 (tZ v242) (iO,iO)).2) zR).1))=false) ∧ ((decide (v242 > iO))=true))) => c72 k (gD x0.2.2 (tZ (w64 (v242 - (1:Int)))) (iO,iO)) (gD x0.2.2 (tZ v242) (iO,iO)) r251 (of_g hg hr257)) an)))) fun a w h => ?_
     obtain ⟨v252,hv253,hF⟩:=of_bind hF
     replace h:=h.cast (S':=[(1,.val sh17 (some x0)),(8,.val iS (List.length x0.2.1:Int)),(9,.val iS v242),(192,.val .bool v252)]) (by cases hv253; kernel_rfl)
     refine zi h hF (fun hF => ?_) (fun hF => ?_)
     ·refine zs [2] h an fun a w h => ?_
      cases hF
      exact wp_ret (ret_okR tok h rfl (by kernel_rfl)).1
     ·refine wp_skip ?_
      refine zt [1,8,9] h an fun a w h => ?_
      exact ⟨(w64 (v242 + (1:Int))),hF,ar h [1,8,9]⟩
    ·refine wp_exit ?_
     refine zs [2] h an fun a w h => ?_
     cases hF
     exact wp_ret (ret_okR tok h rfl (by kernel_rfl)).1
def f83.l581 (k:Nat) (v529:Int) (x0:((List (Int × ((Int × Int) × (List (ByteArray × ByteArray))))) × ((List (Int × ((List Int) × (List (ByteArray × ByteArray))))) × (List (Int × ((List (Int × Bool)) × (List (ByteArray × ByteArray)))))))) (x1:Int) (q317:((List Bool) × Int)→Option ((List (Int × (Int × Int))) × ((List (Int × (Int × (Int × (Int × (Int × ByteArray)))))) × (List (Int × Int))))):Nat → ((List Bool) × Int)→Option ((List (Int × (Int × Int))) × ((List (Int × (Int × (Int × (Int × (Int × ByteArray)))))) × (List (Int × Int))))
 | 0,_ => none
 | m581+1,(v616,v617) => if (0≤v529∧v529 < (List.length x0.2.1:Int)) then (if (((decide (v617 < (List.length (List.getD x0.2.1 (Int.toNat v529) ((0:Int),(([]:(List Int)),([]:(List (ByteArray × ByteArray)))))).2.1:Int)))=true) → (0≤v529∧v529 < (List.length x0.2.1:Int))) then ((if ((decide (v617 < (List.length (List.getD x0.2.1 (Int.toNat v529) ((0:Int),(([]:(List Int)),([]:(List (ByteArray × ByteArray)))))).2.1:Int)))=true) then f98 k (List.getD x0.2.1 (Int.toNat v529) ((0:Int),(([]:(List Int)),([]:(List (ByteArray × ByteArray)))))).2.2 x1 else some default).bind fun r618 => (if (bif (decide (v617 < (List.length (List.getD x0.2.1 (Int.toNat v529) ((0:Int),(([]:(List Int)),([]:(List (ByteArray × ByteArray)))))).2.1:Int))) then (decide (r618 > (0:Int))) else false) then (if (0≤v529∧v529 < (List.length x0.2.1:Int)) then (if (0≤v617∧v617 < (List.length (List.getD x0.2.1 (Int.toNat v529) ((0:Int),(([]:(List Int)),([]:(List (ByteArray × ByteArray)))))).2.1:Int)) then ((f99 k x0 (List.getD (List.getD x0.2.1 (Int.toNat v529) ((0:Int),(([]:(List Int)),([]:(List (ByteArray × ByteArray)))))).2.1 (Int.toNat v617) (0:Int))).bind fun r624 => (if (0≤r624∧r624 < (List.length v616:Int)) then ((f83.l581 k v529 x0 x1 q317) m581 ((List.set v616 (Int.toNat r624) true),(IntKind.i64.wrap (v617 + (1:Int))))) else none)) else none) else none) else (q317 (v616,(IntKind.i64.wrap (v529 + (1:Int))))))) else none) else none
def f83.j705 (k:Nat) (v699:Int) (q671:((List (Int × (Int × Int))) × Int)→Option ((List (Int × (Int × Int))) × ((List (Int × (Int × (Int × (Int × (Int × ByteArray)))))) × (List (Int × Int))))):(List (Int × (Int × Int)))→Option ((List (Int × (Int × Int))) × ((List (Int × (Int × (Int × (Int × (Int × ByteArray)))))) × (List (Int × Int))))
 | v704 => q671 (v704,(IntKind.i64.wrap (v699 + (1:Int))))
def f83.j2384 (k:Nat) (v2362:Int) (q2270:((List (Int × (Int × (Int × (Int × (Int × ByteArray)))))) × Int)→Option ((List (Int × (Int × Int))) × ((List (Int × (Int × (Int × (Int × (Int × ByteArray)))))) × (List (Int × Int))))):(List (Int × (Int × (Int × (Int × (Int × ByteArray))))))→Option ((List (Int × (Int × Int))) × ((List (Int × (Int × (Int × (Int × (Int × ByteArray)))))) × (List (Int × Int))))
 | v2383 => q2270 (v2383,(IntKind.i64.wrap (v2362 + (1:Int))))
def f83.j2393 (k:Nat) (r2269:Int) (r2386:Int) (r2385:Int) (x0:((List (Int × ((Int × Int) × (List (ByteArray × ByteArray))))) × ((List (Int × ((List Int) × (List (ByteArray × ByteArray))))) × (List (Int × ((List (Int × Bool)) × (List (ByteArray × ByteArray)))))))) (v2127:Int) (v2388:Int) (r2387:Int) (r2390:ByteArray) (q2384:(List (Int × (Int × (Int × (Int × (Int × ByteArray))))))→Option ((List (Int × (Int × Int))) × ((List (Int × (Int × (Int × (Int × (Int × ByteArray)))))) × (List (Int × Int))))):(List (Int × (Int × (Int × (Int × (Int × ByteArray))))))→Option ((List (Int × (Int × Int))) × ((List (Int × (Int × (Int × (Int × (Int × ByteArray)))))) × (List (Int × Int))))
 | v2392 => if (r2269 != (1:Int)) then (if ((List.length v2392+List.length [(r2386,(r2385,((List.getD x0.2.1 (Int.toNat v2127) ((0:Int),(([]:(List Int)),([]:(List (ByteArray × ByteArray)))))).1,(v2388,(r2387,r2390)))))])*56≤140737488355328) then (q2384 (List.append v2392 [(r2386,(r2385,((List.getD x0.2.1 (Int.toNat v2127) ((0:Int),(([]:(List Int)),([]:(List (ByteArray × ByteArray)))))).1,(v2388,(r2387,r2390)))))])) else none) else (q2384 v2392)
def f83.j2389 (k:Nat) (x0:((List (Int × ((Int × Int) × (List (ByteArray × ByteArray))))) × ((List (Int × ((List Int) × (List (ByteArray × ByteArray))))) × (List (Int × ((List (Int × Bool)) × (List (ByteArray × ByteArray)))))))) (v2127:Int) (r2269:Int) (v2361:(List (Int × (Int × (Int × (Int × (Int × ByteArray))))))) (r2385:Int) (r2386:Int) (r2387:Int) (q2384:(List (Int × (Int × (Int × (Int × (Int × ByteArray))))))→Option ((List (Int × (Int × Int))) × ((List (Int × (Int × (Int × (Int × (Int × ByteArray)))))) × (List (Int × Int))))):Int→Option ((List (Int × (Int × Int))) × ((List (Int × (Int × (Int × (Int × (Int × ByteArray)))))) × (List (Int × Int))))
 | v2388 => (f103 k (List.getD x0.2.1 (Int.toNat v2127) ((0:Int),(([]:(List Int)),([]:(List (ByteArray × ByteArray)))))).2.2 (⟨#[110,97,109,101]⟩:ByteArray)).bind fun r2390 => (if (r2269 != (-1:Int)) then (if ((List.length v2361+List.length [(r2385,(r2386,((List.getD x0.2.1 (Int.toNat v2127) ((0:Int),(([]:(List Int)),([]:(List (ByteArray × ByteArray)))))).1,(v2388,(r2387,r2390)))))])*56≤140737488355328) then (f83.j2393 k r2269 r2386 r2385 x0 v2127 v2388 r2387 r2390 (q2384) (List.append v2361 [(r2385,(r2386,((List.getD x0.2.1 (Int.toNat v2127) ((0:Int),(([]:(List Int)),([]:(List (ByteArray × ByteArray)))))).1,(v2388,(r2387,r2390)))))])) else none) else (f83.j2393 k r2269 r2386 r2385 x0 v2127 v2388 r2387 r2390 (q2384) v2361))
def f83.l2270 (k:Nat) (x0:((List (Int × ((Int × Int) × (List (ByteArray × ByteArray))))) × ((List (Int × ((List Int) × (List (ByteArray × ByteArray))))) × (List (Int × ((List (Int × Bool)) × (List (ByteArray × ByteArray)))))))) (v2127:Int) (r2268:Int) (v698:(List (Int × (Int × Int)))) (r2269:Int) (q1559:((List (Int × (Int × (Int × (Int × (Int × ByteArray)))))) × Int)→Option ((List (Int × (Int × Int))) × ((List (Int × (Int × (Int × (Int × (Int × ByteArray)))))) × (List (Int × Int))))):Nat → ((List (Int × (Int × (Int × (Int × (Int × ByteArray)))))) × Int)→Option ((List (Int × (Int × Int))) × ((List (Int × (Int × (Int × (Int × (Int × ByteArray)))))) × (List (Int × Int))))
 | 0,_ => none
 | m2270+1,(v2361,v2362) => if (bif (decide (v2362 < (List.length (List.getD x0.2.1 (Int.toNat v2127) ((0:Int),(([]:(List Int)),([]:(List (ByteArray × ByteArray)))))).2.1:Int))) then (decide (r2268 > (0:Int))) else false) then (if (0 ≤ (IntKind.i64.wrap (v2362 - (1:Int))) ∧ (IntKind.i64.wrap (v2362 - (1:Int))) < (List.length (List.getD x0.2.1 (Int.toNat v2127) ((0:Int),(([]:(List Int)),([]:(List (ByteArray × ByteArray)))))).2.1:Int)) then ((f101 k (v698,(v2361,([]:(List (Int × Int))))) (List.getD (List.getD x0.2.1 (Int.toNat v2127) ((0:Int),(([]:(List Int)),([]:(List (ByteArray × ByteArray)))))).2.1 (Int.toNat (IntKind.i64.wrap (v2362 - (1:Int)))) (0:Int))).bind fun r2385 => (if (0≤v2362∧v2362 < (List.length (List.getD x0.2.1 (Int.toNat v2127) ((0:Int),(([]:(List Int)),([]:(List (ByteArray × ByteArray)))))).2.1:Int)) then ((f101 k (v698,(v2361,([]:(List (Int × Int))))) (List.getD (List.getD x0.2.1 (Int.toNat v2127) ((0:Int),(([]:(List Int)),([]:(List (ByteArray × ByteArray)))))).2.1 (Int.toNat v2362) (0:Int))).bind fun r2386 => (if (0≤r2385∧r2385 < (List.length v698:Int)) then (if (0≤r2386∧r2386 < (List.length v698:Int)) then ((f102 k (List.getD v698 (Int.toNat r2385) ((0:Int),((0:Int),(0:Int)))).2 (List.getD v698 (Int.toNat r2386) ((0:Int),((0:Int),(0:Int)))).2).bind fun r2387 => (if (r2268≠0) then (if (decide (((IntKind.i64.wrap (Int.tdiv (IntKind.i64.wrap ((IntKind.i64.wrap (r2387+r2268)) - (1:Int))) r2268)):Int) < (1:Int))) then (f83.j2389 k x0 v2127 r2269 v2361 r2385 r2386 r2387 (f83.j2384 k v2362 ((f83.l2270 k x0 v2127 r2268 v698 r2269 q1559) m2270)) (1:Int)) else (f83.j2389 k x0 v2127 r2269 v2361 r2385 r2386 r2387 (f83.j2384 k v2362 ((f83.l2270 k x0 v2127 r2268 v698 r2269 q1559) m2270)) (IntKind.i64.wrap (Int.tdiv (IntKind.i64.wrap ((IntKind.i64.wrap (r2387+r2268)) - (1:Int))) r2268)))) else none)) else none) else none)) else none)) else none) else (q1559 (v2361,(IntKind.i64.wrap (v2127 + (1:Int)))))
def f83.l1559 (k:Nat) (x0:((List (Int × ((Int × Int) × (List (ByteArray × ByteArray))))) × ((List (Int × ((List Int) × (List (ByteArray × ByteArray))))) × (List (Int × ((List (Int × Bool)) × (List (ByteArray × ByteArray)))))))) (x1:Int) (v698:(List (Int × (Int × Int)))):Nat → ((List (Int × (Int × (Int × (Int × (Int × ByteArray)))))) × Int)→Option ((List (Int × (Int × Int))) × ((List (Int × (Int × (Int × (Int × (Int × ByteArray)))))) × (List (Int × Int))))
 | 0,_ => none
 | m1559+1,(v2126,v2127) => if (decide (v2127 < (List.length x0.2.1:Int))) then (if (0≤v2127∧v2127 < (List.length x0.2.1:Int)) then ((f98 k (List.getD x0.2.1 (Int.toNat v2127) ((0:Int),(([]:(List Int)),([]:(List (ByteArray × ByteArray)))))).2.2 x1).bind fun r2268 => ((f100 k (List.getD x0.2.1 (Int.toNat v2127) ((0:Int),(([]:(List Int)),([]:(List (ByteArray × ByteArray)))))).2.2 x1).bind fun r2269 => (f83.l2270 k x0 v2127 r2268 v698 r2269 ((f83.l1559 k x0 x1 v698) m1559) k (v2126,(1:Int))))) else none) else ((f47 k (v698,(v2126,([]:(List (Int × Int)))))).bind fun r2408 => (if (!r2408) then (some (([]:(List (Int × (Int × Int)))),(([]:(List (Int × (Int × (Int × (Int × (Int × ByteArray))))))),([]:(List (Int × Int)))))) else (some (v698,(v2126,([]:(List (Int × Int))))))))
def f83.l671 (k:Nat) (x0:((List (Int × ((Int × Int) × (List (ByteArray × ByteArray))))) × ((List (Int × ((List Int) × (List (ByteArray × ByteArray))))) × (List (Int × ((List (Int × Bool)) × (List (ByteArray × ByteArray)))))))) (v528:(List Bool)) (x1:Int):Nat → ((List (Int × (Int × Int))) × Int)→Option ((List (Int × (Int × Int))) × ((List (Int × (Int × (Int × (Int × (Int × ByteArray)))))) × (List (Int × Int))))
 | 0,_ => none
 | m671+1,(v698,v699) => if (decide (v699 < (List.length x0.1:Int))) then (if (0≤v699∧v699 < (List.length v528:Int)) then (if (List.getD v528 (Int.toNat v699) false) then (if (0≤v699∧v699 < (List.length x0.1:Int)) then (if (0≤v699∧v699 < (List.length x0.1:Int)) then (if ((List.length v698+List.length [((List.getD x0.1 (Int.toNat v699) ((0:Int),(((0:Int),(0:Int)),([]:(List (ByteArray × ByteArray)))))).1,(List.getD x0.1 (Int.toNat v699) ((0:Int),(((0:Int),(0:Int)),([]:(List (ByteArray × ByteArray)))))).2.1)])*24≤140737488355328) then (f83.j705 k v699 ((f83.l671 k x0 v528 x1) m671) (List.append v698 [((List.getD x0.1 (Int.toNat v699) ((0:Int),(((0:Int),(0:Int)),([]:(List (ByteArray × ByteArray)))))).1,(List.getD x0.1 (Int.toNat v699) ((0:Int),(((0:Int),(0:Int)),([]:(List (ByteArray × ByteArray)))))).2.1)])) else none) else none) else none) else (f83.j705 k v699 ((f83.l671 k x0 v528 x1) m671) v698)) else none) else (f83.l1559 k x0 x1 v698 k (([]:(List (Int × (Int × (Int × (Int × (Int × ByteArray))))))),(0:Int)))
def f83.l317 (k:Nat) (x0:((List (Int × ((Int × Int) × (List (ByteArray × ByteArray))))) × ((List (Int × ((List Int) × (List (ByteArray × ByteArray))))) × (List (Int × ((List (Int × Bool)) × (List (ByteArray × ByteArray)))))))) (x1:Int):Nat → ((List Bool) × Int)→Option ((List (Int × (Int × Int))) × ((List (Int × (Int × (Int × (Int × (Int × ByteArray)))))) × (List (Int × Int))))
 | 0,_ => none
 | m317+1,(v528,v529) => if (decide (v529 < (List.length x0.2.1:Int))) then (f83.l581 k v529 x0 x1 ((f83.l317 k x0 x1) m317) k (v528,(0:Int))) else (f83.l671 k x0 v528 x1 k (([]:(List (Int × (Int × Int)))),(0:Int)))
def f83 (k:Nat) (x0:((List (Int × ((Int × Int) × (List (ByteArray × ByteArray))))) × ((List (Int × ((List Int) × (List (ByteArray × ByteArray))))) × (List (Int × ((List (Int × Bool)) × (List (ByteArray × ByteArray)))))))) (x1:Int):Option ((List (Int × (Int × Int))) × ((List (Int × (Int × (Int × (Int × (Int × ByteArray)))))) × (List (Int × Int)))):=(f97 k x0).bind fun r1 => (if (bif (!r1) then true else (bif (x1 != (1:Int)) then (x1 != (2:Int)) else false)) then (some (([]:(List (Int × (Int × Int)))),(([]:(List (Int × (Int × (Int × (Int × (Int × ByteArray))))))),([]:(List (Int × Int)))))) else (if (0 ≤ (List.length x0.1:Int)∧Int.toNat (List.length x0.1:Int)*1≤140737488355328) then (f83.l317 k x0 x1 k ((List.replicate (Int.toNat (List.length x0.1:Int)) false),(0:Int))) else none))
theorem c83 (k:Nat) (x0:((List (Int × ((Int × Int) × (List (ByteArray × ByteArray))))) × ((List (Int × ((List Int) × (List (ByteArray × ByteArray))))) × (List (Int × ((List (Int × Bool)) × (List (ByteArray × ByteArray)))))))) (x1:Int) (r:tG) (hF:f83 k x0 x1=some r):PCall Try.prog 83 [⟨sh11,x0⟩,⟨iS,x1⟩] [⟨sh20,r⟩]:=by
 refine pcall_intro Try.func83 rfl rfl (Nat.le_of_ble_eq_true rfl) ?_
 intro w0 Zi a w h
 rw [f83] at hF
 refine zs [1,2,4] h an fun a w h => ?_
 refine zs [1,2,4,5] h an fun a w h => ?_
 refine wp_seq ?_
 obtain ⟨r1,hr2411,hF⟩:=of_bind hF
 refine zc (orcL [(22,[⟨.bool,r1⟩])]) [1,2,4,5,31] h (ac (c97 k x0 r1 hr2411) an) fun a w h => ?_
 refine zi h hF (fun hF => ?_) (fun hF => ?_)
 ·refine zs [4] h an fun a w h => ?_
  cases hF
  exact wp_ret (ret_okR tok h rfl (by kernel_rfl)).1
 ·refine wp_skip ?_
  obtain ⟨hc2410,hF⟩:=of_if hF
  refine zs [1,2,4,5,6] h (ac hc2410 an) fun a w h => ?_
  refine wp_seq ?_
  refine zs [1,2,4,5,6,7] h an fun a w h => ?_
  refine wp_block ?_
  refine wp_loop_fuel (f83.l317 k x0 x1) (fun ((v528,v529):((List Bool) × Int)) => [(1,.val iS x1),(2,.val sh10 (some x0)),(4,.val sh16 (some (([]:(List (Int × (Int × Int)))),(([]:(List (Int × (Int × (Int × (Int × (Int × ByteArray))))))),([]:(List (Int × Int))))))),(5,.val sh16 (some (([]:(List (Int × (Int × Int)))),(([]:(List (Int × (Int × (Int × (Int × (Int × ByteArray))))))),([]:(List (Int × Int))))))),(6,.val (.sl true 4 .bool) v528),(7,.val iS v529)]) (fun v h => by obtain ⟨v528,v529⟩:=v; rw [f83.l317] at h; cases h) ?_ hF (ar h [1,2,4,5,6,7])
  intro m317 v a w hF h
  obtain ⟨v528,v529⟩:=v
  rw [f83.l317] at hF
  refine wp_seq ?_
  refine zs [1,2,4,5,6,7,41] h an fun a w h => ?_
  refine zi h hF (fun hF => ?_) (fun hF => ?_)
  ·refine wp_skip ?_
   refine wp_seq <| wp_block ?_
   refine zs [1,2,4,5,6,7,8] h an fun a w h => ?_
   refine wp_block ?_
   refine wp_loop_fuel (f83.l581 k v529 x0 x1 ((f83.l317 k x0 x1) m317)) (fun ((v616,v617):((List Bool) × Int)) => [(1,.val iS x1),(2,.val sh10 (some x0)),(4,.val sh16 (some (([]:(List (Int × (Int × Int)))),(([]:(List (Int × (Int × (Int × (Int × (Int × ByteArray))))))),([]:(List (Int × Int))))))),(5,.val sh16 (some (([]:(List (Int × (Int × Int)))),(([]:(List (Int × (Int × (Int × (Int × (Int × ByteArray))))))),([]:(List (Int × Int))))))),(6,.val (.sl true 4 .bool) v616),(7,.val iS v529),(8,.val iS v617)]) (fun v h => by obtain ⟨v616,v617⟩:=v; rw [f83.l581] at h; cases h) ?_ hF (ar h [1,2,4,5,6,7,8])
   intro m581 v a w hF h
   obtain ⟨v616,v617⟩:=v
   rw [f83.l581] at hF
   refine wp_seq ?_
   obtain ⟨hc629,hF⟩:=of_if hF
   obtain ⟨hc630,hF⟩:=of_if hF
   obtain ⟨r618,hr631,hF⟩:=of_bind hF
   refine zc (orcL [(61,[⟨iS,r618⟩])]) [1,2,4,5,6,7,8,63] h (ac hc629 (ac hc630 (ac (fun (hg:((decide (v617 < (List.length (gD x0.2.1 (tZ v529) (iO,(lO,([]:(List (ByteArray × ByteArray)))))).2.1:Int)))=true)) => c98 k (gD x0.2.1 (tZ v529) (iO,(lO,([]:(List (ByteArray × ByteArray)))))).2.2 x1 r618 (of_g hg hr631)) an))) fun a w h => ?_
   refine zi h hF (fun hF => ?_) (fun hF => ?_)
   ·refine wp_skip ?_
    refine wp_seq <| wp_block ?_
    obtain ⟨hc625,hF⟩:=of_if hF
    obtain ⟨hc626,hF⟩:=of_if hF
    obtain ⟨r624,hr627,hF⟩:=of_bind hF
    obtain ⟨hc628,hF⟩:=of_if hF
    refine wp_regy tok (orc:=orcL [(77,[⟨iS,r624⟩])]) (l:=[1,2,4,5,6,7,8]) ([],[],[],[]) 13 nw h (by kernel_rfl) (by kernel_rfl) (ac hc625 (ac hc626 (ac (c99 k x0 (gD (gD x0.2.1 (tZ v529) (iO,(lO,([]:(List (ByteArray × ByteArray)))))).2.1 (tZ v617) iO) r624 hr627) (ac hc628 an)))) fun a w h => ?_
    refine zt [1,2,4,5,6,7,8] h an fun a w h => ?_
    exact ⟨((List.set v616 (tZ r624) true),(w64 (v617 + (1:Int)))),hF,ar h [1,2,4,5,6,7,8]⟩
   ·refine wp_exit ?_
    refine zt [1,2,4,5,6,7] h an fun a w h => ?_
    exact ⟨(v616,(w64 (v529 + (1:Int)))),hF,ar h [1,2,4,5,6,7]⟩
  ·refine wp_exit ?_
   refine wp_seq ?_
   refine zs [1,2,4,5,6,9] h an fun a w h => ?_
   refine wp_block ?_
   refine wp_loop_fuel (f83.l671 k x0 v528 x1) (fun ((v698,v699):((List (Int × (Int × Int))) × Int)) => [(1,.val iS x1),(2,.val sh10 (some x0)),(4,.val sh16 (some (([]:(List (Int × (Int × Int)))),(([]:(List (Int × (Int × (Int × (Int × (Int × ByteArray))))))),([]:(List (Int × Int))))))),(5,.val sh16 (some (v698,(([]:(List (Int × (Int × (Int × (Int × (Int × ByteArray))))))),([]:(List (Int × Int))))))),(6,.val (.sl true 4 .bool) v528),(9,.val iS v699)]) (fun v h => by obtain ⟨v698,v699⟩:=v; rw [f83.l671] at h; cases h) ?_ hF (ar h [1,2,4,5,6,9])
   intro m671 v a w hF h
   obtain ⟨v698,v699⟩:=v
   rw [f83.l671] at hF
   refine wp_seq ?_
   refine zs [1,2,4,5,6,9,83] h an fun a w h => ?_
   refine zi h hF (fun hF => ?_) (fun hF => ?_)
   ·refine wp_skip ?_
    refine wp_mid (fun a w => ∃ v:(List (Int × (Int × Int))),f83.j705 k v699 ((f83.l671 k x0 v528 x1) m671) v=some r∧Rel w0 (fun _ => False) Zi Try.f83.ntmps ((fun (v704:(List (Int × (Int × Int)))) => ([(1,.val iS x1),(2,.val sh10 (some x0)),(4,.val sh16 (some (([]:(List (Int × (Int × Int)))),(([]:(List (Int × (Int × (Int × (Int × (Int × ByteArray))))))),([]:(List (Int × Int))))))),(5,.val sh16 (some (v704,(([]:(List (Int × (Int × (Int × (Int × (Int × ByteArray))))))),([]:(List (Int × Int))))))),(6,.val (.sl true 4 .bool) v528),(9,.val iS v699)]:SS)) v) a w) ?_ ?_
    ·
     refine wp_block ?_
     obtain ⟨hc709,hF⟩:=of_if hF
     refine zs [1,2,4,5,6,9,89] h (ac hc709 an) fun a w h => ?_
     refine zi h hF (fun hF => ?_) (fun hF => ?_)
     ·obtain ⟨hc706,hF⟩:=of_if hF
      obtain ⟨hc707,hF⟩:=of_if hF
      obtain ⟨hc708,hF⟩:=of_if hF
      refine wp_regy tok (orc:=orcL [(106,[⟨.pt false 4294967293 .unit,some ()⟩])]) (l:=[1,2,4,5,6,9]) ([],[],[],[]) 18 nw h (by kernel_rfl) (by kernel_rfl) (ac hc706 (ac hc707 (ac (PrefL.mk (l:=[[.der,.fst],[.der,.fst]]) (p:=[.der,.fst]) rfl) (ac hc708 (ac (show ([.der,.fst]:Path)=[.der,.fst] from rfl) an))))) fun a w h => ?_
      exact ⟨(List.append v698 [((gD x0.1 (tZ v699) (iO,((iO,iO),([]:(List (ByteArray × ByteArray)))))).1,(gD x0.1 (tZ v699) (iO,((iO,iO),([]:(List (ByteArray × ByteArray)))))).2.1)]),hF,ar h [1,2,4,5,6,9]⟩
     ·refine wp_skip ?_
      exact ⟨v698,hF,ar h [1,2,4,5,6,9]⟩
    ·rintro a w ⟨v704,hF,h⟩
     rw [f83.j705] at hF
     refine zt [1,2,4,5,6,9] h an fun a w h => ?_
     exact ⟨(v704,(w64 (v699 + (1:Int)))),hF,ar h [1,2,4,5,6,9]⟩
   ·refine wp_exit ?_
    refine wp_seq ?_
    refine zs [1,2,4,5,10] h an fun a w h => ?_
    refine wp_block ?_
    refine wp_loop_fuel (f83.l1559 k x0 x1 v698) (fun ((v2126,v2127):((List (Int × (Int × (Int × (Int × (Int × ByteArray)))))) × Int)) => [(1,.val iS x1),(2,.val sh10 (some x0)),(4,.val sh16 (some (([]:(List (Int × (Int × Int)))),(([]:(List (Int × (Int × (Int × (Int × (Int × ByteArray))))))),([]:(List (Int × Int))))))),(5,.val sh16 (some (v698,(v2126,([]:(List (Int × Int))))))),(10,.val iS v2127)]) (fun v h => by obtain ⟨v2126,v2127⟩:=v; rw [f83.l1559] at h; cases h) ?_ hF (ar h [1,2,4,5,10])
    intro m1559 v a w hF h
    obtain ⟨v2126,v2127⟩:=v
    rw [f83.l1559] at hF
    refine wp_seq ?_
    refine zs [1,2,4,5,10,112] h an fun a w h => ?_
    refine zi h hF (fun hF => ?_) (fun hF => ?_)
    ·refine wp_skip ?_
     refine wp_seq <| wp_block ?_
     obtain ⟨hc2407,hF⟩:=of_if hF
     refine zs [1,2,4,5,10,11] h (ac hc2407 an) fun a w h => ?_
     obtain ⟨r2268,hr2406,hF⟩:=of_bind hF
     refine zc (orcL [(123,[⟨iS,r2268⟩])]) [1,2,4,5,10,11,12] h (ac (c98 k (gD x0.2.1 (tZ v2127) (iO,(lO,([]:(List (ByteArray × ByteArray)))))).2.2 x1 r2268 hr2406) an) fun a w h => ?_
     obtain ⟨r2269,hr2405,hF⟩:=of_bind hF
     refine zc (orcL [(127,[⟨iS,r2269⟩])]) [1,2,4,5,10,11,12,13] h (ac (c100 k (gD x0.2.1 (tZ v2127) (iO,(lO,([]:(List (ByteArray × ByteArray)))))).2.2 x1 r2269 hr2405) an) fun a w h => ?_
     refine zs [1,2,4,5,10,11,12,13,14] h an fun a w h => ?_
     refine wp_block ?_
     refine wp_loop_fuel (f83.l2270 k x0 v2127 r2268 v698 r2269 ((f83.l1559 k x0 x1 v698) m1559)) (fun ((v2361,v2362):((List (Int × (Int × (Int × (Int × (Int × ByteArray)))))) × Int)) => [(1,.val iS x1),(2,.val sh10 (some x0)),(4,.val sh16 (some (([]:(List (Int × (Int × Int)))),(([]:(List (Int × (Int × (Int × (Int × (Int × ByteArray))))))),([]:(List (Int × Int))))))),(5,.val sh16 (some (v698,(v2361,([]:(List (Int × Int))))))),(10,.val iS v2127),(11,.val sh12 (some (gD x0.2.1 (tZ v2127) (iO,(lO,([]:(List (ByteArray × ByteArray)))))))),(12,.val iS r2268),(13,.val iS r2269),(14,.val iS v2362)]) (fun v h => by obtain ⟨v2361,v2362⟩:=v; rw [f83.l2270] at h; cases h) ?_ hF (ar h [1,2,4,5,10,11,12,13,14])
     intro m2270 v a w hF h
     obtain ⟨v2361,v2362⟩:=v
     rw [f83.l2270] at hF
     refine wp_seq ?_
     refine zs [1,2,4,5,10,11,12,13,14,136] h an fun a w h => ?_
     refine zi h hF (fun hF => ?_) (fun hF => ?_)
     ·refine wp_skip ?_
      refine wp_mid (fun a w => ∃ v:(List (Int × (Int × (Int × (Int × (Int × ByteArray)))))),f83.j2384 k v2362 ((f83.l2270 k x0 v2127 r2268 v698 r2269 ((f83.l1559 k x0 x1 v698) m1559)) m2270) v=some r∧Rel w0 (fun _ => False) Zi Try.f83.ntmps ((fun (v2383:(List (Int × (Int × (Int × (Int × (Int × ByteArray))))))) => ([(1,.val iS x1),(2,.val sh10 (some x0)),(4,.val sh16 (some (([]:(List (Int × (Int × Int)))),(([]:(List (Int × (Int × (Int × (Int × (Int × ByteArray))))))),([]:(List (Int × Int))))))),(5,.val sh16 (some (v698,(v2383,([]:(List (Int × Int))))))),(10,.val iS v2127),(11,.val sh12 (some (gD x0.2.1 (tZ v2127) (iO,(lO,([]:(List (ByteArray × ByteArray)))))))),(12,.val iS r2268),(13,.val iS r2269),(14,.val iS v2362)]:SS)) v) a w) ?_ ?_
      ·
       refine wp_block ?_
       obtain ⟨hc2403,hF⟩:=of_if hF
       obtain ⟨r2385,hr2404,hF⟩:=of_bind hF
       refine wp_regy_seq tok (orc:=orcL [(146,[⟨iS,r2385⟩])]) (l:=[1,2,4,5,10,11,12,13,14,15]) ([],[],[],[]) 9 nw h (by kernel_rfl) (by kernel_rfl) (ac hc2403 (ac (c101 k (v698,(v2361,([]:(List (Int × Int))))) (gD (gD x0.2.1 (tZ v2127) (iO,(lO,([]:(List (ByteArray × ByteArray)))))).2.1 (tZ (w64 (v2362 - (1:Int)))) iO) r2385 hr2404) an)) fun a w h => ?_
       obtain ⟨hc2401,hF⟩:=of_if hF
       obtain ⟨r2386,hr2402,hF⟩:=of_bind hF
       refine wp_regy_seq tok (orc:=orcL [(153,[⟨iS,r2386⟩])]) (l:=[1,2,4,5,10,11,12,13,14,15,16]) ([],[],[],[]) 8 nw h (by kernel_rfl) (by kernel_rfl) (ac hc2401 (ac (c101 k (v698,(v2361,([]:(List (Int × Int))))) (gD (gD x0.2.1 (tZ v2127) (iO,(lO,([]:(List (ByteArray × ByteArray)))))).2.1 (tZ v2362) iO) r2386 hr2402) an)) fun a w h => ?_
       obtain ⟨hc2398,hF⟩:=of_if hF
       obtain ⟨hc2399,hF⟩:=of_if hF
       obtain ⟨r2387,hr2400,hF⟩:=of_bind hF
       refine wp_regy_seq tok (orc:=orcL [(166,[⟨iS,r2387⟩])]) (l:=[1,2,4,5,10,11,12,13,14,15,16,17]) ([],[],[],[]) 14 nw h (by kernel_rfl) (by kernel_rfl) (ac hc2398 (ac hc2399 (ac (c102 k (gD v698 (tZ r2385) (iO,(iO,iO))).2 (gD v698 (tZ r2386) (iO,(iO,iO))).2 r2387 hr2400) an))) fun a w h => ?_
       obtain ⟨hc2397,hF⟩:=of_if hF
       refine zs [1,2,4,5,10,11,12,13,14,15,16,17,18] h (ac hc2397 an) fun a w h => ?_
       refine wp_seq ?_
       refine zs [1,2,4,5,10,11,12,13,14,15,16,17,18,174] h an fun a w h => ?_
       refine wp_midT (fun a w => ∃ v:Int,f83.j2389 k x0 v2127 r2269 v2361 r2385 r2386 r2387 (f83.j2384 k v2362 ((f83.l2270 k x0 v2127 r2268 v698 r2269 ((f83.l1559 k x0 x1 v698) m1559)) m2270)) v=some r∧Rel w0 (fun _ => False) Zi Try.f83.ntmps ((fun v2388 => ([(1,.val iS x1),(2,.val sh10 (some x0)),(4,.val sh16 (some (([]:(List (Int × (Int × Int)))),(([]:(List (Int × (Int × (Int × (Int × (Int × ByteArray))))))),([]:(List (Int × Int))))))),(5,.val sh16 (some (v698,(v2361,([]:(List (Int × Int))))))),(10,.val iS v2127),(11,.val sh12 (some (gD x0.2.1 (tZ v2127) (iO,(lO,([]:(List (ByteArray × ByteArray)))))))),(12,.val iS r2268),(13,.val iS r2269),(14,.val iS v2362),(15,.val iS r2385),(16,.val iS r2386),(17,.val iS r2387),(18,.val iS v2388)]:SS)) v) a w) ?_ ?_
       ·
        refine zi h hF (fun hF => ?_) (fun hF => ?_)
        ·refine zt [1,2,4,5,10,11,12,13,14,15,16,17,18] h an fun a w h => ?_
         exact ⟨(1:Int),hF,ar h [1,2,4,5,10,11,12,13,14,15,16,17,18]⟩
        ·refine wp_skip ?_
         exact ⟨(w64 (Int.tdiv (w64 ((w64 (r2387+r2268)) - (1:Int))) r2268)),hF,ar h [1,2,4,5,10,11,12,13,14,15,16,17,18]⟩
       ·rintro a w ⟨v2388,hF,h⟩
        rw [f83.j2389] at hF
        obtain ⟨r2390,hr2396,hF⟩:=of_bind hF
        refine wp_regy_seq tok (orc:=orcL [(183,[⟨.str,r2390⟩])]) (l:=[1,2,4,5,10,11,12,13,14,15,16,19]) ([],[],[],[]) 11 nw h (by kernel_rfl) (by kernel_rfl) (ac (c103 k (gD x0.2.1 (tZ v2127) (iO,(lO,([]:(List (ByteArray × ByteArray)))))).2.2 (⟨#[110,97,109,101]⟩:ByteArray) r2390 hr2396) an) fun a w h => ?_
        refine wp_seq ?_
        refine zs [1,2,4,5,10,11,12,13,14,15,16,19,186] h an fun a w h => ?_
        refine wp_midT (fun a w => ∃ v:(List (Int × (Int × (Int × (Int × (Int × ByteArray)))))),f83.j2393 k r2269 r2386 r2385 x0 v2127 v2388 r2387 r2390 (f83.j2384 k v2362 ((f83.l2270 k x0 v2127 r2268 v698 r2269 ((f83.l1559 k x0 x1 v698) m1559)) m2270)) v=some r∧Rel w0 (fun _ => False) Zi Try.f83.ntmps ((fun (v2392:(List (Int × (Int × (Int × (Int × (Int × ByteArray))))))) => ([(1,.val iS x1),(2,.val sh10 (some x0)),(4,.val sh16 (some (([]:(List (Int × (Int × Int)))),(([]:(List (Int × (Int × (Int × (Int × (Int × ByteArray))))))),([]:(List (Int × Int))))))),(5,.val sh16 (some (v698,(v2392,([]:(List (Int × Int))))))),(10,.val iS v2127),(11,.val sh12 (some (gD x0.2.1 (tZ v2127) (iO,(lO,([]:(List (ByteArray × ByteArray)))))))),(12,.val iS r2268),(13,.val iS r2269),(14,.val iS v2362),(15,.val iS r2385),(16,.val iS r2386),(19,.val sh19 (some (r2385,(r2386,((gD x0.2.1 (tZ v2127) (iO,(lO,([]:(List (ByteArray × ByteArray)))))).1,(v2388,(r2387,r2390)))))))]:SS)) v) a w) ?_ ?_
        ·
         refine zi h hF (fun hF => ?_) (fun hF => ?_)
         ·obtain ⟨hc2395,hF⟩:=of_if hF
          refine zd (orcL [(191,[⟨.pt false 4294967293 .unit,some ()⟩])]) [1,2,4,5,10,11,12,13,14,15,16,19] h (ac (PrefL.mk (l:=[[.der,.snd,.fst],[.der,.snd,.fst]]) (p:=[.der,.snd,.fst]) rfl) (ac hc2395 (ac (show ([.der,.snd,.fst]:Path)=[.der,.snd,.fst] from rfl) an))) fun a w h => ?_
          exact ⟨(List.append v2361 [(r2385,(r2386,((gD x0.2.1 (tZ v2127) (iO,(lO,([]:(List (ByteArray × ByteArray)))))).1,(v2388,(r2387,r2390)))))]),hF,ar h [1,2,4,5,10,11,12,13,14,15,16,19]⟩
         ·refine wp_skip ?_
          exact ⟨v2361,hF,ar h [1,2,4,5,10,11,12,13,14,15,16,19]⟩
        ·rintro a w ⟨v2392,hF,h⟩
         rw [f83.j2393] at hF
         refine zs [1,2,4,5,10,11,12,13,14,15,16,19,194] h an fun a w h => ?_
         refine zi h hF (fun hF => ?_) (fun hF => ?_)
         ·refine zs [1,2,4,5,10,11,12,13,14,15,19] h an fun a w h => ?_
          refine zs [1,2,4,5,10,11,12,13,14,19] h an fun a w h => ?_
          obtain ⟨hc2394,hF⟩:=of_if hF
          refine zd (orcL [(203,[⟨.pt false 4294967293 .unit,some ()⟩])]) [1,2,4,5,10,11,12,13,14] h (ac (PrefL.mk (l:=[[.der,.snd,.fst],[.der,.snd,.fst]]) (p:=[.der,.snd,.fst]) rfl) (ac hc2394 (ac (show ([.der,.snd,.fst]:Path)=[.der,.snd,.fst] from rfl) an))) fun a w h => ?_
          exact ⟨(List.append v2392 [(r2386,(r2385,((gD x0.2.1 (tZ v2127) (iO,(lO,([]:(List (ByteArray × ByteArray)))))).1,(v2388,(r2387,r2390)))))]),hF,ar h [1,2,4,5,10,11,12,13,14]⟩
         ·refine wp_skip ?_
          exact ⟨v2392,hF,ar h [1,2,4,5,10,11,12,13,14]⟩
      ·rintro a w ⟨v2383,hF,h⟩
       rw [f83.j2384] at hF
       refine zt [1,2,4,5,10,11,12,13,14] h an fun a w h => ?_
       exact ⟨(v2383,(w64 (v2362 + (1:Int)))),hF,ar h [1,2,4,5,10,11,12,13,14]⟩
     ·refine wp_exit ?_
      refine zt [1,2,4,5,10] h an fun a w h => ?_
      exact ⟨(v2361,(w64 (v2127 + (1:Int)))),hF,ar h [1,2,4,5,10]⟩
    ·refine wp_exit ?_
     refine wp_seq ?_
     obtain ⟨r2408,hr2409,hF⟩:=of_bind hF
     refine zc (orcL [(206,[⟨.bool,r2408⟩])]) [4,5,207] h (ac (c47 k (v698,(v2126,([]:(List (Int × Int))))) r2408 hr2409) an) fun a w h => ?_
     refine zi h hF (fun hF => ?_) (fun hF => ?_)
     ·refine zs [4] h an fun a w h => ?_
      cases hF
      exact wp_ret (ret_okR tok h rfl (by kernel_rfl)).1
     ·refine wp_skip ?_
      refine zs [4] h an fun a w h => ?_
      cases hF
      exact wp_ret (ret_okR tok h rfl (by kernel_rfl)).1
end Go.Proofs.Ytdjadmdiehkfdaa.V
