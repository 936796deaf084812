/-
  THE CONTRACTS OF SOME FUNCTIONS OF THIS SEAT, PRINTED BY A PROGRAM OF THIS PROJECT (wip/gen/vgen.py).
-/
import Derived.Test.YtdjadmdiehkfdaaProg
import Derived.Test.YtdjadmdiehkfdaaVmW
import Derived.Test.YtdjadmdiehkfdaaVmAn
import Derived.KernelRfl
set_option linter.unusedVariables false
open Go Go.Vm Go.Proofs
namespace Go.Proofs.Ytdjadmdiehkfdaa.V
set_option maxRecDepth 100000
abbrev zR:Int × (Int × (Int × (Int × (Int × ByteArray)))):=((0:Int),((0:Int),((0:Int),((0:Int),((0:Int),(⟨#[]⟩:ByteArray))))))
abbrev tG:=((List (Int × (Int × Int))) × ((List (Int × (Int × (Int × (Int × (Int × ByteArray)))))) × (List (Int × Int))))
abbrev tN:=(((List (Int × (Int × Int))) × ((List (Int × (Int × (Int × (Int × (Int × ByteArray)))))) × (List (Int × Int)))) × ((List (List Int)) × ((List (List Int)) × (Option (List ((Int × Int) × Bool))))))
abbrev gD {α:Type} (l:List α) (i:Nat) (d:α):α:=List.getD l i d
abbrev tZ (n:Int):Nat:=Int.toNat n
abbrev iO:Int:=0
abbrev lO:List Int:=[]
theorem nw {p:Prop}:([]:List Nat)=[]∨p:=.inl rfl
abbrev o0:=orcL []
theorem ac {p:Prop} {l:List Prop} (h:p) (t:AllP l):AllP (p :: l):=AllP.cons h t
theorem an:AllP []:=AllP.nil
abbrev sh0:Sh:=(.pt true 97 (.st (.pair (.sl false 5 (.int .u8)) (.pair (.int .i64) (.int .i64)))))
abbrev sh1:Sh:=(.sl true 154 (.st (.pair .str .str)))
abbrev sh2:Sh:=(.sl false 154 (.st (.pair .str .str)))
abbrev sh3:Sh:=(.pt true 127 (.st (.pair (.sl true 142 (.st (.pair (.int .i64) (.pair (.st (.pair (.int .i64) (.int .i64))) (.sl false 154 (.st (.pair .str .str))))))) (.pair (.sl true 144 (.st (.pair (.int .i64) (.pair (.sl false 2 (.int .i64)) (.sl false 154 (.st (.pair .str .str))))))) (.sl true 160 (.st (.pair (.int .i64) (.pair (.sl true 164 (.st (.pair (.int .i64) .bool))) (.sl true 154 (.st (.pair .str .str)))))))))))
abbrev sh4:Sh:=(.pt true 63 (.st (.pair (.int .i64) (.int .i64))))
abbrev sh5:Sh:=(.st (.pair (.int .i64) (.int .i64)))
abbrev sh6:Sh:=(.st (.pair (.int .i64) (.pair (.st (.pair (.int .i64) (.int .i64))) (.sl false 154 (.st (.pair .str .str))))))
abbrev sh7:Sh:=(.sl true 142 (.st (.pair (.int .i64) (.pair (.st (.pair (.int .i64) (.int .i64))) (.sl false 154 (.st (.pair .str .str)))))))
abbrev sh8:Sh:=(.pt true 144 (.st (.pair (.int .i64) (.pair (.sl true 2 (.int .i64)) (.sl false 154 (.st (.pair .str .str)))))))
abbrev sh9:Sh:=(.st (.pair (.sl true 142 (.st (.pair (.int .i64) (.pair (.st (.pair (.int .i64) (.int .i64))) (.sl false 154 (.st (.pair .str .str))))))) (.pair (.sl true 144 (.st (.pair (.int .i64) (.pair (.sl false 2 (.int .i64)) (.sl false 154 (.st (.pair .str .str))))))) (.sl true 160 (.st (.pair (.int .i64) (.pair (.sl true 164 (.st (.pair (.int .i64) .bool))) (.sl true 154 (.st (.pair .str .str))))))))))
abbrev sh10:Sh:=(.pt true 127 (.st (.pair (.sl false 142 (.st (.pair (.int .i64) (.pair (.st (.pair (.int .i64) (.int .i64))) (.sl false 154 (.st (.pair .str .str))))))) (.pair (.sl false 144 (.st (.pair (.int .i64) (.pair (.sl false 2 (.int .i64)) (.sl false 154 (.st (.pair .str .str))))))) (.sl false 160 (.st (.pair (.int .i64) (.pair (.sl false 164 (.st (.pair (.int .i64) .bool))) (.sl false 154 (.st (.pair .str .str)))))))))))
abbrev sh11:Sh:=(.st (.pair (.sl false 142 (.st (.pair (.int .i64) (.pair (.st (.pair (.int .i64) (.int .i64))) (.sl false 154 (.st (.pair .str .str))))))) (.pair (.sl false 144 (.st (.pair (.int .i64) (.pair (.sl false 2 (.int .i64)) (.sl false 154 (.st (.pair .str .str))))))) (.sl false 160 (.st (.pair (.int .i64) (.pair (.sl false 164 (.st (.pair (.int .i64) .bool))) (.sl false 154 (.st (.pair .str .str))))))))))
abbrev sh12:Sh:=(.pt true 144 (.st (.pair (.int .i64) (.pair (.sl false 2 (.int .i64)) (.sl false 154 (.st (.pair .str .str)))))))
abbrev sh13:Sh:=(.st (.pair (.int .i64) (.pair (.sl false 2 (.int .i64)) (.sl false 154 (.st (.pair .str .str))))))
abbrev sh14:Sh:=(.pt true 160 (.st (.pair (.int .i64) (.pair (.sl false 164 (.st (.pair (.int .i64) .bool))) (.sl false 154 (.st (.pair .str .str)))))))
abbrev sh15:Sh:=(.st (.pair (.int .i64) (.pair (.sl false 164 (.st (.pair (.int .i64) .bool))) (.sl false 154 (.st (.pair .str .str))))))
abbrev sh16:Sh:=(.pt true 28 (.st (.pair (.sl true 65 (.st (.pair (.int .i64) (.st (.pair (.int .i64) (.int .i64)))))) (.pair (.sl true 44 (.st (.pair (.int .i64) (.pair (.int .i64) (.pair (.int .i64) (.pair (.int .i64) (.pair (.int .i64) .str))))))) (.sl true 69 (.st (.pair (.int .i64) (.int .i64))))))))
abbrev sh17:Sh:=(.pt true 28 (.st (.pair (.sl false 65 (.st (.pair (.int .i64) (.st (.pair (.int .i64) (.int .i64)))))) (.pair (.sl false 44 (.st (.pair (.int .i64) (.pair (.int .i64) (.pair (.int .i64) (.pair (.int .i64) (.pair (.int .i64) .str))))))) (.sl false 69 (.st (.pair (.int .i64) (.int .i64))))))))
abbrev sh18:Sh:=(.st (.pair (.sl false 65 (.st (.pair (.int .i64) (.st (.pair (.int .i64) (.int .i64)))))) (.pair (.sl false 44 (.st (.pair (.int .i64) (.pair (.int .i64) (.pair (.int .i64) (.pair (.int .i64) (.pair (.int .i64) .str))))))) (.sl false 69 (.st (.pair (.int .i64) (.int .i64)))))))
abbrev sh19:Sh:=(.pt true 44 (.st (.pair (.int .i64) (.pair (.int .i64) (.pair (.int .i64) (.pair (.int .i64) (.pair (.int .i64) .str)))))))
abbrev sh20:Sh:=(.st (.pair (.sl true 65 (.st (.pair (.int .i64) (.st (.pair (.int .i64) (.int .i64)))))) (.pair (.sl true 44 (.st (.pair (.int .i64) (.pair (.int .i64) (.pair (.int .i64) (.pair (.int .i64) (.pair (.int .i64) .str))))))) (.sl true 69 (.st (.pair (.int .i64) (.int .i64)))))))
abbrev sh21:Sh:=(.sl true 32 (.sl true 2 (.int .i64)))
abbrev sh22:Sh:=(.st (.pair (.int .i64) (.pair (.int .i64) (.pair (.int .i64) (.pair (.int .i64) (.pair (.int .i64) .str))))))
abbrev sh23:Sh:=(.sl false 69 (.st (.pair (.int .i64) (.int .i64))))
abbrev sh24:Sh:=(.pt true 69 (.st (.pair (.int .i64) (.int .i64))))
abbrev sh25:Sh:=(.sl true 69 (.st (.pair (.int .i64) (.int .i64))))
abbrev sh26:Sh:=(.sl false 32 (.sl false 2 (.int .i64)))
abbrev sh27:Sh:=(.pt true 28 (.st (.pair .any (.pair .any .any))))
abbrev sh28:Sh:=(.pt false 0 (.sl false 2 (.int .i64)))
abbrev sh29:Sh:=(.sl false 65 (.st (.pair (.int .i64) (.st (.pair (.int .i64) (.int .i64))))))
abbrev sh30:Sh:=(.sl false 44 (.st (.pair (.int .i64) (.pair (.int .i64) (.pair (.int .i64) (.pair (.int .i64) (.pair (.int .i64) .str)))))))
abbrev sh31:Sh:=(.pt true 103 (.st (.pair (.st (.pair (.sl false 65 (.st (.pair (.int .i64) (.st (.pair (.int .i64) (.int .i64)))))) (.pair (.sl false 44 (.st (.pair (.int .i64) (.pair (.int .i64) (.pair (.int .i64) (.pair (.int .i64) (.pair (.int .i64) .str))))))) (.sl false 69 (.st (.pair (.int .i64) (.int .i64))))))) (.pair (.sl true 32 (.sl true 2 (.int .i64))) (.pair (.sl true 32 (.sl true 2 (.int .i64))) (.mp true (.st (.pair (.int .i64) (.int .i64))) .bool))))))
abbrev sh32:Sh:=(.pt false 0 (.st (.pair (.st (.pair (.sl false 65 (.st (.pair (.int .i64) (.st (.pair (.int .i64) (.int .i64)))))) (.pair (.sl false 44 (.st (.pair (.int .i64) (.pair (.int .i64) (.pair (.int .i64) (.pair (.int .i64) (.pair (.int .i64) .str))))))) (.sl false 69 (.st (.pair (.int .i64) (.int .i64))))))) (.pair (.sl false 32 (.sl false 2 (.int .i64))) (.pair (.sl false 32 (.sl false 2 (.int .i64))) (.mp false (.st (.pair (.int .i64) (.int .i64))) .bool))))))
abbrev sh33:Sh:=(.st (.pair (.int .i64) (.pair (.int .i64) (.int .i64))))
abbrev sh34:Sh:=(.pt true 109 (.st (.pair (.sl true 112 (.st (.pair (.int .i64) (.pair (.int .i64) (.int .i64))))) .unit)))
abbrev sh35:Sh:=(.pt true 112 (.st (.pair (.int .i64) (.pair (.int .i64) (.int .i64)))))
abbrev sh36:Sh:=(.mp true (.int .i64) .bool)
abbrev sh37:Sh:=(.st (.pair (.int .i64) (.st (.pair (.int .i64) (.int .i64)))))
abbrev sh38:Sh:=(.pt false 0 (.pt false 0 (.st (.pair (.st (.pair (.sl false 65 (.st (.pair (.int .i64) (.st (.pair (.int .i64) (.int .i64)))))) (.pair (.sl false 44 (.st (.pair (.int .i64) (.pair (.int .i64) (.pair (.int .i64) (.pair (.int .i64) (.pair (.int .i64) .str))))))) (.sl false 69 (.st (.pair (.int .i64) (.int .i64))))))) (.pair (.sl false 32 (.sl false 2 (.int .i64))) (.pair (.sl false 32 (.sl false 2 (.int .i64))) (.mp false (.st (.pair (.int .i64) (.int .i64))) .bool)))))))
abbrev sh39:Sh:=(.fn 65 (.pair (.pt false 0 (.pt false 0 (.st (.pair (.st (.pair (.sl false 65 (.st (.pair (.int .i64) (.st (.pair (.int .i64) (.int .i64)))))) (.pair (.sl false 44 (.st (.pair (.int .i64) (.pair (.int .i64) (.pair (.int .i64) (.pair (.int .i64) (.pair (.int .i64) .str))))))) (.sl false 69 (.st (.pair (.int .i64) (.int .i64))))))) (.pair (.sl false 32 (.sl false 2 (.int .i64))) (.pair (.sl false 32 (.sl false 2 (.int .i64))) (.mp false (.st (.pair (.int .i64) (.int .i64))) .bool))))))) (.pair (.pt false 0 (.int .i64)) .unit)))
abbrev sh40:Sh:=(.pt true 70 (.pt false 0 (.st (.pair (.st (.pair (.sl false 65 (.st (.pair (.int .i64) (.st (.pair (.int .i64) (.int .i64)))))) (.pair (.sl false 44 (.st (.pair (.int .i64) (.pair (.int .i64) (.pair (.int .i64) (.pair (.int .i64) (.pair (.int .i64) .str))))))) (.sl false 69 (.st (.pair (.int .i64) (.int .i64))))))) (.pair (.sl false 32 (.sl false 2 (.int .i64))) (.pair (.sl false 32 (.sl false 2 (.int .i64))) (.mp false (.st (.pair (.int .i64) (.int .i64))) .bool)))))))
abbrev sh41:Sh:=(.pt true 34 (.st (.pair .bool (.pair (.sl true 2 (.int .i64)) (.pair (.int .i64) (.int .i64))))))
abbrev sh42:Sh:=(.pt true 32 (.sl true 2 (.int .i64)))
abbrev sh43:Sh:=(.st (.pair .bool (.pair (.sl true 2 (.int .i64)) (.pair (.int .i64) (.int .i64)))))
def tbl:Tbl:=[⟨2,.int .i64,1,8,(.int .i64)⟩,
 ⟨3,.int .i64,1,8,(.int .i64)⟩,
 ⟨4,.bool,1,1,.bool⟩,
 ⟨5,.int .u8,1,1,(.int .u8)⟩,
 ⟨9,.string,1,16,.str⟩,
 ⟨22,.slice 5,1,24,(.sl true 5 (.int .u8))⟩,
 ⟨24,.slice 65,1,24,(.sl true 65 (.st (.pair (.int .i64) (.st (.pair (.int .i64) (.int .i64))))))⟩,
 ⟨25,.slice 44,1,24,(.sl true 44 (.st (.pair (.int .i64) (.pair (.int .i64) (.pair (.int .i64) (.pair (.int .i64) (.pair (.int .i64) .str)))))))⟩,
 ⟨26,.slice 69,1,24,(.sl true 69 (.st (.pair (.int .i64) (.int .i64))))⟩,
 ⟨28,.struct [(24,0),(25,1),(26,2)],3,72,(.st (.pair (.sl true 65 (.st (.pair (.int .i64) (.st (.pair (.int .i64) (.int .i64)))))) (.pair (.sl true 44 (.st (.pair (.int .i64) (.pair (.int .i64) (.pair (.int .i64) (.pair (.int .i64) (.pair (.int .i64) .str))))))) (.sl true 69 (.st (.pair (.int .i64) (.int .i64)))))))⟩,
 ⟨32,.slice 2,1,24,(.sl true 2 (.int .i64))⟩,
 ⟨34,.struct [(4,0),(32,1),(2,2),(2,3)],4,48,(.st (.pair .bool (.pair (.sl true 2 (.int .i64)) (.pair (.int .i64) (.int .i64)))))⟩,
 ⟨44,.struct [(2,0),(2,1),(2,2),(2,3),(2,4),(9,5)],6,56,(.st (.pair (.int .i64) (.pair (.int .i64) (.pair (.int .i64) (.pair (.int .i64) (.pair (.int .i64) .str))))))⟩,
 ⟨58,.ptr 97,1,8,(.pt true 97 (.st (.pair (.sl false 5 (.int .u8)) (.pair (.int .i64) (.int .i64)))))⟩,
 ⟨63,.struct [(2,0),(2,1)],2,16,(.st (.pair (.int .i64) (.int .i64)))⟩,
 ⟨65,.struct [(2,0),(63,1)],3,24,(.st (.pair (.int .i64) (.st (.pair (.int .i64) (.int .i64)))))⟩,
 ⟨69,.struct [(2,0),(2,1)],2,16,(.st (.pair (.int .i64) (.int .i64)))⟩,
 ⟨70,.ptr 103,1,8,(.pt true 103 (.st (.pair (.st (.pair (.sl true 65 (.st (.pair (.int .i64) (.st (.pair (.int .i64) (.int .i64)))))) (.pair (.sl true 44 (.st (.pair (.int .i64) (.pair (.int .i64) (.pair (.int .i64) (.pair (.int .i64) (.pair (.int .i64) .str))))))) (.sl true 69 (.st (.pair (.int .i64) (.int .i64))))))) (.pair (.sl true 32 (.sl true 2 (.int .i64))) (.pair (.sl true 32 (.sl true 2 (.int .i64))) (.mp true (.st (.pair (.int .i64) (.int .i64))) .bool))))))⟩,
 ⟨76,.map 2 4,1,8,(.mp true (.int .i64) .bool)⟩,
 ⟨83,.slice 32,1,24,(.sl true 32 (.sl true 2 (.int .i64)))⟩,
 ⟨97,.struct [(22,0),(3,1),(2,2)],3,40,(.st (.pair (.sl false 5 (.int .u8)) (.pair (.int .i64) (.int .i64))))⟩,
 ⟨100,.ptr 28,1,8,(.pt true 28 (.st (.pair (.sl true 65 (.st (.pair (.int .i64) (.st (.pair (.int .i64) (.int .i64)))))) (.pair (.sl true 44 (.st (.pair (.int .i64) (.pair (.int .i64) (.pair (.int .i64) (.pair (.int .i64) (.pair (.int .i64) .str))))))) (.sl true 69 (.st (.pair (.int .i64) (.int .i64))))))))⟩,
 ⟨101,.map 69 4,1,8,(.mp true (.st (.pair (.int .i64) (.int .i64))) .bool)⟩,
 ⟨103,.struct [(28,0),(83,3),(83,4),(101,5)],6,128,(.st (.pair (.st (.pair (.sl true 65 (.st (.pair (.int .i64) (.st (.pair (.int .i64) (.int .i64)))))) (.pair (.sl true 44 (.st (.pair (.int .i64) (.pair (.int .i64) (.pair (.int .i64) (.pair (.int .i64) (.pair (.int .i64) .str))))))) (.sl true 69 (.st (.pair (.int .i64) (.int .i64))))))) (.pair (.sl true 32 (.sl true 2 (.int .i64))) (.pair (.sl true 32 (.sl true 2 (.int .i64))) (.mp true (.st (.pair (.int .i64) (.int .i64))) .bool)))))⟩,
 ⟨105,.slice 4,1,24,(.sl true 4 .bool)⟩,
 ⟨106,.ptr 109,1,8,(.pt true 109 (.st (.pair (.sl true 112 (.st (.pair (.int .i64) (.pair (.int .i64) (.int .i64))))) .unit)))⟩,
 ⟨107,.slice 112,1,24,(.sl true 112 (.st (.pair (.int .i64) (.pair (.int .i64) (.int .i64)))))⟩,
 ⟨109,.struct [(107,0)],1,24,(.st (.pair (.sl true 112 (.st (.pair (.int .i64) (.pair (.int .i64) (.int .i64))))) .unit))⟩,
 ⟨112,.struct [(2,0),(2,1),(2,2)],3,24,(.st (.pair (.int .i64) (.pair (.int .i64) (.int .i64))))⟩,
 ⟨123,.slice 142,1,24,(.sl true 142 (.st (.pair (.int .i64) (.pair (.st (.pair (.int .i64) (.int .i64))) (.sl false 154 (.st (.pair .str .str)))))))⟩,
 ⟨124,.slice 144,1,24,(.sl true 144 (.st (.pair (.int .i64) (.pair (.sl false 2 (.int .i64)) (.sl false 154 (.st (.pair .str .str)))))))⟩,
 ⟨125,.slice 160,1,24,(.sl true 160 (.st (.pair (.int .i64) (.pair (.sl true 164 (.st (.pair (.int .i64) .bool))) (.sl true 154 (.st (.pair .str .str)))))))⟩,
 ⟨127,.struct [(123,0),(124,1),(125,2)],3,72,(.st (.pair (.sl true 142 (.st (.pair (.int .i64) (.pair (.st (.pair (.int .i64) (.int .i64))) (.sl false 154 (.st (.pair .str .str))))))) (.pair (.sl true 144 (.st (.pair (.int .i64) (.pair (.sl false 2 (.int .i64)) (.sl false 154 (.st (.pair .str .str))))))) (.sl true 160 (.st (.pair (.int .i64) (.pair (.sl true 164 (.st (.pair (.int .i64) .bool))) (.sl true 154 (.st (.pair .str .str))))))))))⟩,
 ⟨139,.slice 154,1,24,(.sl true 154 (.st (.pair .str .str)))⟩,
 ⟨142,.struct [(2,0),(63,1),(139,3)],4,48,(.st (.pair (.int .i64) (.pair (.st (.pair (.int .i64) (.int .i64))) (.sl true 154 (.st (.pair .str .str))))))⟩,
 ⟨144,.struct [(2,0),(32,1),(139,2)],3,56,(.st (.pair (.int .i64) (.pair (.sl true 2 (.int .i64)) (.sl true 154 (.st (.pair .str .str))))))⟩,
 ⟨152,.slice 9,1,24,(.sl true 9 .str)⟩,
 ⟨154,.struct [(9,0),(9,1)],2,32,(.st (.pair .str .str))⟩,
 ⟨158,.slice 164,1,24,(.sl true 164 (.st (.pair (.int .i64) .bool)))⟩,
 ⟨160,.struct [(2,0),(158,1),(139,2)],3,56,(.st (.pair (.int .i64) (.pair (.sl true 164 (.st (.pair (.int .i64) .bool))) (.sl true 154 (.st (.pair .str .str))))))⟩,
 ⟨164,.struct [(2,0),(4,1)],2,16,(.st (.pair (.int .i64) .bool))⟩]
theorem tok:TOk Try.prog tbl:=by unfold TOk; kernel_rfl
def f7 (k:Nat) (x0:(List Int)):Option Bool:=some (decide (((List.length x0:Int):Int) > (1048576:Int)))
theorem c7 (k:Nat) (x0:(List Int)) (r:Bool) (hF:f7 k x0=some r):PCall Try.prog 7 [⟨(.sl false 5 (.int .u8)),x0⟩] [⟨.bool,r⟩]:=by
 refine pcall_intro Try.func7 rfl rfl (Nat.le_of_ble_eq_true rfl) ?_
 intro w0 Zi a w h
 rw [f7] at hF
 refine wp_reg_seq tok (orc:=o0) (l:=[0]) nw h (by kernel_rfl) an fun a w h => ?_
 refine wp_reg_seq tok (orc:=o0) (l:=[2]) nw h (by kernel_rfl) an fun a w h => ?_
 cases hF
 exact wp_ret (ret_okR tok h rfl (by kernel_rfl)).1
def f31.l16 (k:Nat) (x0:(List Int)):Nat → (Int × Int)→Option ((List Int) × (Int × Int))
 | 0,_ => none
 | m16+1,(v27,v28) => if (decide ((v28:Int) < (List.length x0:Int))) then (if (0≤v28∧v28 < (List.length x0:Int)) then ((f31.l16 k x0) m16 ((Go.bits .and .i64 (IntKind.i64.wrap ((IntKind.i64.wrap ((IntKind.i64.wrap (v27 * (149:Int))) + (IntKind.i64.wrap (List.getD x0 (Int.toNat v28) (0:Int))))) + (3:Int))) (1073741823:Int)),(IntKind.i64.wrap (v28 + (1:Int))))) else none) else (some (x0,((0:Int),v27)))
def f31 (k:Nat) (x0:(List Int)):Option ((List Int) × (Int × Int)):=f31.l16 k x0 k ((IntKind.i64.wrap ((90001:Int) + (List.length x0:Int))),(0:Int))
theorem c31 (k:Nat) (x0:(List Int)) (r:((List Int) × (Int × Int))) (hF:f31 k x0=some r):PCall Try.prog 31 [⟨(.sl false 5 (.int .u8)),x0⟩] [⟨sh0,some r⟩]:=by
 refine pcall_intro Try.func31 rfl rfl (Nat.le_of_ble_eq_true rfl) ?_
 intro w0 Zi a w h
 rw [f31] at hF
 refine wp_reg_seq tok (orc:=o0) (l:=[0]) nw h (by kernel_rfl) an fun a w h => ?_
 refine wp_reg_seq tok (orc:=o0) (l:=[0,3]) nw h (by kernel_rfl) an fun a w h => ?_
 refine wp_seq ?_
 refine wp_reg_seq tok (orc:=o0) (l:=[0,3,4]) nw h (by kernel_rfl) an fun a w h => ?_
 refine wp_block ?_
 refine wp_loop_fuel (f31.l16 k x0) (fun ((v27,v28):(Int × Int)) => [(0,.val (.sl false 5 (.int .u8)) x0),(3,.val (.int .i64) v27),(4,.val (.int .i64) v28)]) (fun v h => by obtain ⟨v27,v28⟩:=v; rw [f31.l16] at h; cases h) ?_ hF (h.arrive (l:=[0,3,4]) nw (by kernel_rfl))
 intro m16 v a w hF h
 obtain ⟨v27,v28⟩:=v
 rw [f31.l16] at hF
 refine wp_seq ?_
 refine wp_reg_seq tok (orc:=o0) (l:=[0,3,4,11]) nw h (by kernel_rfl) an fun a w h => ?_
 refine wp_if h (b:=(decide ((v28:Int) < (List.length x0:Int)))) (by kernel_rfl) (fun hb => ?_) (fun hb => ?_)
 ·replace hF:=of_t hb hF
  refine wp_skip ?_
  refine wp_seq <| wp_block ?_
  obtain ⟨hc30,hF⟩:=of_if hF
  refine wp_reg tok (orc:=o0) (l:=[0,3,4]) nw h (by kernel_rfl) (ac hc30 an) fun a w h => ?_
  refine wp_reg tok (orc:=o0) (l:=[0,3,4]) nw h (by kernel_rfl) an fun a w h => ?_
  exact ⟨((Go.bits .and .i64 (w64 ((w64 ((w64 (v27 * (149:Int))) + (w64 (gD x0 (tZ v28) iO)))) + (3:Int))) (1073741823:Int)),(w64 (v28 + (1:Int)))),hF,h.arrive (l:=[0,3,4]) nw (by kernel_rfl)⟩
 ·replace hF:=of_f hb hF
  refine wp_exit ?_
  refine wp_reg_seq tok (orc:=o0) (l:=[2]) nw h (by kernel_rfl) an fun a w h => ?_
  cases hF
  exact wp_ret (ret_okR tok h rfl (by kernel_rfl)).1
def f77.j6 (k:Nat) (x0:((List Int) × (Int × Int))):(Int × Int)→Option (Int × ((List Int) × (Int × Int)))
 | (v4,v5) => some (v5,(x0.1,(v4,(IntKind.i64.wrap ((IntKind.i64.wrap (x0.2.2 * (6364136223846793005:Int))) + (1442695040888963407:Int))))))
def f77 (k:Nat) (x0:((List Int) × (Int × Int))):Option (Int × ((List Int) × (Int × Int))):=if ((0:Int) ≤ (33:Int)) then (if ((0:Int) ≤ (45:Int)) then (if (decide ((x0.2.1:Int) < (List.length x0.1:Int))) then (if (0≤x0.2.1∧x0.2.1 < (List.length x0.1:Int)) then ((some ((Go.bits .and .i64 (IntKind.i64.wrap ((Go.bits .and .i64 (Go.bits .xor .i64 (Int.fdiv (IntKind.i64.wrap ((IntKind.i64.wrap (x0.2.2 * (6364136223846793005:Int))) + (1442695040888963407:Int))) (2 ^ (min (Int.toNat (33:Int)) IntKind.i64.bits))) (Int.fdiv (IntKind.i64.wrap ((IntKind.i64.wrap (x0.2.2 * (6364136223846793005:Int))) + (1442695040888963407:Int))) (2 ^ (min (Int.toNat (45:Int)) IntKind.i64.bits)))) (255:Int)) + (IntKind.i64.wrap (List.getD x0.1 (Int.toNat x0.2.1) (0:Int))))) (255:Int)):Int)).bind fun v7 => (f77.j6 k x0 ((IntKind.i64.wrap (x0.2.1 + (1:Int))),v7))) else none) else (f77.j6 k x0 (x0.2.1,(Go.bits .and .i64 (Go.bits .xor .i64 (Int.fdiv (IntKind.i64.wrap ((IntKind.i64.wrap (x0.2.2 * (6364136223846793005:Int))) + (1442695040888963407:Int))) (2 ^ (min (Int.toNat (33:Int)) IntKind.i64.bits))) (Int.fdiv (IntKind.i64.wrap ((IntKind.i64.wrap (x0.2.2 * (6364136223846793005:Int))) + (1442695040888963407:Int))) (2 ^ (min (Int.toNat (45:Int)) IntKind.i64.bits)))) (255:Int))))) else none) else none
theorem c77 (k:Nat) (x0:((List Int) × (Int × Int))) (r:(Int × ((List Int) × (Int × Int)))) (hF:f77 k x0=some r):PMut Try.prog 77 [⟨sh0,some x0⟩] [⟨(.int .i64),r.1⟩] (List.set [⟨sh0,some x0⟩] 0 ⟨sh0,some r.2⟩):=by
 refine pmutO_intro (j:=0) (fin:=⟨sh0,some r.2⟩) Try.func77 rfl rfl (Nat.le_of_ble_eq_true rfl) (Nat.le_of_ble_eq_true rfl) (by kernel_rfl) (by kernel_rfl) ?_
 intro w0 Zi f0 v0 hw a w h
 rw [f77] at hF
 refine wp_reg_seq tok (orc:=o0) (fz:=[]) (l:=[0]) (.inl rfl) h (by kernel_rfl) an fun a w h => ?_
 refine wp_reg_seq tok (orc:=o0) (fz:=[]) (l:=[0]) (.inl rfl) h (by kernel_rfl) an fun a w h => ?_
 obtain ⟨hc10,hF⟩:=of_if hF
 obtain ⟨hc11,hF⟩:=of_if hF
 refine wp_regy_seq tok (orc:=o0) (fz:=[]) (l:=[0,3]) ([],[],[],[]) 13 (.inl rfl) h (by kernel_rfl) (by kernel_rfl) (ac hc10 (ac hc11 an)) fun a w h => ?_
 refine wp_seq ?_
 refine wp_regy_seq tok (orc:=o0) (fz:=[]) (l:=[0,3,34]) ([],[],[],[]) 10 (.inl rfl) h (by kernel_rfl) (by kernel_rfl) an fun a w h => ?_
 refine wp_midT (fun a w => ∃ v:(Int × Int),f77.j6 k x0 v=some r∧Rel w0 f0 Zi ⟨Try.f77.ntmps,[0],fun _ => v0⟩ ((fun ((v4,v5):(Int × Int)) => ([(0,.val sh0 (some (x0.1,(v4,(w64 ((w64 (x0.2.2 * (6364136223846793005:Int))) + (1442695040888963407:Int))))))),(3,.val (.int .i64) v5)]:SS)) v) a w) ?_ ?_
 ·
  refine wp_if h (b:=(decide ((x0.2.1:Int) < (List.length x0.1:Int)))) (by kernel_rfl) (fun hb => ?_) (fun hb => ?_)
  ·replace hF:=of_t hb hF
   obtain ⟨hc9,hF⟩:=of_if hF
   refine wp_regy_seq tok (orc:=o0) (fz:=[]) (l:=[0,3]) ([],[],[],[]) 15 (.inl rfl) h (by kernel_rfl) (by kernel_rfl) (ac hc9 an) fun a w h => ?_
   obtain ⟨v7,hv8,hF⟩:=of_bind hF
   replace h:=h.cast (S':=[(0,.val sh0 (some (x0.1,(x0.2.1,(w64 ((w64 (x0.2.2 * (6364136223846793005:Int))) + (1442695040888963407:Int))))))),(3,.val (.int .i64) v7)]) (by cases hv8; kernel_rfl)
   refine wp_reg tok (orc:=o0) (fz:=[]) (l:=[0,3]) (.inl rfl) h (by kernel_rfl) an fun a w h => ?_
   exact ⟨((w64 (x0.2.1 + (1:Int))),v7),hF,h.arrive (fz:=[]) (l:=[0,3]) (.inl rfl) (by kernel_rfl)⟩
  ·replace hF:=of_f hb hF
   refine wp_skip ?_
   exact ⟨(x0.2.1,(Go.bits .and .i64 (Go.bits .xor .i64 (Int.fdiv (w64 ((w64 (x0.2.2 * (6364136223846793005:Int))) + (1442695040888963407:Int))) (2 ^ (min (tZ (33:Int)) IntKind.i64.bits))) (Int.fdiv (w64 ((w64 (x0.2.2 * (6364136223846793005:Int))) + (1442695040888963407:Int))) (2 ^ (min (tZ (45:Int)) IntKind.i64.bits)))) (255:Int))),hF,h.arrive (fz:=[]) (l:=[0,3]) (.inl rfl) (by kernel_rfl)⟩
 ·rintro a w ⟨v,hF,h⟩
  obtain ⟨v4,v5⟩:=v
  rw [f77.j6] at hF
  refine wp_reg_seq tok (orc:=o0) (fz:=[]) (l:=[0,2]) (.inl rfl) h (by kernel_rfl) an fun a w h => ?_
  cases hF
  exact wp_ret (retO_ok tok h rfl (by kernel_rfl)).1
def f54 (k:Nat) (x0:((List Int) × (Int × Int))) (x1:Int):Option (Int × ((List Int) × (Int × Int))):=if (decide ((x1:Int) ≤ (0:Int))) then (some ((0:Int),x0)) else (if (decide ((x1:Int) ≤ (256:Int))) then ((f77 k x0).bind fun r4 => (if ((x1:Int)≠0) then (some ((Int.tmod r4.1 x1),r4.2)) else none)) else ((f77 k x0).bind fun r7 => ((f77 k r7.2).bind fun r8 => ((f77 k r8.2).bind fun r9 => ((f77 k r9.2).bind fun r10 => (if ((x1:Int)≠0) then (some ((Int.tmod (IntKind.i64.wrap ((IntKind.i64.wrap ((IntKind.i64.wrap ((IntKind.i64.wrap (r7.1 * (16777216:Int))) + (IntKind.i64.wrap (r8.1 * (65536:Int))))) + (IntKind.i64.wrap (r9.1 * (256:Int)))))+r10.1)) x1),r10.2)) else none))))))
theorem c54 (k:Nat) (x0:((List Int) × (Int × Int))) (x1:Int) (r:(Int × ((List Int) × (Int × Int)))) (hF:f54 k x0 x1=some r):PMut Try.prog 54 [⟨sh0,some x0⟩,⟨(.int .i64),x1⟩] [⟨(.int .i64),r.1⟩] (List.set [⟨sh0,some x0⟩,⟨(.int .i64),x1⟩] 0 ⟨sh0,some r.2⟩):=by
 refine pmutO_intro (j:=0) (fin:=⟨sh0,some r.2⟩) Try.func54 rfl rfl (Nat.le_of_ble_eq_true rfl) (Nat.le_of_ble_eq_true rfl) (by kernel_rfl) (by kernel_rfl) ?_
 intro w0 Zi f0 v0 hw a w h
 rw [f54] at hF
 refine wp_reg_seq tok (orc:=o0) (fz:=[]) (l:=[0,1]) (.inl rfl) h (by kernel_rfl) an fun a w h => ?_
 refine wp_seq ?_
 refine wp_reg_seq tok (orc:=o0) (fz:=[]) (l:=[0,1,10]) (.inl rfl) h (by kernel_rfl) an fun a w h => ?_
 refine wp_if h (b:=(decide ((x1:Int)≤iO))) (by kernel_rfl) (fun hb => ?_) (fun hb => ?_)
 ·replace hF:=of_t hb hF
  refine wp_reg_seq tok (orc:=o0) (fz:=[]) (l:=[0,4]) (.inl rfl) h (by kernel_rfl) an fun a w h => ?_
  cases hF
  exact wp_ret (retO_ok tok h rfl (by kernel_rfl)).1
 ·replace hF:=of_f hb hF
  refine wp_skip ?_
  refine wp_seq ?_
  refine wp_reg_seq tok (orc:=o0) (fz:=[]) (l:=[0,1,12]) (.inl rfl) h (by kernel_rfl) an fun a w h => ?_
  refine wp_if h (b:=(decide ((x1:Int) ≤ (256:Int)))) (by kernel_rfl) (fun hb => ?_) (fun hb => ?_)
  ·replace hF:=of_t hb hF
   obtain ⟨r4,hr5,hF⟩:=of_bind hF
   obtain ⟨hc6,hF⟩:=of_if hF
   refine wp_reg_seq tok (orc:=orcL [(14,[⟨.pt false 4294967295 (.pt true 97 (.st (.pair (.sl false 5 (.int .u8)) (.pair (.int .i64) (.int .i64))))),some (some r4.2)⟩,⟨(.int .i64),r4.1⟩])]) (fz:=[]) (l:=[0,4]) (.inl rfl) h (by kernel_rfl) (ac (c77 k x0 r4 hr5) (ac hc6 an)) fun a w h => ?_
   cases hF
   exact wp_ret (retO_ok tok h rfl (by kernel_rfl)).1
  ·replace hF:=of_f hb hF
   refine wp_skip ?_
   obtain ⟨r7,hr15,hF⟩:=of_bind hF
   refine wp_reg_seq tok (orc:=orcL [(18,[⟨.pt false 4294967295 (.pt true 97 (.st (.pair (.sl false 5 (.int .u8)) (.pair (.int .i64) (.int .i64))))),some (some r7.2)⟩,⟨(.int .i64),r7.1⟩])]) (fz:=[]) (l:=[0,1,5]) (.inl rfl) h (by kernel_rfl) (ac (c77 k x0 r7 hr15) an) fun a w h => ?_
   obtain ⟨r8,hr14,hF⟩:=of_bind hF
   refine wp_reg_seq tok (orc:=orcL [(20,[⟨.pt false 4294967295 (.pt true 97 (.st (.pair (.sl false 5 (.int .u8)) (.pair (.int .i64) (.int .i64))))),some (some r8.2)⟩,⟨(.int .i64),r8.1⟩])]) (fz:=[]) (l:=[0,1,5,6]) (.inl rfl) h (by kernel_rfl) (ac (c77 k r7.2 r8 hr14) an) fun a w h => ?_
   obtain ⟨r9,hr13,hF⟩:=of_bind hF
   refine wp_reg_seq tok (orc:=orcL [(22,[⟨.pt false 4294967295 (.pt true 97 (.st (.pair (.sl false 5 (.int .u8)) (.pair (.int .i64) (.int .i64))))),some (some r9.2)⟩,⟨(.int .i64),r9.1⟩])]) (fz:=[]) (l:=[0,1,5,6,7]) (.inl rfl) h (by kernel_rfl) (ac (c77 k r8.2 r9 hr13) an) fun a w h => ?_
   obtain ⟨r10,hr12,hF⟩:=of_bind hF
   refine wp_reg_seq tok (orc:=orcL [(24,[⟨.pt false 4294967295 (.pt true 97 (.st (.pair (.sl false 5 (.int .u8)) (.pair (.int .i64) (.int .i64))))),some (some r10.2)⟩,⟨(.int .i64),r10.1⟩])]) (fz:=[]) (l:=[0,1,5,6,7,8]) (.inl rfl) h (by kernel_rfl) (ac (c77 k r9.2 r10 hr12) an) fun a w h => ?_
   obtain ⟨hc11,hF⟩:=of_if hF
   refine wp_reg_seq tok (orc:=o0) (fz:=[]) (l:=[0,4]) (.inl rfl) h (by kernel_rfl) (ac hc11 an) fun a w h => ?_
   cases hF
   exact wp_ret (retO_ok tok h rfl (by kernel_rfl)).1
def f61 (k:Nat) (x0:((List Int) × (Int × Int))) (x1:Int):Option (Bool × ((List Int) × (Int × Int))):=(f54 k x0 x1).bind fun r1 => (some (((r1.1:Int) == (0:Int)),r1.2))
theorem c61 (k:Nat) (x0:((List Int) × (Int × Int))) (x1:Int) (r:(Bool × ((List Int) × (Int × Int)))) (hF:f61 k x0 x1=some r):PMut Try.prog 61 [⟨sh0,some x0⟩,⟨(.int .i64),x1⟩] [⟨.bool,r.1⟩] (List.set [⟨sh0,some x0⟩,⟨(.int .i64),x1⟩] 0 ⟨sh0,some r.2⟩):=by
 refine pmutO_intro (j:=0) (fin:=⟨sh0,some r.2⟩) Try.func61 rfl rfl (Nat.le_of_ble_eq_true rfl) (Nat.le_of_ble_eq_true rfl) (by kernel_rfl) (by kernel_rfl) ?_
 intro w0 Zi f0 v0 hw a w h
 rw [f61] at hF
 refine wp_reg_seq tok (orc:=o0) (fz:=[]) (l:=[0,1]) (.inl rfl) h (by kernel_rfl) an fun a w h => ?_
 obtain ⟨r1,hr2,hF⟩:=of_bind hF
 refine wp_reg_seq tok (orc:=orcL [(7,[⟨.pt false 4294967295 (.pt true 97 (.st (.pair (.sl false 5 (.int .u8)) (.pair (.int .i64) (.int .i64))))),some (some r1.2)⟩,⟨(.int .i64),r1.1⟩])]) (fz:=[]) (l:=[0,4]) (.inl rfl) h (by kernel_rfl) (ac (c54 k x0 x1 r1 hr2) an) fun a w h => ?_
 cases hF
 exact wp_ret (retO_ok tok h rfl (by kernel_rfl)).1
def f95.j45 (k:Nat):(((List Int) × (Int × Int)) × (List (ByteArray × ByteArray)))→Option ((List (ByteArray × ByteArray)) × ((List Int) × (Int × Int)))
 | (v43,v44) => some (v44,v43)
def f95.j95 (k:Nat):(((List Int) × (Int × Int)) × (List (ByteArray × ByteArray)))→Option ((List (ByteArray × ByteArray)) × ((List Int) × (Int × Int)))
 | (v93,v94) => some (v94,v93)
def f95.j87 (k:Nat):(((List Int) × (Int × Int)) × (List (ByteArray × ByteArray)))→Option ((List (ByteArray × ByteArray)) × ((List Int) × (Int × Int)))
 | (v85,v86) => (f61 k v85 (5:Int)).bind fun r88 => (if r88.1 then ((f54 k r88.2 (3:Int)).bind fun r96 => (if (0≤r96.1∧r96.1 < (List.length [(⟨#[121,101,115]⟩:ByteArray),(⟨#[45,49]⟩:ByteArray),(⟨#[110,111]⟩:ByteArray)]:Int)) then (if ((List.length v86+List.length [((⟨#[111,110,101,119,97,121]⟩:ByteArray),(List.getD [(⟨#[121,101,115]⟩:ByteArray),(⟨#[45,49]⟩:ByteArray),(⟨#[110,111]⟩:ByteArray)] (Int.toNat r96.1) (⟨#[]⟩:ByteArray)))])*32≤140737488355328) then (f95.j95 k (r96.2,(v86 ++ [((⟨#[111,110,101,119,97,121]⟩:ByteArray),(List.getD [(⟨#[121,101,115]⟩:ByteArray),(⟨#[45,49]⟩:ByteArray),(⟨#[110,111]⟩:ByteArray)] (Int.toNat r96.1) (⟨#[]⟩:ByteArray)))]))) else none) else none)) else (f95.j95 k (r88.2,v86)))
def f95.j79 (k:Nat):(((List Int) × (Int × Int)) × (List (ByteArray × ByteArray)))→Option ((List (ByteArray × ByteArray)) × ((List Int) × (Int × Int)))
 | (v77,v78) => (f61 k v77 (3:Int)).bind fun r80 => (if (!r80.1) then ((f54 k r80.2 (4:Int)).bind fun r101 => (if (0≤r101.1∧r101.1 < (List.length [(⟨#[72,105,103,104,32,83,116,114,101,101,116]⟩:ByteArray),(⟨#[77,105,108,108,32,76,97,110,101]⟩:ByteArray),(⟨#[82,105,110,103,32,82,111,97,100]⟩:ByteArray),(⟨#[81,117,97,121]⟩:ByteArray)]:Int)) then (if ((List.length v78+List.length [((⟨#[110,97,109,101]⟩:ByteArray),(List.getD [(⟨#[72,105,103,104,32,83,116,114,101,101,116]⟩:ByteArray),(⟨#[77,105,108,108,32,76,97,110,101]⟩:ByteArray),(⟨#[82,105,110,103,32,82,111,97,100]⟩:ByteArray),(⟨#[81,117,97,121]⟩:ByteArray)] (Int.toNat r101.1) (⟨#[]⟩:ByteArray)))])*32≤140737488355328) then (f95.j87 k (r101.2,(v78 ++ [((⟨#[110,97,109,101]⟩:ByteArray),(List.getD [(⟨#[72,105,103,104,32,83,116,114,101,101,116]⟩:ByteArray),(⟨#[77,105,108,108,32,76,97,110,101]⟩:ByteArray),(⟨#[82,105,110,103,32,82,111,97,100]⟩:ByteArray),(⟨#[81,117,97,121]⟩:ByteArray)] (Int.toNat r101.1) (⟨#[]⟩:ByteArray)))]))) else none) else none)) else (f95.j87 k (r80.2,v78)))
def f95.j71 (k:Nat) (r68:(Bool × ((List Int) × (Int × Int)))):(List (ByteArray × ByteArray))→Option ((List (ByteArray × ByteArray)) × ((List Int) × (Int × Int)))
 | v70 => (f61 k r68.2 (3:Int)).bind fun r72 => (if r72.1 then ((f54 k r72.2 (4:Int)).bind fun r106 => (if (0≤r106.1∧r106.1 < (List.length [(⟨#[53]⟩:ByteArray),(⟨#[49,50]⟩:ByteArray),(⟨#[51,48]⟩:ByteArray),(⟨#[102,97,115,116]⟩:ByteArray)]:Int)) then (if ((List.length v70+List.length [((⟨#[109,97,120,115,112,101,101,100]⟩:ByteArray),(List.getD [(⟨#[53]⟩:ByteArray),(⟨#[49,50]⟩:ByteArray),(⟨#[51,48]⟩:ByteArray),(⟨#[102,97,115,116]⟩:ByteArray)] (Int.toNat r106.1) (⟨#[]⟩:ByteArray)))])*32≤140737488355328) then (f95.j79 k (r106.2,(v70 ++ [((⟨#[109,97,120,115,112,101,101,100]⟩:ByteArray),(List.getD [(⟨#[53]⟩:ByteArray),(⟨#[49,50]⟩:ByteArray),(⟨#[51,48]⟩:ByteArray),(⟨#[102,97,115,116]⟩:ByteArray)] (Int.toNat r106.1) (⟨#[]⟩:ByteArray)))]))) else none) else none)) else (f95.j79 k (r72.2,v70)))
def f95.j66 (k:Nat):(((List Int) × (Int × Int)) × (List (ByteArray × ByteArray)))→Option ((List (ByteArray × ByteArray)) × ((List Int) × (Int × Int)))
 | (v64,v65) => (f54 k v64 (5:Int)).bind fun r67 => (if (0≤r67.1∧r67.1 < (List.length [(⟨#[109,97,105,110]⟩:ByteArray),(⟨#[115,116,114,101,101,116]⟩:ByteArray),(⟨#[112,97,116,104]⟩:ByteArray),(⟨#[115,116,114,101,101,116]⟩:ByteArray),(⟨#[109,111,116,111,114,119,97,121]⟩:ByteArray)]:Int)) then (if ((List.length v65+List.length [((⟨#[104,105,103,104,119,97,121]⟩:ByteArray),(List.getD [(⟨#[109,97,105,110]⟩:ByteArray),(⟨#[115,116,114,101,101,116]⟩:ByteArray),(⟨#[112,97,116,104]⟩:ByteArray),(⟨#[115,116,114,101,101,116]⟩:ByteArray),(⟨#[109,111,116,111,114,119,97,121]⟩:ByteArray)] (Int.toNat r67.1) (⟨#[]⟩:ByteArray)))])*32≤140737488355328) then ((f61 k r67.2 (8:Int)).bind fun r68 => (if r68.1 then (if ((List.length (v65 ++ [((⟨#[104,105,103,104,119,97,121]⟩:ByteArray),(List.getD [(⟨#[109,97,105,110]⟩:ByteArray),(⟨#[115,116,114,101,101,116]⟩:ByteArray),(⟨#[112,97,116,104]⟩:ByteArray),(⟨#[115,116,114,101,101,116]⟩:ByteArray),(⟨#[109,111,116,111,114,119,97,121]⟩:ByteArray)] (Int.toNat r67.1) (⟨#[]⟩:ByteArray)))])+List.length [((⟨#[106,117,110,99,116,105,111,110]⟩:ByteArray),(⟨#[114,105,110,103]⟩:ByteArray))])*32≤140737488355328) then (f95.j71 k r68 ((v65 ++ [((⟨#[104,105,103,104,119,97,121]⟩:ByteArray),(List.getD [(⟨#[109,97,105,110]⟩:ByteArray),(⟨#[115,116,114,101,101,116]⟩:ByteArray),(⟨#[112,97,116,104]⟩:ByteArray),(⟨#[115,116,114,101,101,116]⟩:ByteArray),(⟨#[109,111,116,111,114,119,97,121]⟩:ByteArray)] (Int.toNat r67.1) (⟨#[]⟩:ByteArray)))]) ++ [((⟨#[106,117,110,99,116,105,111,110]⟩:ByteArray),(⟨#[114,105,110,103]⟩:ByteArray))])) else none) else (f95.j71 k r68 (v65 ++ [((⟨#[104,105,103,104,119,97,121]⟩:ByteArray),(List.getD [(⟨#[109,97,105,110]⟩:ByteArray),(⟨#[115,116,114,101,101,116]⟩:ByteArray),(⟨#[112,97,116,104]⟩:ByteArray),(⟨#[115,116,114,101,101,116]⟩:ByteArray),(⟨#[109,111,116,111,114,119,97,121]⟩:ByteArray)] (Int.toNat r67.1) (⟨#[]⟩:ByteArray)))])))) else none) else none)
def f95 (k:Nat) (x0:((List Int) × (Int × Int))) (x1:Int):Option ((List (ByteArray × ByteArray)) × ((List Int) × (Int × Int))):=if ((x1:Int) == (1:Int)) then ((f61 k x0 (3:Int)).bind fun r30 => (if r30.1 then ((f54 k r30.2 (5:Int)).bind fun r46 => (if (0≤r46.1∧r46.1 < (List.length [(⟨#[79,108,100,32,77,105,108,108]⟩:ByteArray),(⟨#[78,111,114,116,104,32,71,97,116,101]⟩:ByteArray),(⟨#[83,116,97,116,105,111,110]⟩:ByteArray),(⟨#[77,105,108,108,32,76,97,110,101,32,52]⟩:ByteArray),(⟨#[82,101,100,32,76,105,111,110]⟩:ByteArray)]:Int)) then (if ((List.length ([]:List (ByteArray × ByteArray))+List.length [((⟨#[110,97,109,101]⟩:ByteArray),(List.getD [(⟨#[79,108,100,32,77,105,108,108]⟩:ByteArray),(⟨#[78,111,114,116,104,32,71,97,116,101]⟩:ByteArray),(⟨#[83,116,97,116,105,111,110]⟩:ByteArray),(⟨#[77,105,108,108,32,76,97,110,101,32,52]⟩:ByteArray),(⟨#[82,101,100,32,76,105,111,110]⟩:ByteArray)] (Int.toNat r46.1) (⟨#[]⟩:ByteArray)))])*32≤140737488355328) then ((f61 k r46.2 (2:Int)).bind fun r47 => (if r47.1 then ((f54 k r47.2 (3:Int)).bind fun r48 => (if (0≤r48.1∧r48.1 < (List.length [(⟨#[116,111,119,110]⟩:ByteArray),(⟨#[118,105,108,108,97,103,101]⟩:ByteArray),(⟨#[115,104,111,112]⟩:ByteArray)]:Int)) then (if ((List.length (([]:List (ByteArray × ByteArray)) ++ [((⟨#[110,97,109,101]⟩:ByteArray),(List.getD [(⟨#[79,108,100,32,77,105,108,108]⟩:ByteArray),(⟨#[78,111,114,116,104,32,71,97,116,101]⟩:ByteArray),(⟨#[83,116,97,116,105,111,110]⟩:ByteArray),(⟨#[77,105,108,108,32,76,97,110,101,32,52]⟩:ByteArray),(⟨#[82,101,100,32,76,105,111,110]⟩:ByteArray)] (Int.toNat r46.1) (⟨#[]⟩:ByteArray)))])+List.length [((⟨#[112,108,97,99,101]⟩:ByteArray),(List.getD [(⟨#[116,111,119,110]⟩:ByteArray),(⟨#[118,105,108,108,97,103,101]⟩:ByteArray),(⟨#[115,104,111,112]⟩:ByteArray)] (Int.toNat r48.1) (⟨#[]⟩:ByteArray)))])*32≤140737488355328) then ((some (((([]:List (ByteArray × ByteArray)) ++ [((⟨#[110,97,109,101]⟩:ByteArray),(List.getD [(⟨#[79,108,100,32,77,105,108,108]⟩:ByteArray),(⟨#[78,111,114,116,104,32,71,97,116,101]⟩:ByteArray),(⟨#[83,116,97,116,105,111,110]⟩:ByteArray),(⟨#[77,105,108,108,32,76,97,110,101,32,52]⟩:ByteArray),(⟨#[82,101,100,32,76,105,111,110]⟩:ByteArray)] (Int.toNat r46.1) (⟨#[]⟩:ByteArray)))]) ++ [((⟨#[112,108,97,99,101]⟩:ByteArray),(List.getD [(⟨#[116,111,119,110]⟩:ByteArray),(⟨#[118,105,108,108,97,103,101]⟩:ByteArray),(⟨#[115,104,111,112]⟩:ByteArray)] (Int.toNat r48.1) (⟨#[]⟩:ByteArray)))]):(List (ByteArray × ByteArray)))).bind fun v49 => (f95.j45 k (r48.2,v49))) else none) else none)) else (f95.j45 k (r47.2,(([]:List (ByteArray × ByteArray)) ++ [((⟨#[110,97,109,101]⟩:ByteArray),(List.getD [(⟨#[79,108,100,32,77,105,108,108]⟩:ByteArray),(⟨#[78,111,114,116,104,32,71,97,116,101]⟩:ByteArray),(⟨#[83,116,97,116,105,111,110]⟩:ByteArray),(⟨#[77,105,108,108,32,76,97,110,101,32,52]⟩:ByteArray),(⟨#[82,101,100,32,76,105,111,110]⟩:ByteArray)] (Int.toNat r46.1) (⟨#[]⟩:ByteArray)))]))))) else none) else none)) else (f95.j45 k (r30.2,([]:List (ByteArray × ByteArray)))))) else ((f61 k x0 (6:Int)).bind fun r59 => (if r59.1 then ((f54 k r59.2 (3:Int)).bind fun r116 => (if (0≤r116.1∧r116.1 < (List.length [(⟨#[110,111]⟩:ByteArray),(⟨#[112,114,105,118,97,116,101]⟩:ByteArray),(⟨#[121,101,115]⟩:ByteArray)]:Int)) then (if ((List.length ([]:List (ByteArray × ByteArray))+List.length [((⟨#[97,99,99,101,115,115]⟩:ByteArray),(List.getD [(⟨#[110,111]⟩:ByteArray),(⟨#[112,114,105,118,97,116,101]⟩:ByteArray),(⟨#[121,101,115]⟩:ByteArray)] (Int.toNat r116.1) (⟨#[]⟩:ByteArray)))])*32≤140737488355328) then (f95.j66 k (r116.2,(([]:List (ByteArray × ByteArray)) ++ [((⟨#[97,99,99,101,115,115]⟩:ByteArray),(List.getD [(⟨#[110,111]⟩:ByteArray),(⟨#[112,114,105,118,97,116,101]⟩:ByteArray),(⟨#[121,101,115]⟩:ByteArray)] (Int.toNat r116.1) (⟨#[]⟩:ByteArray)))]))) else none) else none)) else (f95.j66 k (r59.2,([]:List (ByteArray × ByteArray))))))
theorem c95 (k:Nat) (x0:((List Int) × (Int × Int))) (x1:Int) (r:((List (ByteArray × ByteArray)) × ((List Int) × (Int × Int)))) (hF:f95 k x0 x1=some r):PMut Try.prog 95 [⟨sh0,some x0⟩,⟨(.int .i64),x1⟩] [⟨sh1,r.1⟩] (List.set [⟨sh0,some x0⟩,⟨(.int .i64),x1⟩] 0 ⟨sh0,some r.2⟩):=by
 refine pmutO_intro (j:=0) (fin:=⟨sh0,some r.2⟩) Try.func95 rfl rfl (Nat.le_of_ble_eq_true rfl) (Nat.le_of_ble_eq_true rfl) (by kernel_rfl) (by kernel_rfl) ?_
 intro w0 Zi f0 v0 hw a w h
 rw [f95] at hF
 refine wp_reg_seq tok (orc:=o0) (fz:=[]) (l:=[0,1]) (.inl rfl) h (by kernel_rfl) an fun a w h => ?_
 refine wp_reg_seq tok (orc:=o0) (fz:=[]) (l:=[0,1,5]) (.inl rfl) h (by kernel_rfl) an fun a w h => ?_
 refine wp_seq ?_
 refine wp_reg_seq tok (orc:=o0) (fz:=[]) (l:=[0,5,8]) (.inl rfl) h (by kernel_rfl) an fun a w h => ?_
 refine wp_if h (b:=((x1:Int) == (1:Int))) (by kernel_rfl) (fun hb => ?_) (fun hb => ?_)
 ·replace hF:=of_t hb hF
  refine wp_seq ?_
  obtain ⟨r30,hr58,hF⟩:=of_bind hF
  refine wp_reg_seq tok (orc:=orcL [(10,[⟨.pt false 4294967295 (.pt true 97 (.st (.pair (.sl false 5 (.int .u8)) (.pair (.int .i64) (.int .i64))))),some (some r30.2)⟩,⟨.bool,r30.1⟩])]) (fz:=[]) (l:=[0,5,10]) (.inl rfl) h (by kernel_rfl) (ac (c61 k x0 (3:Int) r30 hr58) an) fun a w h => ?_
  refine wp_midT (fun a w => ∃ v:(((List Int) × (Int × Int)) × (List (ByteArray × ByteArray))),f95.j45 k v=some r∧Rel w0 f0 Zi ⟨Try.f95.ntmps,[0],fun _ => v0⟩ ((fun ((v43,v44):(((List Int) × (Int × Int)) × (List (ByteArray × ByteArray)))) => ([(0,.val sh0 (some v43)),(5,.val sh1 v44)]:SS)) v) a w) ?_ ?_
  ·
   refine wp_if h (b:=r30.1) (by kernel_rfl) (fun hb => ?_) (fun hb => ?_)
   ·replace hF:=of_t hb hF
    obtain ⟨r46,hr55,hF⟩:=of_bind hF
    obtain ⟨hc56,hF⟩:=of_if hF
    obtain ⟨hc57,hF⟩:=of_if hF
    refine wp_reg_seq tok (orc:=orcL [(14,[⟨.pt false 4294967295 (.pt true 97 (.st (.pair (.sl false 5 (.int .u8)) (.pair (.int .i64) (.int .i64))))),some (some r46.2)⟩,⟨(.int .i64),r46.1⟩])]) (fz:=[]) (l:=[0,5]) (.inl rfl) h (by kernel_rfl) (ac (c54 k r30.2 (5:Int) r46 hr55) (ac hc56 (ac hc57 an))) fun a w h => ?_
    obtain ⟨r47,hr54,hF⟩:=of_bind hF
    refine wp_reg_seq tok (orc:=orcL [(21,[⟨.pt false 4294967295 (.pt true 97 (.st (.pair (.sl false 5 (.int .u8)) (.pair (.int .i64) (.int .i64))))),some (some r47.2)⟩,⟨.bool,r47.1⟩])]) (fz:=[]) (l:=[0,5,21]) (.inl rfl) h (by kernel_rfl) (ac (c61 k r46.2 (2:Int) r47 hr54) an) fun a w h => ?_
    refine wp_if h (b:=r47.1) (by kernel_rfl) (fun hb => ?_) (fun hb => ?_)
    ·replace hF:=of_t hb hF
     obtain ⟨r48,hr51,hF⟩:=of_bind hF
     obtain ⟨hc52,hF⟩:=of_if hF
     obtain ⟨hc53,hF⟩:=of_if hF
     refine wp_reg tok (orc:=orcL [(25,[⟨.pt false 4294967295 (.pt true 97 (.st (.pair (.sl false 5 (.int .u8)) (.pair (.int .i64) (.int .i64))))),some (some r48.2)⟩,⟨(.int .i64),r48.1⟩])]) (fz:=[]) (l:=[0,5]) (.inl rfl) h (by kernel_rfl) (ac (c54 k r47.2 (3:Int) r48 hr51) (ac hc52 (ac hc53 an))) fun a w h => ?_
     obtain ⟨v49,hv50,hF⟩:=of_bind hF
     replace h:=h.cast (S':=[(0,.val sh0 (some r48.2)),(5,.val sh1 v49)]) (by cases hv50; kernel_rfl)
     exact ⟨(r48.2,v49),hF,h.arrive (fz:=[]) (l:=[0,5]) (.inl rfl) (by kernel_rfl)⟩
    ·replace hF:=of_f hb hF
     refine wp_skip ?_
     exact ⟨(r47.2,(([]:List (ByteArray × ByteArray)) ++ [((⟨#[110,97,109,101]⟩:ByteArray),(gD [(⟨#[79,108,100,32,77,105,108,108]⟩:ByteArray),(⟨#[78,111,114,116,104,32,71,97,116,101]⟩:ByteArray),(⟨#[83,116,97,116,105,111,110]⟩:ByteArray),(⟨#[77,105,108,108,32,76,97,110,101,32,52]⟩:ByteArray),(⟨#[82,101,100,32,76,105,111,110]⟩:ByteArray)] (tZ r46.1) (⟨#[]⟩:ByteArray)))])),hF,h.arrive (fz:=[]) (l:=[0,5]) (.inl rfl) (by kernel_rfl)⟩
   ·replace hF:=of_f hb hF
    refine wp_skip ?_
    exact ⟨(r30.2,([]:List (ByteArray × ByteArray))),hF,h.arrive (fz:=[]) (l:=[0,5]) (.inl rfl) (by kernel_rfl)⟩
  ·rintro a w ⟨v,hF,h⟩
   obtain ⟨v43,v44⟩:=v
   rw [f95.j45] at hF
   refine wp_reg_seq tok (orc:=o0) (fz:=[]) (l:=[0,4,5]) (.inl rfl) h (by kernel_rfl) an fun a w h => ?_
   cases hF
   exact wp_ret (retO_ok tok h rfl (by kernel_rfl)).1
 ·replace hF:=of_f hb hF
  refine wp_skip ?_
  refine wp_seq ?_
  obtain ⟨r59,hr120,hF⟩:=of_bind hF
  refine wp_reg_seq tok (orc:=orcL [(33,[⟨.pt false 4294967295 (.pt true 97 (.st (.pair (.sl false 5 (.int .u8)) (.pair (.int .i64) (.int .i64))))),some (some r59.2)⟩,⟨.bool,r59.1⟩])]) (fz:=[]) (l:=[0,5,33]) (.inl rfl) h (by kernel_rfl) (ac (c61 k x0 (6:Int) r59 hr120) an) fun a w h => ?_
  refine wp_midT (fun a w => ∃ v:(((List Int) × (Int × Int)) × (List (ByteArray × ByteArray))),f95.j66 k v=some r∧Rel w0 f0 Zi ⟨Try.f95.ntmps,[0],fun _ => v0⟩ ((fun ((v64,v65):(((List Int) × (Int × Int)) × (List (ByteArray × ByteArray)))) => ([(0,.val sh0 (some v64)),(5,.val sh1 v65)]:SS)) v) a w) ?_ ?_
  ·
   refine wp_if h (b:=r59.1) (by kernel_rfl) (fun hb => ?_) (fun hb => ?_)
   ·replace hF:=of_t hb hF
    obtain ⟨r116,hr117,hF⟩:=of_bind hF
    obtain ⟨hc118,hF⟩:=of_if hF
    obtain ⟨hc119,hF⟩:=of_if hF
    refine wp_reg tok (orc:=orcL [(37,[⟨.pt false 4294967295 (.pt true 97 (.st (.pair (.sl false 5 (.int .u8)) (.pair (.int .i64) (.int .i64))))),some (some r116.2)⟩,⟨(.int .i64),r116.1⟩])]) (fz:=[]) (l:=[0,5]) (.inl rfl) h (by kernel_rfl) (ac (c54 k r59.2 (3:Int) r116 hr117) (ac hc118 (ac hc119 an))) fun a w h => ?_
    exact ⟨(r116.2,(([]:List (ByteArray × ByteArray)) ++ [((⟨#[97,99,99,101,115,115]⟩:ByteArray),(gD [(⟨#[110,111]⟩:ByteArray),(⟨#[112,114,105,118,97,116,101]⟩:ByteArray),(⟨#[121,101,115]⟩:ByteArray)] (tZ r116.1) (⟨#[]⟩:ByteArray)))])),hF,h.arrive (fz:=[]) (l:=[0,5]) (.inl rfl) (by kernel_rfl)⟩
   ·replace hF:=of_f hb hF
    refine wp_skip ?_
    exact ⟨(r59.2,([]:List (ByteArray × ByteArray))),hF,h.arrive (fz:=[]) (l:=[0,5]) (.inl rfl) (by kernel_rfl)⟩
  ·rintro a w ⟨v,hF,h⟩
   obtain ⟨v64,v65⟩:=v
   rw [f95.j66] at hF
   obtain ⟨r67,hr113,hF⟩:=of_bind hF
   obtain ⟨hc114,hF⟩:=of_if hF
   obtain ⟨hc115,hF⟩:=of_if hF
   refine wp_reg_seq tok (orc:=orcL [(46,[⟨.pt false 4294967295 (.pt true 97 (.st (.pair (.sl false 5 (.int .u8)) (.pair (.int .i64) (.int .i64))))),some (some r67.2)⟩,⟨(.int .i64),r67.1⟩])]) (fz:=[]) (l:=[0,5]) (.inl rfl) h (by kernel_rfl) (ac (c54 k v64 (5:Int) r67 hr113) (ac hc114 (ac hc115 an))) fun a w h => ?_
   refine wp_seq ?_
   obtain ⟨r68,hr112,hF⟩:=of_bind hF
   refine wp_reg_seq tok (orc:=orcL [(53,[⟨.pt false 4294967295 (.pt true 97 (.st (.pair (.sl false 5 (.int .u8)) (.pair (.int .i64) (.int .i64))))),some (some r68.2)⟩,⟨.bool,r68.1⟩])]) (fz:=[]) (l:=[0,5,53]) (.inl rfl) h (by kernel_rfl) (ac (c61 k r67.2 (8:Int) r68 hr112) an) fun a w h => ?_
   refine wp_midT (fun a w => ∃ v:(List (ByteArray × ByteArray)),f95.j71 k r68 v=some r∧Rel w0 f0 Zi ⟨Try.f95.ntmps,[0],fun _ => v0⟩ ((fun (v70:(List (ByteArray × ByteArray))) => ([(0,.val sh0 (some r68.2)),(5,.val sh1 v70)]:SS)) v) a w) ?_ ?_
   ·
    refine wp_if h (b:=r68.1) (by kernel_rfl) (fun hb => ?_) (fun hb => ?_)
    ·replace hF:=of_t hb hF
     obtain ⟨hc111,hF⟩:=of_if hF
     refine wp_reg tok (orc:=o0) (fz:=[]) (l:=[0,5]) (.inl rfl) h (by kernel_rfl) (ac hc111 an) fun a w h => ?_
     exact ⟨((v65 ++ [((⟨#[104,105,103,104,119,97,121]⟩:ByteArray),(gD [(⟨#[109,97,105,110]⟩:ByteArray),(⟨#[115,116,114,101,101,116]⟩:ByteArray),(⟨#[112,97,116,104]⟩:ByteArray),(⟨#[115,116,114,101,101,116]⟩:ByteArray),(⟨#[109,111,116,111,114,119,97,121]⟩:ByteArray)] (tZ r67.1) (⟨#[]⟩:ByteArray)))]) ++ [((⟨#[106,117,110,99,116,105,111,110]⟩:ByteArray),(⟨#[114,105,110,103]⟩:ByteArray))]),hF,h.arrive (fz:=[]) (l:=[0,5]) (.inl rfl) (by kernel_rfl)⟩
    ·replace hF:=of_f hb hF
     refine wp_skip ?_
     exact ⟨(v65 ++ [((⟨#[104,105,103,104,119,97,121]⟩:ByteArray),(gD [(⟨#[109,97,105,110]⟩:ByteArray),(⟨#[115,116,114,101,101,116]⟩:ByteArray),(⟨#[112,97,116,104]⟩:ByteArray),(⟨#[115,116,114,101,101,116]⟩:ByteArray),(⟨#[109,111,116,111,114,119,97,121]⟩:ByteArray)] (tZ r67.1) (⟨#[]⟩:ByteArray)))]),hF,h.arrive (fz:=[]) (l:=[0,5]) (.inl rfl) (by kernel_rfl)⟩
   ·rintro a w ⟨v70,hF,h⟩
    rw [f95.j71] at hF
    refine wp_seq ?_
    obtain ⟨r72,hr110,hF⟩:=of_bind hF
    refine wp_reg_seq tok (orc:=orcL [(59,[⟨.pt false 4294967295 (.pt true 97 (.st (.pair (.sl false 5 (.int .u8)) (.pair (.int .i64) (.int .i64))))),some (some r72.2)⟩,⟨.bool,r72.1⟩])]) (fz:=[]) (l:=[0,5,59]) (.inl rfl) h (by kernel_rfl) (ac (c61 k r68.2 (3:Int) r72 hr110) an) fun a w h => ?_
    refine wp_midT (fun a w => ∃ v:(((List Int) × (Int × Int)) × (List (ByteArray × ByteArray))),f95.j79 k v=some r∧Rel w0 f0 Zi ⟨Try.f95.ntmps,[0],fun _ => v0⟩ ((fun ((v77,v78):(((List Int) × (Int × Int)) × (List (ByteArray × ByteArray)))) => ([(0,.val sh0 (some v77)),(5,.val sh1 v78)]:SS)) v) a w) ?_ ?_
    ·
     refine wp_if h (b:=r72.1) (by kernel_rfl) (fun hb => ?_) (fun hb => ?_)
     ·replace hF:=of_t hb hF
      obtain ⟨r106,hr107,hF⟩:=of_bind hF
      obtain ⟨hc108,hF⟩:=of_if hF
      obtain ⟨hc109,hF⟩:=of_if hF
      refine wp_reg tok (orc:=orcL [(63,[⟨.pt false 4294967295 (.pt true 97 (.st (.pair (.sl false 5 (.int .u8)) (.pair (.int .i64) (.int .i64))))),some (some r106.2)⟩,⟨(.int .i64),r106.1⟩])]) (fz:=[]) (l:=[0,5]) (.inl rfl) h (by kernel_rfl) (ac (c54 k r72.2 (4:Int) r106 hr107) (ac hc108 (ac hc109 an))) fun a w h => ?_
      exact ⟨(r106.2,(v70 ++ [((⟨#[109,97,120,115,112,101,101,100]⟩:ByteArray),(gD [(⟨#[53]⟩:ByteArray),(⟨#[49,50]⟩:ByteArray),(⟨#[51,48]⟩:ByteArray),(⟨#[102,97,115,116]⟩:ByteArray)] (tZ r106.1) (⟨#[]⟩:ByteArray)))])),hF,h.arrive (fz:=[]) (l:=[0,5]) (.inl rfl) (by kernel_rfl)⟩
     ·replace hF:=of_f hb hF
      refine wp_skip ?_
      exact ⟨(r72.2,v70),hF,h.arrive (fz:=[]) (l:=[0,5]) (.inl rfl) (by kernel_rfl)⟩
    ·rintro a w ⟨v,hF,h⟩
     obtain ⟨v77,v78⟩:=v
     rw [f95.j79] at hF
     refine wp_seq ?_
     obtain ⟨r80,hr105,hF⟩:=of_bind hF
     refine wp_reg_seq tok (orc:=orcL [(70,[⟨.pt false 4294967295 (.pt true 97 (.st (.pair (.sl false 5 (.int .u8)) (.pair (.int .i64) (.int .i64))))),some (some r80.2)⟩,⟨.bool,r80.1⟩])]) (fz:=[]) (l:=[0,5,71]) (.inl rfl) h (by kernel_rfl) (ac (c61 k v77 (3:Int) r80 hr105) an) fun a w h => ?_
     refine wp_midT (fun a w => ∃ v:(((List Int) × (Int × Int)) × (List (ByteArray × ByteArray))),f95.j87 k v=some r∧Rel w0 f0 Zi ⟨Try.f95.ntmps,[0],fun _ => v0⟩ ((fun ((v85,v86):(((List Int) × (Int × Int)) × (List (ByteArray × ByteArray)))) => ([(0,.val sh0 (some v85)),(5,.val sh1 v86)]:SS)) v) a w) ?_ ?_
     ·
      refine wp_if h (b:=(!r80.1)) (by kernel_rfl) (fun hb => ?_) (fun hb => ?_)
      ·replace hF:=of_t hb hF
       obtain ⟨r101,hr102,hF⟩:=of_bind hF
       obtain ⟨hc103,hF⟩:=of_if hF
       obtain ⟨hc104,hF⟩:=of_if hF
       refine wp_reg tok (orc:=orcL [(75,[⟨.pt false 4294967295 (.pt true 97 (.st (.pair (.sl false 5 (.int .u8)) (.pair (.int .i64) (.int .i64))))),some (some r101.2)⟩,⟨(.int .i64),r101.1⟩])]) (fz:=[]) (l:=[0,5]) (.inl rfl) h (by kernel_rfl) (ac (c54 k r80.2 (4:Int) r101 hr102) (ac hc103 (ac hc104 an))) fun a w h => ?_
       exact ⟨(r101.2,(v78 ++ [((⟨#[110,97,109,101]⟩:ByteArray),(gD [(⟨#[72,105,103,104,32,83,116,114,101,101,116]⟩:ByteArray),(⟨#[77,105,108,108,32,76,97,110,101]⟩:ByteArray),(⟨#[82,105,110,103,32,82,111,97,100]⟩:ByteArray),(⟨#[81,117,97,121]⟩:ByteArray)] (tZ r101.1) (⟨#[]⟩:ByteArray)))])),hF,h.arrive (fz:=[]) (l:=[0,5]) (.inl rfl) (by kernel_rfl)⟩
      ·replace hF:=of_f hb hF
       refine wp_skip ?_
       exact ⟨(r80.2,v78),hF,h.arrive (fz:=[]) (l:=[0,5]) (.inl rfl) (by kernel_rfl)⟩
     ·rintro a w ⟨v,hF,h⟩
      obtain ⟨v85,v86⟩:=v
      rw [f95.j87] at hF
      refine wp_seq ?_
      obtain ⟨r88,hr100,hF⟩:=of_bind hF
      refine wp_reg_seq tok (orc:=orcL [(82,[⟨.pt false 4294967295 (.pt true 97 (.st (.pair (.sl false 5 (.int .u8)) (.pair (.int .i64) (.int .i64))))),some (some r88.2)⟩,⟨.bool,r88.1⟩])]) (fz:=[]) (l:=[0,5,82]) (.inl rfl) h (by kernel_rfl) (ac (c61 k v85 (5:Int) r88 hr100) an) fun a w h => ?_
      refine wp_midT (fun a w => ∃ v:(((List Int) × (Int × Int)) × (List (ByteArray × ByteArray))),f95.j95 k v=some r∧Rel w0 f0 Zi ⟨Try.f95.ntmps,[0],fun _ => v0⟩ ((fun ((v93,v94):(((List Int) × (Int × Int)) × (List (ByteArray × ByteArray)))) => ([(0,.val sh0 (some v93)),(5,.val sh1 v94)]:SS)) v) a w) ?_ ?_
      ·
       refine wp_if h (b:=r88.1) (by kernel_rfl) (fun hb => ?_) (fun hb => ?_)
       ·replace hF:=of_t hb hF
        obtain ⟨r96,hr97,hF⟩:=of_bind hF
        obtain ⟨hc98,hF⟩:=of_if hF
        obtain ⟨hc99,hF⟩:=of_if hF
        refine wp_reg tok (orc:=orcL [(86,[⟨.pt false 4294967295 (.pt true 97 (.st (.pair (.sl false 5 (.int .u8)) (.pair (.int .i64) (.int .i64))))),some (some r96.2)⟩,⟨(.int .i64),r96.1⟩])]) (fz:=[]) (l:=[0,5]) (.inl rfl) h (by kernel_rfl) (ac (c54 k r88.2 (3:Int) r96 hr97) (ac hc98 (ac hc99 an))) fun a w h => ?_
        exact ⟨(r96.2,(v86 ++ [((⟨#[111,110,101,119,97,121]⟩:ByteArray),(gD [(⟨#[121,101,115]⟩:ByteArray),(⟨#[45,49]⟩:ByteArray),(⟨#[110,111]⟩:ByteArray)] (tZ r96.1) (⟨#[]⟩:ByteArray)))])),hF,h.arrive (fz:=[]) (l:=[0,5]) (.inl rfl) (by kernel_rfl)⟩
       ·replace hF:=of_f hb hF
        refine wp_skip ?_
        exact ⟨(r88.2,v86),hF,h.arrive (fz:=[]) (l:=[0,5]) (.inl rfl) (by kernel_rfl)⟩
      ·rintro a w ⟨v,hF,h⟩
       obtain ⟨v93,v94⟩:=v
       rw [f95.j95] at hF
       refine wp_reg_seq tok (orc:=o0) (fz:=[]) (l:=[0,4,5]) (.inl rfl) h (by kernel_rfl) an fun a w h => ?_
       cases hF
       exact wp_ret (retO_ok tok h rfl (by kernel_rfl)).1
def f96.j4 (k:Nat) (x2:Int) (x1:Int) (r1:(Int × ((List Int) × (Int × Int)))):(Int × Int)→Option (Int × ((List Int) × (Int × Int)))
 | (v2,v3) => if (bif (bif (bif (decide ((v2:Int) < (0:Int))) then true else (decide ((v2:Int) ≥ x2))) then true else (decide ((v3:Int) < (0:Int)))) then true else (decide ((v3:Int) ≥ x2))) then (some (x1,r1.2)) else (some ((IntKind.i64.wrap ((IntKind.i64.wrap (v3*x2))+v2)),r1.2))
def f96 (k:Nat) (x0:((List Int) × (Int × Int))) (x1:Int) (x2:Int):Option (Int × ((List Int) × (Int × Int))):=if ((x2:Int)≠0) then (if ((x2:Int)≠0) then ((f54 k x0 (4:Int)).bind fun r1 => (if ((r1.1:Int) == (0:Int)) then (f96.j4 k x2 x1 r1 ((IntKind.i64.wrap ((Int.tmod x1 x2) + (1:Int))),(IntKind.i64.wrap (Int.tdiv x1 x2)))) else (if ((r1.1:Int) == (1:Int)) then (f96.j4 k x2 x1 r1 ((IntKind.i64.wrap ((Int.tmod x1 x2) - (1:Int))),(IntKind.i64.wrap (Int.tdiv x1 x2)))) else (if ((r1.1:Int) == (2:Int)) then (f96.j4 k x2 x1 r1 ((Int.tmod x1 x2),(IntKind.i64.wrap ((IntKind.i64.wrap (Int.tdiv x1 x2)) + (1:Int))))) else (f96.j4 k x2 x1 r1 ((Int.tmod x1 x2),(IntKind.i64.wrap ((IntKind.i64.wrap (Int.tdiv x1 x2)) - (1:Int))))))))) else none) else none
theorem c96 (k:Nat) (x0:((List Int) × (Int × Int))) (x1:Int) (x2:Int) (r:(Int × ((List Int) × (Int × Int)))) (hF:f96 k x0 x1 x2=some r):PMut Try.prog 96 [⟨sh0,some x0⟩,⟨(.int .i64),x1⟩,⟨(.int .i64),x2⟩] [⟨(.int .i64),r.1⟩] (List.set [⟨sh0,some x0⟩,⟨(.int .i64),x1⟩,⟨(.int .i64),x2⟩] 0 ⟨sh0,some r.2⟩):=by
 refine pmutO_intro (j:=0) (fin:=⟨sh0,some r.2⟩) Try.func96 rfl rfl (Nat.le_of_ble_eq_true rfl) (Nat.le_of_ble_eq_true rfl) (by kernel_rfl) (by kernel_rfl) ?_
 intro w0 Zi f0 v0 hw a w h
 rw [f96] at hF
 refine wp_reg_seq tok (orc:=o0) (fz:=[]) (l:=[0,1,2]) (.inl rfl) h (by kernel_rfl) an fun a w h => ?_
 obtain ⟨hc7,hF⟩:=of_if hF
 refine wp_reg_seq tok (orc:=o0) (fz:=[]) (l:=[0,1,2,7]) (.inl rfl) h (by kernel_rfl) (ac hc7 an) fun a w h => ?_
 obtain ⟨hc6,hF⟩:=of_if hF
 refine wp_reg_seq tok (orc:=o0) (fz:=[]) (l:=[0,1,2,7,8]) (.inl rfl) h (by kernel_rfl) (ac hc6 an) fun a w h => ?_
 refine wp_seq ?_
 obtain ⟨r1,hr5,hF⟩:=of_bind hF
 refine wp_reg_seq tok (orc:=orcL [(16,[⟨.pt false 4294967295 (.pt true 97 (.st (.pair (.sl false 5 (.int .u8)) (.pair (.int .i64) (.int .i64))))),some (some r1.2)⟩,⟨(.int .i64),r1.1⟩])]) (fz:=[]) (l:=[0,1,2,7,8,16]) (.inl rfl) h (by kernel_rfl) (ac (c54 k x0 (4:Int) r1 hr5) an) fun a w h => ?_
 refine wp_midT (fun a w => ∃ v:(Int × Int),f96.j4 k x2 x1 r1 v=some r∧Rel w0 f0 Zi ⟨Try.f96.ntmps,[0],fun _ => v0⟩ ((fun ((v2,v3):(Int × Int)) => ([(0,.val sh0 (some r1.2)),(1,.val (.int .i64) x1),(2,.val (.int .i64) x2),(7,.val (.int .i64) v2),(8,.val (.int .i64) v3)]:SS)) v) a w) ?_ ?_
 ·
  refine wp_block ?_
  refine wp_reg_seq tok (orc:=o0) (fz:=[]) (l:=[0,1,2,7,8,16,19]) (.inl rfl) h (by kernel_rfl) an fun a w h => ?_
  refine wp_if h (b:=((r1.1:Int) == iO)) (by kernel_rfl) (fun hb => ?_) (fun hb => ?_)
  ·replace hF:=of_t hb hF
   refine wp_reg tok (orc:=o0) (fz:=[]) (l:=[0,1,2,7,8]) (.inl rfl) h (by kernel_rfl) an fun a w h => ?_
   exact ⟨((w64 ((Int.tmod x1 x2) + (1:Int))),(w64 (Int.tdiv x1 x2))),hF,h.arrive (fz:=[]) (l:=[0,1,2,7,8]) (.inl rfl) (by kernel_rfl)⟩
  ·replace hF:=of_f hb hF
   refine wp_reg_seq tok (orc:=o0) (fz:=[]) (l:=[0,1,2,7,8,16,23]) (.inl rfl) h (by kernel_rfl) an fun a w h => ?_
   refine wp_if h (b:=((r1.1:Int) == (1:Int))) (by kernel_rfl) (fun hb => ?_) (fun hb => ?_)
   ·replace hF:=of_t hb hF
    refine wp_reg tok (orc:=o0) (fz:=[]) (l:=[0,1,2,7,8]) (.inl rfl) h (by kernel_rfl) an fun a w h => ?_
    exact ⟨((w64 ((Int.tmod x1 x2) - (1:Int))),(w64 (Int.tdiv x1 x2))),hF,h.arrive (fz:=[]) (l:=[0,1,2,7,8]) (.inl rfl) (by kernel_rfl)⟩
   ·replace hF:=of_f hb hF
    refine wp_reg_seq tok (orc:=o0) (fz:=[]) (l:=[0,1,2,7,8,27]) (.inl rfl) h (by kernel_rfl) an fun a w h => ?_
    refine wp_if h (b:=((r1.1:Int) == (2:Int))) (by kernel_rfl) (fun hb => ?_) (fun hb => ?_)
    ·replace hF:=of_t hb hF
     refine wp_reg tok (orc:=o0) (fz:=[]) (l:=[0,1,2,7,8]) (.inl rfl) h (by kernel_rfl) an fun a w h => ?_
     exact ⟨((Int.tmod x1 x2),(w64 ((w64 (Int.tdiv x1 x2)) + (1:Int)))),hF,h.arrive (fz:=[]) (l:=[0,1,2,7,8]) (.inl rfl) (by kernel_rfl)⟩
    ·replace hF:=of_f hb hF
     refine wp_reg tok (orc:=o0) (fz:=[]) (l:=[0,1,2,7,8]) (.inl rfl) h (by kernel_rfl) an fun a w h => ?_
     exact ⟨((Int.tmod x1 x2),(w64 ((w64 (Int.tdiv x1 x2)) - (1:Int)))),hF,h.arrive (fz:=[]) (l:=[0,1,2,7,8]) (.inl rfl) (by kernel_rfl)⟩
 ·rintro a w ⟨v,hF,h⟩
  obtain ⟨v2,v3⟩:=v
  rw [f96.j4] at hF
  refine wp_seq ?_
  refine wp_reg_seq tok (orc:=o0) (fz:=[]) (l:=[0,1,2,7,8,46]) (.inl rfl) h (by kernel_rfl) an fun a w h => ?_
  refine wp_if h (b:=(bif (bif (bif (decide ((v2:Int) < iO)) then true else (decide ((v2:Int) ≥ x2))) then true else (decide ((v3:Int) < iO))) then true else (decide ((v3:Int) ≥ x2)))) (by kernel_rfl) (fun hb => ?_) (fun hb => ?_)
  ·replace hF:=of_t hb hF
   refine wp_reg_seq tok (orc:=o0) (fz:=[]) (l:=[0,6]) (.inl rfl) h (by kernel_rfl) an fun a w h => ?_
   cases hF
   exact wp_ret (retO_ok tok h rfl (by kernel_rfl)).1
  ·replace hF:=of_f hb hF
   refine wp_skip ?_
   refine wp_reg_seq tok (orc:=o0) (fz:=[]) (l:=[0,6]) (.inl rfl) h (by kernel_rfl) an fun a w h => ?_
   cases hF
   exact wp_ret (retO_ok tok h rfl (by kernel_rfl)).1
def f82.j1555 (k:Nat) (v1427:Int) (q909:(((List Int) × (Int × Int)) × (List (Int × ((List Int) × (List (ByteArray × ByteArray))))) × Int)→Option (((List (Int × ((Int × Int) × (List (ByteArray × ByteArray))))) × ((List (Int × ((List Int) × (List (ByteArray × ByteArray))))) × (List (Int × ((List (Int × Bool)) × (List (ByteArray × ByteArray))))))) × ((List Int) × (Int × Int)))):(((List Int) × (Int × Int)) × (List (Int × ((List Int) × (List (ByteArray × ByteArray))))))→Option (((List (Int × ((Int × Int) × (List (ByteArray × ByteArray))))) × ((List (Int × ((List Int) × (List (ByteArray × ByteArray))))) × (List (Int × ((List (Int × Bool)) × (List (ByteArray × ByteArray))))))) × ((List Int) × (Int × Int)))
 | (v1553,v1554) => q909 (v1553,v1554,(IntKind.i64.wrap (v1427 + (1:Int))))
def f82.j1672 (k:Nat) (v1659:((List Int) × (Int × Int))) (v1661:Int) (r1:(Int × ((List Int) × (Int × Int)))) (v1662:Int) (q1618:(((List Int) × (Int × Int)) × (List Int) × Int × Int)→Option (((List (Int × ((Int × Int) × (List (ByteArray × ByteArray))))) × ((List (Int × ((List Int) × (List (ByteArray × ByteArray))))) × (List (Int × ((List (Int × Bool)) × (List (ByteArray × ByteArray))))))) × ((List Int) × (Int × Int)))):(List Int)→Option (((List (Int × ((Int × Int) × (List (ByteArray × ByteArray))))) × ((List (Int × ((List Int) × (List (ByteArray × ByteArray))))) × (List (Int × ((List (Int × Bool)) × (List (ByteArray × ByteArray))))))) × ((List Int) × (Int × Int)))
 | v1671 => (f96 k v1659 v1661 (IntKind.i64.wrap ((2:Int)+r1.1))).bind fun r1673 => (q1618 (r1673.2,v1671,r1673.1,(IntKind.i64.wrap (v1662 - (1:Int)))))
def f82.l1618 (k:Nat) (r1:(Int × ((List Int) × (Int × Int)))) (v1426:(List (Int × ((List Int) × (List (ByteArray × ByteArray)))))) (v1427:Int) (r1556:((List (ByteArray × ByteArray)) × ((List Int) × (Int × Int)))) (q1555:(((List Int) × (Int × Int)) × (List (Int × ((List Int) × (List (ByteArray × ByteArray))))))→Option (((List (Int × ((Int × Int) × (List (ByteArray × ByteArray))))) × ((List (Int × ((List Int) × (List (ByteArray × ByteArray))))) × (List (Int × ((List (Int × Bool)) × (List (ByteArray × ByteArray))))))) × ((List Int) × (Int × Int)))):Nat → (((List Int) × (Int × Int)) × (List Int) × Int × Int)→Option (((List (Int × ((Int × Int) × (List (ByteArray × ByteArray))))) × ((List (Int × ((List Int) × (List (ByteArray × ByteArray))))) × (List (Int × ((List (Int × Bool)) × (List (ByteArray × ByteArray))))))) × ((List Int) × (Int × Int)))
 | 0,_ => none
 | m1618+1,(v1659,v1660,v1661,v1662) => if (decide ((v1662:Int) ≥ (0:Int))) then (if (((((List.length v1660:Int):Int) == (0:Int))=false) → (0 ≤ (IntKind.i64.wrap ((List.length v1660:Int) - (1:Int))) ∧ (IntKind.i64.wrap ((List.length v1660:Int) - (1:Int))) < (List.length v1660:Int))) then (if (bif (((List.length v1660:Int):Int) == (0:Int)) then true else (((List.getD v1660 (Int.toNat (IntKind.i64.wrap ((List.length v1660:Int) - (1:Int)))) (0:Int)):Int) != (IntKind.i64.wrap ((1:Int)+v1661)))) then (if ((List.length v1660+List.length [(IntKind.i64.wrap ((1:Int)+v1661))])*8≤140737488355328) then (f82.j1672 k v1659 v1661 r1 v1662 ((f82.l1618 k r1 v1426 v1427 r1556 q1555) m1618) (List.append v1660 [(IntKind.i64.wrap ((1:Int)+v1661))])) else none) else (f82.j1672 k v1659 v1661 r1 v1662 ((f82.l1618 k r1 v1426 v1427 r1556 q1555) m1618) v1660)) else none) else (if (decide (((List.length v1660:Int):Int) > (1:Int))) then (if ((List.length v1426+List.length [((IntKind.i64.wrap ((100:Int)+v1427)),(v1660,r1556.1))])*56≤140737488355328) then (q1555 (v1659,(List.append v1426 [((IntKind.i64.wrap ((100:Int)+v1427)),(v1660,r1556.1))]))) else none) else (q1555 (v1659,v1426)))
def f82.l909 (k:Nat) (r136:(Int × ((List Int) × (Int × Int)))) (r1:(Int × ((List Int) × (Int × Int)))) (v116:(List (Int × ((Int × Int) × (List (ByteArray × ByteArray)))))):Nat → (((List Int) × (Int × Int)) × (List (Int × ((List Int) × (List (ByteArray × ByteArray))))) × Int)→Option (((List (Int × ((Int × Int) × (List (ByteArray × ByteArray))))) × ((List (Int × ((List Int) × (List (ByteArray × ByteArray))))) × (List (Int × ((List (Int × Bool)) × (List (ByteArray × ByteArray))))))) × ((List Int) × (Int × Int)))
 | 0,_ => none
 | m909+1,(v1425,v1426,v1427) => if (decide ((v1427:Int) < (IntKind.i64.wrap ((1:Int)+r136.1)))) then ((f95 k v1425 (2:Int)).bind fun r1556 => ((f54 k r1556.2 (IntKind.i64.wrap ((IntKind.i64.wrap ((2:Int)+r1.1)) * (IntKind.i64.wrap ((2:Int)+r1.1))))).bind fun r1557 => ((f54 k r1557.2 (6:Int)).bind fun r1558 => (f82.l1618 k r1 v1426 v1427 r1556 (f82.j1555 k v1427 ((f82.l909 k r136 r1 v116) m909)) k (r1558.2,([]:(List Int)),r1557.1,(IntKind.i64.wrap ((1:Int)+r1558.1))))))) else (some ((v116,(v1426,([]:(List (Int × ((List (Int × Bool)) × (List (ByteArray × ByteArray)))))))),v1425))
def f82.l69 (k:Nat) (r1:(Int × ((List Int) × (Int × Int)))):Nat → (((List Int) × (Int × Int)) × (List (Int × ((Int × Int) × (List (ByteArray × ByteArray))))) × Int)→Option (((List (Int × ((Int × Int) × (List (ByteArray × ByteArray))))) × ((List (Int × ((List Int) × (List (ByteArray × ByteArray))))) × (List (Int × ((List (Int × Bool)) × (List (ByteArray × ByteArray))))))) × ((List Int) × (Int × Int)))
 | 0,_ => none
 | m69+1,(v115,v116,v117) => if (decide ((v117:Int) < (IntKind.i64.wrap ((IntKind.i64.wrap ((2:Int)+r1.1)) * (IntKind.i64.wrap ((2:Int)+r1.1)))))) then (if (((IntKind.i64.wrap ((2:Int)+r1.1)):Int)≠0) then ((f54 k v115 (30:Int)).bind fun r127 => (if (((IntKind.i64.wrap ((2:Int)+r1.1)):Int)≠0) then ((f54 k r127.2 (30:Int)).bind fun r128 => ((f95 k r128.2 (1:Int)).bind fun r129 => (if ((List.length v116+List.length [((IntKind.i64.wrap ((1:Int)+v117)),(((IntKind.i64.wrap ((IntKind.i64.wrap ((100:Int) * (Int.tmod v117 (IntKind.i64.wrap ((2:Int)+r1.1)))))+r127.1)),(IntKind.i64.wrap ((IntKind.i64.wrap ((100:Int) * (IntKind.i64.wrap (Int.tdiv v117 (IntKind.i64.wrap ((2:Int)+r1.1))))))+r128.1))),r129.1))])*48≤140737488355328) then ((f82.l69 k r1) m69 (r129.2,(List.append v116 [((IntKind.i64.wrap ((1:Int)+v117)),(((IntKind.i64.wrap ((IntKind.i64.wrap ((100:Int) * (Int.tmod v117 (IntKind.i64.wrap ((2:Int)+r1.1)))))+r127.1)),(IntKind.i64.wrap ((IntKind.i64.wrap ((100:Int) * (IntKind.i64.wrap (Int.tdiv v117 (IntKind.i64.wrap ((2:Int)+r1.1))))))+r128.1))),r129.1))]),(IntKind.i64.wrap (v117 + (1:Int))))) else none))) else none)) else none) else ((f54 k v115 (9:Int)).bind fun r136 => (f82.l909 k r136 r1 v116 k (r136.2,([]:(List (Int × ((List Int) × (List (ByteArray × ByteArray)))))),(0:Int))))
def f82 (k:Nat) (x0:((List Int) × (Int × Int))):Option (((List (Int × ((Int × Int) × (List (ByteArray × ByteArray))))) × ((List (Int × ((List Int) × (List (ByteArray × ByteArray))))) × (List (Int × ((List (Int × Bool)) × (List (ByteArray × ByteArray))))))) × ((List Int) × (Int × Int))):=(f54 k x0 (4:Int)).bind fun r1 => (f82.l69 k r1 k (r1.2,([]:(List (Int × ((Int × Int) × (List (ByteArray × ByteArray)))))),(0:Int)))
theorem c82 (k:Nat) (x0:((List Int) × (Int × Int))) (r:(((List (Int × ((Int × Int) × (List (ByteArray × ByteArray))))) × ((List (Int × ((List Int) × (List (ByteArray × ByteArray))))) × (List (Int × ((List (Int × Bool)) × (List (ByteArray × ByteArray))))))) × ((List Int) × (Int × Int)))) (hF:f82 k x0=some r):PMut Try.prog 82 [⟨sh0,some x0⟩] [⟨sh9,r.1⟩] (List.set [⟨sh0,some x0⟩] 0 ⟨sh0,some r.2⟩):=by
 refine pmutO_intro (j:=0) (fin:=⟨sh0,some r.2⟩) Try.func82 rfl rfl (Nat.le_of_ble_eq_true rfl) (Nat.le_of_ble_eq_true rfl) (by kernel_rfl) (by kernel_rfl) ?_
 intro w0 Zi f0 v0 hw a w h
 rw [f82] at hF
 refine wp_reg_seq tok (orc:=o0) (fz:=[]) (l:=[0,2]) (.inl rfl) h (by kernel_rfl) an fun a w h => ?_
 refine wp_reg_seq tok (orc:=o0) (fz:=[]) (l:=[0,2,3]) (.inl rfl) h (by kernel_rfl) an fun a w h => ?_
 obtain ⟨r1,hr1682,hF⟩:=of_bind hF
 refine wp_reg_seq tok (orc:=orcL [(14,[⟨.pt false 4294967295 (.pt true 97 (.st (.pair (.sl false 5 (.int .u8)) (.pair (.int .i64) (.int .i64))))),some (some r1.2)⟩,⟨(.int .i64),r1.1⟩])]) (fz:=[]) (l:=[0,2,3,4]) (.inl rfl) h (by kernel_rfl) (ac (c54 k x0 (4:Int) r1 hr1682) an) fun a w h => ?_
 refine wp_seq ?_
 refine wp_reg_seq tok (orc:=o0) (fz:=[]) (l:=[0,2,3,4,5]) (.inl rfl) h (by kernel_rfl) an fun a w h => ?_
 refine wp_block ?_
 refine wp_loop_fuel (f82.l69 k r1) (fun ((v115,v116,v117):(((List Int) × (Int × Int)) × (List (Int × ((Int × Int) × (List (ByteArray × ByteArray))))) × Int)) => [(0,.val sh0 (some v115)),(2,.val sh3 (some (([]:(List (Int × ((Int × Int) × (List (ByteArray × ByteArray)))))),(([]:(List (Int × ((List Int) × (List (ByteArray × ByteArray)))))),([]:(List (Int × ((List (Int × Bool)) × (List (ByteArray × ByteArray)))))))))),(3,.val sh3 (some (v116,(([]:(List (Int × ((List Int) × (List (ByteArray × ByteArray)))))),([]:(List (Int × ((List (Int × Bool)) × (List (ByteArray × ByteArray)))))))))),(4,.val (.int .i64) (w64 ((2:Int)+r1.1))),(5,.val (.int .i64) v117)]) (fun v h => by obtain ⟨v115,v116,v117⟩:=v; rw [f82.l69] at h; cases h) ?_ hF (h.arrive (fz:=[]) (l:=[0,2,3,4,5]) (.inl rfl) (by kernel_rfl))
 intro m69 v a w hF h
 obtain ⟨v115,v116,v117⟩:=v
 rw [f82.l69] at hF
 refine wp_seq ?_
 refine wp_reg_seq tok (orc:=o0) (fz:=[]) (l:=[0,2,3,4,5,20]) (.inl rfl) h (by kernel_rfl) an fun a w h => ?_
 refine wp_if h (b:=(decide ((v117:Int) < (w64 ((w64 ((2:Int)+r1.1)) * (w64 ((2:Int)+r1.1))))))) (by kernel_rfl) (fun hb => ?_) (fun hb => ?_)
 ·replace hF:=of_t hb hF
  refine wp_skip ?_
  refine wp_seq <| wp_block ?_
  obtain ⟨hc132,hF⟩:=of_if hF
  obtain ⟨r127,hr133,hF⟩:=of_bind hF
  obtain ⟨hc134,hF⟩:=of_if hF
  obtain ⟨r128,hr135,hF⟩:=of_bind hF
  refine wp_regv_seq tok (orc:=orcL [(28,[⟨.pt false 4294967295 (.pt true 97 (.st (.pair (.sl false 5 (.int .u8)) (.pair (.int .i64) (.int .i64))))),some (some r127.2)⟩,⟨(.int .i64),r127.1⟩]),(35,[⟨.pt false 4294967295 (.pt true 97 (.st (.pair (.sl false 5 (.int .u8)) (.pair (.int .i64) (.int .i64))))),some (some r128.2)⟩,⟨(.int .i64),r128.1⟩])]) [((0,.val sh0 (some v115)),none,some 5),((0,.val sh0 (some r127.2)),some 5,some 12),((0,.val sh0 (some r128.2)),some 12,none),((2,.val sh3 (some (([]:(List (Int × ((Int × Int) × (List (ByteArray × ByteArray)))))),(([]:(List (Int × ((List Int) × (List (ByteArray × ByteArray)))))),([]:(List (Int × ((List (Int × Bool)) × (List (ByteArray × ByteArray)))))))))),none,none),((3,.val sh3 (some (v116,(([]:(List (Int × ((List Int) × (List (ByteArray × ByteArray)))))),([]:(List (Int × ((List (Int × Bool)) × (List (ByteArray × ByteArray)))))))))),none,none),((4,.val (.int .i64) (w64 ((2:Int)+r1.1))),none,none),((5,.val (.int .i64) v117),none,none),((6,.val sh4 (some (iO,iO))),some 15,some 16),((6,.val sh4 (some ((w64 ((w64 ((100:Int) * (Int.tmod v117 (w64 ((2:Int)+r1.1)))))+r127.1)),(w64 ((w64 ((100:Int) * (w64 (Int.tdiv v117 (w64 ((2:Int)+r1.1))))))+r128.1))))),some 16,none),((20,.val .bool (decide ((v117:Int) < (w64 ((w64 ((2:Int)+r1.1)) * (w64 ((2:Int)+r1.1))))))),none,some 16),((23,.val (.int .i64) v117),some 0,some 16),((24,.val (.int .i64) (w64 ((2:Int)+r1.1))),some 1,some 16),((25,.val (.int .i64) (Int.tmod v117 (w64 ((2:Int)+r1.1)))),some 2,some 16),((26,.val (.int .i64) (w64 ((100:Int) * (Int.tmod v117 (w64 ((2:Int)+r1.1)))))),some 3,some 16),((28,.val (.int .i64) r127.1),some 5,some 16),((29,.val (.int .i64) (w64 ((w64 ((100:Int) * (Int.tmod v117 (w64 ((2:Int)+r1.1)))))+r127.1))),some 6,some 16),((30,.val (.int .i64) v117),some 7,some 16),((31,.val (.int .i64) (w64 ((2:Int)+r1.1))),some 8,some 16),((32,.val (.int .i64) (w64 (Int.tdiv v117 (w64 ((2:Int)+r1.1))))),some 9,some 16),((33,.val (.int .i64) (w64 ((100:Int) * (w64 (Int.tdiv v117 (w64 ((2:Int)+r1.1))))))),some 10,some 16),((35,.val (.int .i64) r128.1),some 12,some 16),((36,.val (.int .i64) (w64 ((w64 ((100:Int) * (w64 (Int.tdiv v117 (w64 ((2:Int)+r1.1))))))+r128.1))),some 13,some 16),((37,.val sh5 ((w64 ((w64 ((100:Int) * (Int.tmod v117 (w64 ((2:Int)+r1.1)))))+r127.1)),(w64 ((w64 ((100:Int) * (w64 (Int.tdiv v117 (w64 ((2:Int)+r1.1))))))+r128.1)))),some 14,some 16)] [(27,0,4,5),(34,0,11,12)] [0,1,3,19,147,403,2451,2455,2483,2963,35219,2463,2487,2967,35223,2995,6579,35251,3987,35731,2495,2975,35231,2999,6583,35255,3991,35735,4019,7091,35763,39347,36755,2559,3007,6591,35263,3999,35743,4023,7095,35767,39351,36759,8115,36787,39859,3071,6655,35327,4031,7103,35775,39359,36767,8119,36791,39863,16307,40883,4095,7167,35839,39423,8127,36799,39871,16311,40887,49075,8191,36863,39935,16319,40895,49079,16383,40959,49087,32767,49151,65535,131071] 131071 [(2,0,1),(5,1,1),(9,2,1),(12,3,1)] h (by kernel_rfl) (by kernel_rfl) (by kernel_rfl) (ac hc132 (ac (c54 k v115 (30:Int) r127 hr133) (ac hc134 (ac (c54 k r127.2 (30:Int) r128 hr135) an)))) (fun _ _ _ _ _ h => h) fun a w h => ?_
  obtain ⟨r129,hr130,hF⟩:=of_bind hF
  obtain ⟨hc131,hF⟩:=of_if hF
  refine wp_regv tok (orc:=orcL [(44,[⟨.pt false 4294967295 (.pt true 97 (.st (.pair (.sl false 5 (.int .u8)) (.pair (.int .i64) (.int .i64))))),some (some r129.2)⟩,⟨sh2,r129.1⟩]),(47,[⟨.pt false 4294967293 .unit,some ()⟩])]) [((0,.val sh0 (some r128.2)),none,some 6),((0,.val sh0 (some r129.2)),some 6,none),((2,.val sh3 (some (([]:(List (Int × ((Int × Int) × (List (ByteArray × ByteArray)))))),(([]:(List (Int × ((List Int) × (List (ByteArray × ByteArray)))))),([]:(List (Int × ((List (Int × Bool)) × (List (ByteArray × ByteArray)))))))))),none,none),((3,.val sh3 (some (v116,(([]:(List (Int × ((List Int) × (List (ByteArray × ByteArray)))))),([]:(List (Int × ((List (Int × Bool)) × (List (ByteArray × ByteArray)))))))))),none,some 11),((3,.val sh3 (some ((List.append v116 [((w64 ((1:Int)+v117)),(((w64 ((w64 ((100:Int) * (Int.tmod v117 (w64 ((2:Int)+r1.1)))))+r127.1)),(w64 ((w64 ((100:Int) * (w64 (Int.tdiv v117 (w64 ((2:Int)+r1.1))))))+r128.1))),r129.1))]),(([]:(List (Int × ((List Int) × (List (ByteArray × ByteArray)))))),([]:(List (Int × ((List (Int × Bool)) × (List (ByteArray × ByteArray)))))))))),some 11,none),((4,.val (.int .i64) (w64 ((2:Int)+r1.1))),none,none),((5,.val (.int .i64) v117),none,none),((6,.val sh4 (some ((w64 ((w64 ((100:Int) * (Int.tmod v117 (w64 ((2:Int)+r1.1)))))+r127.1)),(w64 ((w64 ((100:Int) * (w64 (Int.tdiv v117 (w64 ((2:Int)+r1.1))))))+r128.1))))),none,some 11),((38,.addr 3 [.der,.fst]),some 0,some 11),((39,.copy 3 [.der,.fst]),some 1,some 11),((40,.val (.int .i64) v117),some 2,some 11),((41,.val (.int .i64) (w64 ((1:Int)+v117))),some 3,some 11),((42,.val sh5 ((w64 ((w64 ((100:Int) * (Int.tmod v117 (w64 ((2:Int)+r1.1)))))+r127.1)),(w64 ((w64 ((100:Int) * (w64 (Int.tdiv v117 (w64 ((2:Int)+r1.1))))))+r128.1)))),some 4,some 11),((44,.val sh2 r129.1),some 6,some 11),((45,.val sh6 ((w64 ((1:Int)+v117)),(((w64 ((w64 ((100:Int) * (Int.tmod v117 (w64 ((2:Int)+r1.1)))))+r127.1)),(w64 ((w64 ((100:Int) * (w64 (Int.tdiv v117 (w64 ((2:Int)+r1.1))))))+r128.1))),r129.1))),some 7,some 11),((46,.val sh7 [((w64 ((1:Int)+v117)),(((w64 ((w64 ((100:Int) * (Int.tmod v117 (w64 ((2:Int)+r1.1)))))+r127.1)),(w64 ((w64 ((100:Int) * (w64 (Int.tdiv v117 (w64 ((2:Int)+r1.1))))))+r128.1))),r129.1))]),some 8,some 11),((47,.grown 3 [.der,.fst] ⟨sh7,(List.append v116 [((w64 ((1:Int)+v117)),(((w64 ((w64 ((100:Int) * (Int.tmod v117 (w64 ((2:Int)+r1.1)))))+r127.1)),(w64 ((w64 ((100:Int) * (w64 (Int.tdiv v117 (w64 ((2:Int)+r1.1))))))+r128.1))),r129.1))])⟩),some 9,some 11),((48,.addr 3 [.der,.fst]),some 10,some 11)] [(43,0,5,6)] [0,4,36,37,44,52,100,39,45,53,101,60,108,116,47,55,103,61,109,117,124,63,111,119,125,252,127,253,508,255,509,511,1023,2047,4095] 4095 [(6,0,1),(9,1,1),(11,2,1)] h (by kernel_rfl) (by kernel_rfl) (by kernel_rfl) (ac (PMut.frozen (outs':=[⟨sh2,r129.1⟩]) (c95 k r128.2 (1:Int) r129 hr130) (by kernel_rfl)) (ac hc131 (ac (show ([.der,.fst]:Path)=[.der,.fst] from rfl) an))) (fun _ _ _ _ _ h => h) fun a w h => ?_
  refine wp_reg tok (orc:=o0) (fz:=[]) (l:=[0,2,3,4,5]) (.inl rfl) h (by kernel_rfl) an fun a w h => ?_
  exact ⟨(r129.2,(List.append v116 [((w64 ((1:Int)+v117)),(((w64 ((w64 ((100:Int) * (Int.tmod v117 (w64 ((2:Int)+r1.1)))))+r127.1)),(w64 ((w64 ((100:Int) * (w64 (Int.tdiv v117 (w64 ((2:Int)+r1.1))))))+r128.1))),r129.1))]),(w64 (v117 + (1:Int)))),hF,h.arrive (fz:=[]) (l:=[0,2,3,4,5]) (.inl rfl) (by kernel_rfl)⟩
 ·replace hF:=of_f hb hF
  refine wp_exit ?_
  obtain ⟨r136,hr1681,hF⟩:=of_bind hF
  refine wp_reg_seq tok (orc:=orcL [(50,[⟨.pt false 4294967295 (.pt true 97 (.st (.pair (.sl false 5 (.int .u8)) (.pair (.int .i64) (.int .i64))))),some (some r136.2)⟩,⟨(.int .i64),r136.1⟩])]) (fz:=[]) (l:=[0,2,3,4,7]) (.inl rfl) h (by kernel_rfl) (ac (c54 k v115 (9:Int) r136 hr1681) an) fun a w h => ?_
  refine wp_seq ?_
  refine wp_reg_seq tok (orc:=o0) (fz:=[]) (l:=[0,2,3,4,7,8]) (.inl rfl) h (by kernel_rfl) an fun a w h => ?_
  refine wp_block ?_
  refine wp_loop_fuel (f82.l909 k r136 r1 v116) (fun ((v1425,v1426,v1427):(((List Int) × (Int × Int)) × (List (Int × ((List Int) × (List (ByteArray × ByteArray))))) × Int)) => [(0,.val sh0 (some v1425)),(2,.val sh3 (some (([]:(List (Int × ((Int × Int) × (List (ByteArray × ByteArray)))))),(([]:(List (Int × ((List Int) × (List (ByteArray × ByteArray)))))),([]:(List (Int × ((List (Int × Bool)) × (List (ByteArray × ByteArray)))))))))),(3,.val sh3 (some (v116,(v1426,([]:(List (Int × ((List (Int × Bool)) × (List (ByteArray × ByteArray)))))))))),(4,.val (.int .i64) (w64 ((2:Int)+r1.1))),(7,.val (.int .i64) (w64 ((1:Int)+r136.1))),(8,.val (.int .i64) v1427)]) (fun v h => by obtain ⟨v1425,v1426,v1427⟩:=v; rw [f82.l909] at h; cases h) ?_ hF (h.arrive (fz:=[]) (l:=[0,2,3,4,7,8]) (.inl rfl) (by kernel_rfl))
  intro m909 v a w hF h
  obtain ⟨v1425,v1426,v1427⟩:=v
  rw [f82.l909] at hF
  refine wp_seq ?_
  refine wp_reg_seq tok (orc:=o0) (fz:=[]) (l:=[0,2,3,4,7,8,54]) (.inl rfl) h (by kernel_rfl) an fun a w h => ?_
  refine wp_if h (b:=(decide ((v1427:Int) < (w64 ((1:Int)+r136.1))))) (by kernel_rfl) (fun hb => ?_) (fun hb => ?_)
  ·replace hF:=of_t hb hF
   refine wp_skip ?_
   refine wp_mid (fun a w => ∃ v:(((List Int) × (Int × Int)) × (List (Int × ((List Int) × (List (ByteArray × ByteArray)))))),f82.j1555 k v1427 ((f82.l909 k r136 r1 v116) m909) v=some r∧Rel w0 f0 Zi ⟨Try.f82.ntmps,[0],fun _ => v0⟩ ((fun ((v1553,v1554):(((List Int) × (Int × Int)) × (List (Int × ((List Int) × (List (ByteArray × ByteArray))))))) => ([(0,.val sh0 (some v1553)),(2,.val sh3 (some (([]:(List (Int × ((Int × Int) × (List (ByteArray × ByteArray)))))),(([]:(List (Int × ((List Int) × (List (ByteArray × ByteArray)))))),([]:(List (Int × ((List (Int × Bool)) × (List (ByteArray × ByteArray)))))))))),(3,.val sh3 (some (v116,(v1554,([]:(List (Int × ((List (Int × Bool)) × (List (ByteArray × ByteArray)))))))))),(4,.val (.int .i64) (w64 ((2:Int)+r1.1))),(7,.val (.int .i64) (w64 ((1:Int)+r136.1))),(8,.val (.int .i64) v1427)]:SS)) v) a w) ?_ ?_
   ·
    refine wp_block ?_
    obtain ⟨r1556,hr1680,hF⟩:=of_bind hF
    refine wp_reg_seq tok (orc:=orcL [(60,[⟨.pt false 4294967295 (.pt true 97 (.st (.pair (.sl false 5 (.int .u8)) (.pair (.int .i64) (.int .i64))))),some (some r1556.2)⟩,⟨sh2,r1556.1⟩])]) (fz:=[]) (l:=[0,2,3,4,7,8,9]) (.inl rfl) h (by kernel_rfl) (ac (PMut.frozen (outs':=[⟨sh2,r1556.1⟩]) (c95 k v1425 (2:Int) r1556 hr1680) (by kernel_rfl)) an) fun a w h => ?_
    obtain ⟨r1557,hr1679,hF⟩:=of_bind hF
    refine wp_reg_seq tok (orc:=orcL [(66,[⟨.pt false 4294967295 (.pt true 97 (.st (.pair (.sl false 5 (.int .u8)) (.pair (.int .i64) (.int .i64))))),some (some r1557.2)⟩,⟨(.int .i64),r1557.1⟩])]) (fz:=[]) (l:=[0,2,3,4,7,8,9,10]) (.inl rfl) h (by kernel_rfl) (ac (c54 k r1556.2 (w64 ((w64 ((2:Int)+r1.1)) * (w64 ((2:Int)+r1.1)))) r1557 hr1679) an) fun a w h => ?_
    refine wp_seq ?_
    obtain ⟨r1558,hr1678,hF⟩:=of_bind hF
    refine wp_reg_seq tok (orc:=orcL [(68,[⟨.pt false 4294967295 (.pt true 97 (.st (.pair (.sl false 5 (.int .u8)) (.pair (.int .i64) (.int .i64))))),some (some r1558.2)⟩,⟨(.int .i64),r1558.1⟩])]) (fz:=[]) (l:=[0,2,3,4,7,8,9,10,11]) (.inl rfl) h (by kernel_rfl) (ac (c54 k r1557.2 (6:Int) r1558 hr1678) an) fun a w h => ?_
    refine wp_block ?_
    refine wp_loop_fuel (f82.l1618 k r1 v1426 v1427 r1556 (f82.j1555 k v1427 ((f82.l909 k r136 r1 v116) m909))) (fun ((v1659,v1660,v1661,v1662):(((List Int) × (Int × Int)) × (List Int) × Int × Int)) => [(0,.val sh0 (some v1659)),(2,.val sh3 (some (([]:(List (Int × ((Int × Int) × (List (ByteArray × ByteArray)))))),(([]:(List (Int × ((List Int) × (List (ByteArray × ByteArray)))))),([]:(List (Int × ((List (Int × Bool)) × (List (ByteArray × ByteArray)))))))))),(3,.val sh3 (some (v116,(v1426,([]:(List (Int × ((List (Int × Bool)) × (List (ByteArray × ByteArray)))))))))),(4,.val (.int .i64) (w64 ((2:Int)+r1.1))),(7,.val (.int .i64) (w64 ((1:Int)+r136.1))),(8,.val (.int .i64) v1427),(9,.val sh8 (some ((w64 ((100:Int)+v1427)),(v1660,r1556.1)))),(10,.val (.int .i64) v1661),(11,.val (.int .i64) v1662)]) (fun v h => by obtain ⟨v1659,v1660,v1661,v1662⟩:=v; rw [f82.l1618] at h; cases h) ?_ hF (h.arrive (fz:=[]) (l:=[0,2,3,4,7,8,9,10,11]) (.inl rfl) (by kernel_rfl))
    intro m1618 v a w hF h
    obtain ⟨v1659,v1660,v1661,v1662⟩:=v
    rw [f82.l1618] at hF
    refine wp_seq ?_
    refine wp_reg_seq tok (orc:=o0) (fz:=[]) (l:=[0,2,3,4,7,8,9,10,11,71]) (.inl rfl) h (by kernel_rfl) an fun a w h => ?_
    refine wp_if h (b:=(decide ((v1662:Int) ≥ iO))) (by kernel_rfl) (fun hb => ?_) (fun hb => ?_)
    ·replace hF:=of_t hb hF
     refine wp_skip ?_
     refine wp_seq <| wp_block ?_
     refine wp_seq ?_
     obtain ⟨hc1676,hF⟩:=of_if hF
     refine wp_reg_seq tok (orc:=o0) (fz:=[]) (l:=[0,2,3,4,7,8,9,10,11,90]) (.inl rfl) h (by kernel_rfl) (ac hc1676 an) fun a w h => ?_
     refine wp_midT (fun a w => ∃ v:(List Int),f82.j1672 k v1659 v1661 r1 v1662 ((f82.l1618 k r1 v1426 v1427 r1556 (f82.j1555 k v1427 ((f82.l909 k r136 r1 v116) m909))) m1618) v=some r∧Rel w0 f0 Zi ⟨Try.f82.ntmps,[0],fun _ => v0⟩ ((fun (v1671:(List Int)) => ([(0,.val sh0 (some v1659)),(2,.val sh3 (some (([]:(List (Int × ((Int × Int) × (List (ByteArray × ByteArray)))))),(([]:(List (Int × ((List Int) × (List (ByteArray × ByteArray)))))),([]:(List (Int × ((List (Int × Bool)) × (List (ByteArray × ByteArray)))))))))),(3,.val sh3 (some (v116,(v1426,([]:(List (Int × ((List (Int × Bool)) × (List (ByteArray × ByteArray)))))))))),(4,.val (.int .i64) (w64 ((2:Int)+r1.1))),(7,.val (.int .i64) (w64 ((1:Int)+r136.1))),(8,.val (.int .i64) v1427),(9,.val sh8 (some ((w64 ((100:Int)+v1427)),(v1671,r1556.1)))),(10,.val (.int .i64) v1661),(11,.val (.int .i64) v1662)]:SS)) v) a w) ?_ ?_
     ·
      refine wp_if h (b:=(bif (((List.length v1660:Int):Int) == iO) then true else (((gD v1660 (tZ (w64 ((List.length v1660:Int) - (1:Int)))) iO):Int) != (w64 ((1:Int)+v1661))))) (by kernel_rfl) (fun hb => ?_) (fun hb => ?_)
      ·replace hF:=of_t hb hF
       obtain ⟨hc1675,hF⟩:=of_if hF
       refine wp_reg tok (orc:=orcL [(96,[⟨.pt false 4294967293 .unit,some ()⟩])]) (fz:=[]) (l:=[0,2,3,4,7,8,9,10,11]) (.inl rfl) h (by kernel_rfl) (ac (PrefL.mk (l:=[[.der,.snd,.fst],[.der,.snd,.fst]]) (p:=[.der,.snd,.fst]) rfl) (ac hc1675 (ac (show ([.der,.snd,.fst]:Path)=[.der,.snd,.fst] from rfl) an))) fun a w h => ?_
       exact ⟨(List.append v1660 [(w64 ((1:Int)+v1661))]),hF,h.arrive (fz:=[]) (l:=[0,2,3,4,7,8,9,10,11]) (.inl rfl) (by kernel_rfl)⟩
      ·replace hF:=of_f hb hF
       refine wp_skip ?_
       exact ⟨v1660,hF,h.arrive (fz:=[]) (l:=[0,2,3,4,7,8,9,10,11]) (.inl rfl) (by kernel_rfl)⟩
     ·rintro a w ⟨v1671,hF,h⟩
      rw [f82.j1672] at hF
      obtain ⟨r1673,hr1674,hF⟩:=of_bind hF
      refine wp_reg tok (orc:=orcL [(101,[⟨.pt false 4294967295 (.pt true 97 (.st (.pair (.sl false 5 (.int .u8)) (.pair (.int .i64) (.int .i64))))),some (some r1673.2)⟩,⟨(.int .i64),r1673.1⟩])]) (fz:=[]) (l:=[0,2,3,4,7,8,9,10,11]) (.inl rfl) h (by kernel_rfl) (ac (c96 k v1659 v1661 (w64 ((2:Int)+r1.1)) r1673 hr1674) an) fun a w h => ?_
      refine wp_reg tok (orc:=o0) (fz:=[]) (l:=[0,2,3,4,7,8,9,10,11]) (.inl rfl) h (by kernel_rfl) an fun a w h => ?_
      exact ⟨(r1673.2,v1671,r1673.1,(w64 (v1662 - (1:Int)))),hF,h.arrive (fz:=[]) (l:=[0,2,3,4,7,8,9,10,11]) (.inl rfl) (by kernel_rfl)⟩
    ·replace hF:=of_f hb hF
     refine wp_exit ?_
     refine wp_reg_seq tok (orc:=o0) (fz:=[]) (l:=[0,2,3,4,7,8,9,105]) (.inl rfl) h (by kernel_rfl) an fun a w h => ?_
     refine wp_if h (b:=(decide (((List.length v1660:Int):Int) > (1:Int)))) (by kernel_rfl) (fun hb => ?_) (fun hb => ?_)
     ·replace hF:=of_t hb hF
      obtain ⟨hc1677,hF⟩:=of_if hF
      replace h:=Rel.freezeW [9] hw h (by kernel_rfl)
      refine wp_reg tok (orc:=orcL [(110,[⟨.pt false 4294967293 .unit,some ()⟩])]) (fz:=[]) (l:=[0,2,3,4,7,8]) (.inl rfl) h (by kernel_rfl) (ac (PrefL.mk (l:=[[.der,.snd,.fst],[.der,.snd,.fst]]) (p:=[.der,.snd,.fst]) rfl) (ac hc1677 (ac (show ([.der,.snd,.fst]:Path)=[.der,.snd,.fst] from rfl) an))) fun a w h => ?_
      exact ⟨(v1659,(List.append v1426 [((w64 ((100:Int)+v1427)),(v1660,r1556.1))])),hF,h.arrive (fz:=[]) (l:=[0,2,3,4,7,8]) (.inl rfl) (by kernel_rfl)⟩
     ·replace hF:=of_f hb hF
      refine wp_skip ?_
      exact ⟨(v1659,v1426),hF,h.arrive (fz:=[]) (l:=[0,2,3,4,7,8]) (.inl rfl) (by kernel_rfl)⟩
   ·rintro a w ⟨v,hF,h⟩
    obtain ⟨v1553,v1554⟩:=v
    rw [f82.j1555] at hF
    refine wp_reg tok (orc:=o0) (fz:=[]) (l:=[0,2,3,4,7,8]) (.inl rfl) h (by kernel_rfl) an fun a w h => ?_
    exact ⟨(v1553,v1554,(w64 (v1427 + (1:Int)))),hF,h.arrive (fz:=[]) (l:=[0,2,3,4,7,8]) (.inl rfl) (by kernel_rfl)⟩
  ·replace hF:=of_f hb hF
   refine wp_exit ?_
   refine wp_reg_seq tok (orc:=o0) (fz:=[]) (l:=[0,2]) (.inl rfl) h (by kernel_rfl) an fun a w h => ?_
   cases hF
   exact wp_ret (retO_ok tok h rfl (by kernel_rfl)).1
def f70 (k:Nat) (x0:Int):Option Bool:=some (bif (decide ((x0:Int) ≥ (1:Int))) then (decide ((x0:Int) ≤ (1000000000:Int))) else false)
theorem c70 (k:Nat) (x0:Int) (r:Bool) (hF:f70 k x0=some r):PCall Try.prog 70 [⟨(.int .i64),x0⟩] [⟨.bool,r⟩]:=by
 refine pcall_intro Try.func70 rfl rfl (Nat.le_of_ble_eq_true rfl) ?_
 intro w0 Zi a w h
 rw [f70] at hF
 refine wp_reg_seq tok (orc:=o0) (l:=[0]) nw h (by kernel_rfl) an fun a w h => ?_
 refine wp_reg_seq tok (orc:=o0) (l:=[2]) nw h (by kernel_rfl) an fun a w h => ?_
 cases hF
 exact wp_ret (ret_okR tok h rfl (by kernel_rfl)).1
def f71 (k:Nat) (x0:(Int × Int)):Option Bool:=some (bif (bif (bif (decide ((x0.1:Int) ≥ (-10000000:Int))) then (decide ((x0.1:Int) ≤ (10000000:Int))) else false) then (decide ((x0.2:Int) ≥ (-10000000:Int))) else false) then (decide ((x0.2:Int) ≤ (10000000:Int))) else false)
theorem c71 (k:Nat) (x0:(Int × Int)) (r:Bool) (hF:f71 k x0=some r):PCall Try.prog 71 [⟨sh5,x0⟩] [⟨.bool,r⟩]:=by
 refine pcall_intro Try.func71 rfl rfl (Nat.le_of_ble_eq_true rfl) ?_
 intro w0 Zi a w h
 rw [f71] at hF
 refine wp_reg_seq tok (orc:=o0) (l:=[1]) nw h (by kernel_rfl) an fun a w h => ?_
 refine wp_reg_seq tok (orc:=o0) (l:=[2]) nw h (by kernel_rfl) an fun a w h => ?_
 cases hF
 exact wp_ret (ret_okR tok h rfl (by kernel_rfl)).1
def f117.l12 (k:Nat) (x0:ByteArray):Nat→Int→Option Bool
 | 0,_ => none
 | m12+1,v20 => if (decide ((v20:Int) < (ByteArray.size x0:Int))) then (if ((0:Int)≤v20 ∧ (v20:Int) < (ByteArray.size x0:Int)) then (if (!(bif (bif (bif (bif (decide (((byteAt x0 v20):Int) ≥ (97:Int))) then (decide (((byteAt x0 v20):Int) ≤ (122:Int))) else false) then true else (bif (decide (((byteAt x0 v20):Int) ≥ (48:Int))) then (decide (((byteAt x0 v20):Int) ≤ (57:Int))) else false)) then true else (((byteAt x0 v20):Int) == (58:Int))) then true else (((byteAt x0 v20):Int) == (95:Int)))) then (some false) else ((f117.l12 k x0) m12 (IntKind.i64.wrap (v20 + (1:Int))))) else none) else (some (bif (decide (((ByteArray.size x0:Int):Int) ≥ (1:Int))) then (decide (((ByteArray.size x0:Int):Int) ≤ (40:Int))) else false))
def f117 (k:Nat) (x0:ByteArray):Option Bool:=f117.l12 k x0 k (0:Int)
theorem c117 (k:Nat) (x0:ByteArray) (r:Bool) (hF:f117 k x0=some r):PCall Try.prog 117 [⟨.str,x0⟩] [⟨.bool,r⟩]:=by
 refine pcall_intro Try.func117 rfl rfl (Nat.le_of_ble_eq_true rfl) ?_
 intro w0 Zi a w h
 rw [f117] at hF
 refine wp_reg_seq tok (orc:=o0) (l:=[0]) nw h (by kernel_rfl) an fun a w h => ?_
 refine wp_seq ?_
 refine wp_reg_seq tok (orc:=o0) (l:=[0,3]) nw h (by kernel_rfl) an fun a w h => ?_
 refine wp_block ?_
 refine wp_loop_fuel (f117.l12 k x0) (fun (v20:Int) => [(0,.val .str x0),(3,.val (.int .i64) v20)]) (fun v h => by rw [f117.l12] at h; cases h) ?_ hF (h.arrive (l:=[0,3]) nw (by kernel_rfl))
 intro m12 v20 a w hF h
 rw [f117.l12] at hF
 refine wp_seq ?_
 refine wp_reg_seq tok (orc:=o0) (l:=[0,3,8]) nw h (by kernel_rfl) an fun a w h => ?_
 refine wp_if h (b:=(decide ((v20:Int) < (ByteArray.size x0:Int)))) (by kernel_rfl) (fun hb => ?_) (fun hb => ?_)
 ·replace hF:=of_t hb hF
  refine wp_skip ?_
  refine wp_seq <| wp_block ?_
  obtain ⟨hc22,hF⟩:=of_if hF
  refine wp_reg_seq tok (orc:=o0) (l:=[0,3,4]) nw h (by kernel_rfl) (ac hc22 an) fun a w h => ?_
  refine wp_reg_seq tok (orc:=o0) (l:=[0,3,36]) nw h (by kernel_rfl) an fun a w h => ?_
  refine wp_if h (b:=(!(bif (bif (bif (bif (decide (((byteAt x0 v20):Int) ≥ (97:Int))) then (decide (((byteAt x0 v20):Int) ≤ (122:Int))) else false) then true else (bif (decide (((byteAt x0 v20):Int) ≥ (48:Int))) then (decide (((byteAt x0 v20):Int) ≤ (57:Int))) else false)) then true else (((byteAt x0 v20):Int) == (58:Int))) then true else (((byteAt x0 v20):Int) == (95:Int))))) (by kernel_rfl) (fun hb => ?_) (fun hb => ?_)
  ·replace hF:=of_t hb hF
   refine wp_reg_seq tok (orc:=o0) (l:=[2]) nw h (by kernel_rfl) an fun a w h => ?_
   cases hF
   exact wp_ret (ret_okR tok h rfl (by kernel_rfl)).1
  ·replace hF:=of_f hb hF
   refine wp_skip ?_
   refine wp_reg tok (orc:=o0) (l:=[0,3]) nw h (by kernel_rfl) an fun a w h => ?_
   exact ⟨(w64 (v20 + (1:Int))),hF,h.arrive (l:=[0,3]) nw (by kernel_rfl)⟩
 ·replace hF:=of_f hb hF
  refine wp_exit ?_
  refine wp_reg_seq tok (orc:=o0) (l:=[2]) nw h (by kernel_rfl) an fun a w h => ?_
  cases hF
  exact wp_ret (ret_okR tok h rfl (by kernel_rfl)).1
def f118.l18 (k:Nat) (x0:ByteArray):Nat→Int→Option Bool
 | 0,_ => none
 | m18+1,v30 => if (decide ((v30:Int) < (ByteArray.size x0:Int))) then (if ((0:Int)≤v30 ∧ (v30:Int) < (ByteArray.size x0:Int)) then (if (((decide (((byteAt x0 v30):Int) < (32:Int)))=false) → ((0:Int)≤v30 ∧ (v30:Int) < (ByteArray.size x0:Int))) then (if (bif (decide (((byteAt x0 v30):Int) < (32:Int))) then true else (decide (((byteAt x0 v30):Int) > (126:Int)))) then (some false) else ((f118.l18 k x0) m18 (IntKind.i64.wrap (v30 + (1:Int))))) else none) else none) else (some (bif (decide (((ByteArray.size x0:Int):Int) ≥ (1:Int))) then (decide (((ByteArray.size x0:Int):Int) ≤ (100:Int))) else false))
def f118 (k:Nat) (x0:ByteArray):Option Bool:=f118.l18 k x0 k (0:Int)
theorem c118 (k:Nat) (x0:ByteArray) (r:Bool) (hF:f118 k x0=some r):PCall Try.prog 118 [⟨.str,x0⟩] [⟨.bool,r⟩]:=by
 refine pcall_intro Try.func118 rfl rfl (Nat.le_of_ble_eq_true rfl) ?_
 intro w0 Zi a w h
 rw [f118] at hF
 refine wp_reg_seq tok (orc:=o0) (l:=[0]) nw h (by kernel_rfl) an fun a w h => ?_
 refine wp_seq ?_
 refine wp_reg_seq tok (orc:=o0) (l:=[0,3]) nw h (by kernel_rfl) an fun a w h => ?_
 refine wp_block ?_
 refine wp_loop_fuel (f118.l18 k x0) (fun (v30:Int) => [(0,.val .str x0),(3,.val (.int .i64) v30)]) (fun v h => by rw [f118.l18] at h; cases h) ?_ hF (h.arrive (l:=[0,3]) nw (by kernel_rfl))
 intro m18 v30 a w hF h
 rw [f118.l18] at hF
 refine wp_seq ?_
 refine wp_reg_seq tok (orc:=o0) (l:=[0,3,7]) nw h (by kernel_rfl) an fun a w h => ?_
 refine wp_if h (b:=(decide ((v30:Int) < (ByteArray.size x0:Int)))) (by kernel_rfl) (fun hb => ?_) (fun hb => ?_)
 ·replace hF:=of_t hb hF
  refine wp_skip ?_
  refine wp_seq <| wp_block ?_
  obtain ⟨hc33,hF⟩:=of_if hF
  obtain ⟨hc34,hF⟩:=of_if hF
  refine wp_reg_seq tok (orc:=o0) (l:=[0,3,19]) nw h (by kernel_rfl) (ac hc33 (ac hc34 an)) fun a w h => ?_
  refine wp_if h (b:=(bif (decide (((byteAt x0 v30):Int) < (32:Int))) then true else (decide (((byteAt x0 v30):Int) > (126:Int))))) (by kernel_rfl) (fun hb => ?_) (fun hb => ?_)
  ·replace hF:=of_t hb hF
   refine wp_reg_seq tok (orc:=o0) (l:=[2]) nw h (by kernel_rfl) an fun a w h => ?_
   cases hF
   exact wp_ret (ret_okR tok h rfl (by kernel_rfl)).1
  ·replace hF:=of_f hb hF
   refine wp_skip ?_
   refine wp_reg tok (orc:=o0) (l:=[0,3]) nw h (by kernel_rfl) an fun a w h => ?_
   exact ⟨(w64 (v30 + (1:Int))),hF,h.arrive (l:=[0,3]) nw (by kernel_rfl)⟩
 ·replace hF:=of_f hb hF
  refine wp_exit ?_
  refine wp_reg_seq tok (orc:=o0) (l:=[2]) nw h (by kernel_rfl) an fun a w h => ?_
  cases hF
  exact wp_ret (ret_okR tok h rfl (by kernel_rfl)).1
def f110.l54 (k:Nat) (x0:(List (ByteArray × ByteArray))):Nat→Int→Option Bool
 | 0,_ => none
 | m54+1,v90 => if (bif (decide ((v90:Int) < (List.length x0:Int))) then (decide (((List.length x0:Int):Int) ≤ (30:Int))) else false) then (if (0≤v90∧v90 < (List.length x0:Int)) then ((f117 k (List.getD x0 (Int.toNat v90) ((⟨#[]⟩:ByteArray),(⟨#[]⟩:ByteArray))).1).bind fun r99 => (if (((!r99)=false) → (0≤v90∧v90 < (List.length x0:Int))) then ((if ((!r99)=false) then f118 k (List.getD x0 (Int.toNat v90) ((⟨#[]⟩:ByteArray),(⟨#[]⟩:ByteArray))).2 else some default).bind fun r100 => (if ((((bif (!r99) then true else (!r100))=false) ∧ ((decide ((v90:Int) > (0:Int)))=true)) → (0 ≤ (IntKind.i64.wrap (v90 - (1:Int))) ∧ (IntKind.i64.wrap (v90 - (1:Int))) < (List.length x0:Int))) then (if ((((bif (!r99) then true else (!r100))=false) ∧ ((decide ((v90:Int) > (0:Int)))=true)) → (0≤v90∧v90 < (List.length x0:Int))) then (if (bif (bif (!r99) then true else (!r100)) then true else (bif (decide ((v90:Int) > (0:Int))) then (!(Op.bytesLess (ByteArray.toList (List.getD x0 (Int.toNat (IntKind.i64.wrap (v90 - (1:Int)))) ((⟨#[]⟩:ByteArray),(⟨#[]⟩:ByteArray))).1) (ByteArray.toList (List.getD x0 (Int.toNat v90) ((⟨#[]⟩:ByteArray),(⟨#[]⟩:ByteArray))).1))) else false)) then (some false) else ((f110.l54 k x0) m54 (IntKind.i64.wrap (v90 + (1:Int))))) else none) else none)) else none)) else none) else (some (decide (((List.length x0:Int):Int) ≤ (30:Int))))
def f110 (k:Nat) (x0:(List (ByteArray × ByteArray))):Option Bool:=f110.l54 k x0 k (0:Int)
theorem c110 (k:Nat) (x0:(List (ByteArray × ByteArray))) (r:Bool) (hF:f110 k x0=some r):PCall Try.prog 110 [⟨sh2,x0⟩] [⟨.bool,r⟩]:=by
 refine pcall_intro Try.func110 rfl rfl (Nat.le_of_ble_eq_true rfl) ?_
 intro w0 Zi a w h
 rw [f110] at hF
 refine wp_reg_seq tok (orc:=o0) (l:=[0]) nw h (by kernel_rfl) an fun a w h => ?_
 refine wp_seq ?_
 refine wp_reg_seq tok (orc:=o0) (l:=[0,3]) nw h (by kernel_rfl) an fun a w h => ?_
 refine wp_block ?_
 refine wp_loop_fuel (f110.l54 k x0) (fun (v90:Int) => [(0,.val sh2 x0),(3,.val (.int .i64) v90)]) (fun v h => by rw [f110.l54] at h; cases h) ?_ hF (h.arrive (l:=[0,3]) nw (by kernel_rfl))
 intro m54 v90 a w hF h
 rw [f110.l54] at hF
 refine wp_seq ?_
 refine wp_reg_seq tok (orc:=o0) (l:=[0,3,12]) nw h (by kernel_rfl) an fun a w h => ?_
 refine wp_if h (b:=(bif (decide ((v90:Int) < (List.length x0:Int))) then (decide (((List.length x0:Int):Int) ≤ (30:Int))) else false)) (by kernel_rfl) (fun hb => ?_) (fun hb => ?_)
 ·replace hF:=of_t hb hF
  refine wp_skip ?_
  refine wp_seq <| wp_block ?_
  obtain ⟨hc101,hF⟩:=of_if hF
  obtain ⟨r99,hr102,hF⟩:=of_bind hF
  obtain ⟨hc103,hF⟩:=of_if hF
  obtain ⟨r100,hr104,hF⟩:=of_bind hF
  obtain ⟨hc105,hF⟩:=of_if hF
  obtain ⟨hc106,hF⟩:=of_if hF
  refine wp_regy_seq tok (orc:=orcL [(20,[⟨.bool,r99⟩]),(28,[⟨.bool,r100⟩])]) (l:=[0,3,48]) ([],[],[],[]) 34 nw h (by kernel_rfl) (by kernel_rfl) (ac hc101 (ac (c117 k (gD x0 (tZ v90) ((⟨#[]⟩:ByteArray),(⟨#[]⟩:ByteArray))).1 r99 hr102) (ac hc103 (ac (fun (hg:((!r99)=false)) => c118 k (gD x0 (tZ v90) ((⟨#[]⟩:ByteArray),(⟨#[]⟩:ByteArray))).2 r100 (of_g hg hr104)) (ac hc105 (ac hc106 an)))))) fun a w h => ?_
  refine wp_if h (b:=(bif (bif (!r99) then true else (!r100)) then true else (bif (decide ((v90:Int) > iO)) then (!(Op.bytesLess (ByteArray.toList (gD x0 (tZ (w64 (v90 - (1:Int)))) ((⟨#[]⟩:ByteArray),(⟨#[]⟩:ByteArray))).1) (ByteArray.toList (gD x0 (tZ v90) ((⟨#[]⟩:ByteArray),(⟨#[]⟩:ByteArray))).1))) else false))) (by kernel_rfl) (fun hb => ?_) (fun hb => ?_)
  ·replace hF:=of_t hb hF
   refine wp_reg_seq tok (orc:=o0) (l:=[2]) nw h (by kernel_rfl) an fun a w h => ?_
   cases hF
   exact wp_ret (ret_okR tok h rfl (by kernel_rfl)).1
  ·replace hF:=of_f hb hF
   refine wp_skip ?_
   refine wp_reg tok (orc:=o0) (l:=[0,3]) nw h (by kernel_rfl) an fun a w h => ?_
   exact ⟨(w64 (v90 + (1:Int))),hF,h.arrive (l:=[0,3]) nw (by kernel_rfl)⟩
 ·replace hF:=of_f hb hF
  refine wp_exit ?_
  refine wp_reg_seq tok (orc:=o0) (l:=[2]) nw h (by kernel_rfl) an fun a w h => ?_
  cases hF
  exact wp_ret (ret_okR tok h rfl (by kernel_rfl)).1
def f99.l16 (k:Nat) (x0:((List (Int × ((Int × Int) × (List (ByteArray × ByteArray))))) × ((List (Int × ((List Int) × (List (ByteArray × ByteArray))))) × (List (Int × ((List (Int × Bool)) × (List (ByteArray × ByteArray)))))))) (x1:Int):Nat → (Int × Int)→Option Int
 | 0,_ => none
 | m16+1,(v27,v28) => if (decide ((v27:Int) < v28)) then (if (((2:Int):Int)≠0) then (if (0 ≤ (IntKind.i64.wrap (Int.tdiv (IntKind.i64.wrap (v27+v28)) (2:Int))) ∧ (IntKind.i64.wrap (Int.tdiv (IntKind.i64.wrap (v27+v28)) (2:Int))) < (List.length x0.1:Int)) then (if (decide (((List.getD x0.1 (Int.toNat (IntKind.i64.wrap (Int.tdiv (IntKind.i64.wrap (v27+v28)) (2:Int)))) ((0:Int),(((0:Int),(0:Int)),([]:(List (ByteArray × ByteArray)))))).1:Int) < x1)) then ((f99.l16 k x0 x1) m16 ((IntKind.i64.wrap ((IntKind.i64.wrap (Int.tdiv (IntKind.i64.wrap (v27+v28)) (2:Int))) + (1:Int))),v28)) else ((f99.l16 k x0 x1) m16 (v27,(IntKind.i64.wrap (Int.tdiv (IntKind.i64.wrap (v27+v28)) (2:Int)))))) else none) else none) else (if (((decide ((v27:Int) < (List.length x0.1:Int)))=true) → (0≤v27∧v27 < (List.length x0.1:Int))) then (if (bif (decide ((v27:Int) < (List.length x0.1:Int))) then (((List.getD x0.1 (Int.toNat v27) ((0:Int),(((0:Int),(0:Int)),([]:(List (ByteArray × ByteArray)))))).1:Int) == x1) else false) then (some v27) else (some (-1:Int))) else none)
def f99 (k:Nat) (x0:((List (Int × ((Int × Int) × (List (ByteArray × ByteArray))))) × ((List (Int × ((List Int) × (List (ByteArray × ByteArray))))) × (List (Int × ((List (Int × Bool)) × (List (ByteArray × ByteArray)))))))) (x1:Int):Option Int:=f99.l16 k x0 x1 k ((0:Int),(List.length x0.1:Int))
theorem c99 (k:Nat) (x0:((List (Int × ((Int × Int) × (List (ByteArray × ByteArray))))) × ((List (Int × ((List Int) × (List (ByteArray × ByteArray))))) × (List (Int × ((List (Int × Bool)) × (List (ByteArray × ByteArray)))))))) (x1:Int) (r:Int) (hF:f99 k x0 x1=some r):PCall Try.prog 99 [⟨sh11,x0⟩,⟨(.int .i64),x1⟩] [⟨(.int .i64),r⟩]:=by
 refine pcall_intro Try.func99 rfl rfl (Nat.le_of_ble_eq_true rfl) ?_
 intro w0 Zi a w h
 rw [f99] at hF
 refine wp_reg_seq tok (orc:=o0) (l:=[1,2]) nw h (by kernel_rfl) an fun a w h => ?_
 refine wp_reg_seq tok (orc:=o0) (l:=[1,2,5]) nw h (by kernel_rfl) an fun a w h => ?_
 refine wp_reg_seq tok (orc:=o0) (l:=[1,2,5,6]) nw h (by kernel_rfl) an fun a w h => ?_
 refine wp_seq <| wp_block ?_
 refine wp_loop_fuel (f99.l16 k x0 x1) (fun ((v27,v28):(Int × Int)) => [(1,.val (.int .i64) x1),(2,.val sh10 (some x0)),(5,.val (.int .i64) v27),(6,.val (.int .i64) v28)]) (fun v h => by obtain ⟨v27,v28⟩:=v; rw [f99.l16] at h; cases h) ?_ hF (h.arrive (l:=[1,2,5,6]) nw (by kernel_rfl))
 intro m16 v a w hF h
 obtain ⟨v27,v28⟩:=v
 rw [f99.l16] at hF
 refine wp_seq ?_
 refine wp_reg_seq tok (orc:=o0) (l:=[1,2,5,6,13]) nw h (by kernel_rfl) an fun a w h => ?_
 refine wp_if h (b:=(decide ((v27:Int) < v28))) (by kernel_rfl) (fun hb => ?_) (fun hb => ?_)
 ·replace hF:=of_t hb hF
  refine wp_skip ?_
  refine wp_block ?_
  obtain ⟨hc30,hF⟩:=of_if hF
  refine wp_reg_seq tok (orc:=o0) (l:=[1,2,5,6,7]) nw h (by kernel_rfl) (ac hc30 an) fun a w h => ?_
  obtain ⟨hc29,hF⟩:=of_if hF
  refine wp_reg_seq tok (orc:=o0) (l:=[1,2,5,6,7,25]) nw h (by kernel_rfl) (ac hc29 an) fun a w h => ?_
  refine wp_if h (b:=(decide (((gD x0.1 (tZ (w64 (Int.tdiv (w64 (v27+v28)) (2:Int)))) (iO,((iO,iO),([]:(List (ByteArray × ByteArray)))))).1:Int) < x1))) (by kernel_rfl) (fun hb => ?_) (fun hb => ?_)
  ·replace hF:=of_t hb hF
   refine wp_reg tok (orc:=o0) (l:=[1,2,5,6]) nw h (by kernel_rfl) an fun a w h => ?_
   exact ⟨((w64 ((w64 (Int.tdiv (w64 (v27+v28)) (2:Int))) + (1:Int))),v28),hF,h.arrive (l:=[1,2,5,6]) nw (by kernel_rfl)⟩
  ·replace hF:=of_f hb hF
   refine wp_reg tok (orc:=o0) (l:=[1,2,5,6]) nw h (by kernel_rfl) an fun a w h => ?_
   exact ⟨(v27,(w64 (Int.tdiv (w64 (v27+v28)) (2:Int)))),hF,h.arrive (l:=[1,2,5,6]) nw (by kernel_rfl)⟩
 ·replace hF:=of_f hb hF
  refine wp_exit ?_
  refine wp_seq ?_
  obtain ⟨hc31,hF⟩:=of_if hF
  refine wp_reg_seq tok (orc:=o0) (l:=[5,43]) nw h (by kernel_rfl) (ac hc31 an) fun a w h => ?_
  refine wp_if h (b:=(bif (decide ((v27:Int) < (List.length x0.1:Int))) then (((gD x0.1 (tZ v27) (iO,((iO,iO),([]:(List (ByteArray × ByteArray)))))).1:Int) == x1) else false)) (by kernel_rfl) (fun hb => ?_) (fun hb => ?_)
  ·replace hF:=of_t hb hF
   refine wp_reg_seq tok (orc:=o0) (l:=[4]) nw h (by kernel_rfl) an fun a w h => ?_
   cases hF
   exact wp_ret (ret_okR tok h rfl (by kernel_rfl)).1
  ·replace hF:=of_f hb hF
   refine wp_skip ?_
   refine wp_reg_seq tok (orc:=o0) (l:=[4]) nw h (by kernel_rfl) an fun a w h => ?_
   cases hF
   exact wp_ret (ret_okR tok h rfl (by kernel_rfl)).1
def f111.l38 (k:Nat) (x1:(Int × ((List Int) × (List (ByteArray × ByteArray))))) (x0:((List (Int × ((Int × Int) × (List (ByteArray × ByteArray))))) × ((List (Int × ((List Int) × (List (ByteArray × ByteArray))))) × (List (Int × ((List (Int × Bool)) × (List (ByteArray × ByteArray)))))))):Nat→Int→Option Bool
 | 0,_ => none
 | m38+1,v62 => if (decide ((v62:Int) < (List.length x1.2.1:Int))) then (if (0≤v62∧v62 < (List.length x1.2.1:Int)) then ((f99 k x0 (List.getD x1.2.1 (Int.toNat v62) (0:Int))).bind fun r68 => (if ((((decide ((r68:Int) < (0:Int)))=false) ∧ ((decide ((v62:Int) > (0:Int)))=true)) → (0≤v62∧v62 < (List.length x1.2.1:Int))) then (if ((((decide ((r68:Int) < (0:Int)))=false) ∧ ((decide ((v62:Int) > (0:Int)))=true)) → (0 ≤ (IntKind.i64.wrap (v62 - (1:Int))) ∧ (IntKind.i64.wrap (v62 - (1:Int))) < (List.length x1.2.1:Int))) then (if (bif (decide ((r68:Int) < (0:Int))) then true else (bif (decide ((v62:Int) > (0:Int))) then (((List.getD x1.2.1 (Int.toNat v62) (0:Int)):Int) == (List.getD x1.2.1 (Int.toNat (IntKind.i64.wrap (v62 - (1:Int)))) (0:Int))) else false)) then (some false) else ((f111.l38 k x1 x0) m38 (IntKind.i64.wrap (v62 + (1:Int))))) else none) else none)) else none) else (some true)
def f111 (k:Nat) (x0:((List (Int × ((Int × Int) × (List (ByteArray × ByteArray))))) × ((List (Int × ((List Int) × (List (ByteArray × ByteArray))))) × (List (Int × ((List (Int × Bool)) × (List (ByteArray × ByteArray)))))))) (x1:(Int × ((List Int) × (List (ByteArray × ByteArray))))):Option Bool:=(f70 k x1.1).bind fun r1 => ((if ((!r1)=false) then f110 k x1.2.2 else some default).bind fun r2 => (if (bif (bif (bif (!r1) then true else (!r2)) then true else (decide (((List.length x1.2.1:Int):Int) < (2:Int)))) then true else (decide (((List.length x1.2.1:Int):Int) > (2000:Int)))) then (some false) else (f111.l38 k x1 x0 k (0:Int))))
theorem c111 (k:Nat) (x0:((List (Int × ((Int × Int) × (List (ByteArray × ByteArray))))) × ((List (Int × ((List Int) × (List (ByteArray × ByteArray))))) × (List (Int × ((List (Int × Bool)) × (List (ByteArray × ByteArray)))))))) (x1:(Int × ((List Int) × (List (ByteArray × ByteArray))))) (r:Bool) (hF:f111 k x0 x1=some r):PCall Try.prog 111 [⟨sh11,x0⟩,⟨sh13,x1⟩] [⟨.bool,r⟩]:=by
 refine pcall_intro Try.func111 rfl rfl (Nat.le_of_ble_eq_true rfl) ?_
 intro w0 Zi a w h
 rw [f111] at hF
 refine wp_reg_seq tok (orc:=o0) (l:=[2,3]) nw h (by kernel_rfl) an fun a w h => ?_
 refine wp_seq ?_
 obtain ⟨r1,hr73,hF⟩:=of_bind hF
 obtain ⟨r2,hr74,hF⟩:=of_bind hF
 refine wp_reg_seq tok (orc:=orcL [(8,[⟨.bool,r1⟩]),(13,[⟨.bool,r2⟩])]) (l:=[2,3,27]) nw h (by kernel_rfl) (ac (c70 k x1.1 r1 hr73) (ac (fun (hg:((!r1)=false)) => c110 k x1.2.2 r2 (of_g hg hr74)) an)) fun a w h => ?_
 refine wp_if h (b:=(bif (bif (bif (!r1) then true else (!r2)) then true else (decide (((List.length x1.2.1:Int):Int) < (2:Int)))) then true else (decide (((List.length x1.2.1:Int):Int) > (2000:Int))))) (by kernel_rfl) (fun hb => ?_) (fun hb => ?_)
 ·replace hF:=of_t hb hF
  refine wp_reg_seq tok (orc:=o0) (l:=[4]) nw h (by kernel_rfl) an fun a w h => ?_
  cases hF
  exact wp_ret (ret_okR tok h rfl (by kernel_rfl)).1
 ·replace hF:=of_f hb hF
  refine wp_skip ?_
  refine wp_seq ?_
  refine wp_reg_seq tok (orc:=o0) (l:=[2,3,5]) nw h (by kernel_rfl) an fun a w h => ?_
  refine wp_block ?_
  refine wp_loop_fuel (f111.l38 k x1 x0) (fun (v62:Int) => [(2,.val sh10 (some x0)),(3,.val sh12 (some x1)),(5,.val (.int .i64) v62)]) (fun v h => by rw [f111.l38] at h; cases h) ?_ hF (h.arrive (l:=[2,3,5]) nw (by kernel_rfl))
  intro m38 v62 a w hF h
  rw [f111.l38] at hF
  refine wp_seq ?_
  refine wp_reg_seq tok (orc:=o0) (l:=[2,3,5,32]) nw h (by kernel_rfl) an fun a w h => ?_
  refine wp_if h (b:=(decide ((v62:Int) < (List.length x1.2.1:Int)))) (by kernel_rfl) (fun hb => ?_) (fun hb => ?_)
  ·replace hF:=of_t hb hF
   refine wp_skip ?_
   refine wp_seq <| wp_block ?_
   obtain ⟨hc69,hF⟩:=of_if hF
   obtain ⟨r68,hr70,hF⟩:=of_bind hF
   obtain ⟨hc71,hF⟩:=of_if hF
   obtain ⟨hc72,hF⟩:=of_if hF
   refine wp_regy_seq tok (orc:=orcL [(41,[⟨(.int .i64),r68⟩])]) (l:=[2,3,5,60]) ([],[],[],[]) 26 nw h (by kernel_rfl) (by kernel_rfl) (ac hc69 (ac (c99 k x0 (gD x1.2.1 (tZ v62) iO) r68 hr70) (ac hc71 (ac hc72 an)))) fun a w h => ?_
   refine wp_if h (b:=(bif (decide ((r68:Int) < iO)) then true else (bif (decide ((v62:Int) > iO)) then (((gD x1.2.1 (tZ v62) iO):Int) == (gD x1.2.1 (tZ (w64 (v62 - (1:Int)))) iO)) else false))) (by kernel_rfl) (fun hb => ?_) (fun hb => ?_)
   ·replace hF:=of_t hb hF
    refine wp_reg_seq tok (orc:=o0) (l:=[4]) nw h (by kernel_rfl) an fun a w h => ?_
    cases hF
    exact wp_ret (ret_okR tok h rfl (by kernel_rfl)).1
   ·replace hF:=of_f hb hF
    refine wp_skip ?_
    refine wp_reg tok (orc:=o0) (l:=[2,3,5]) nw h (by kernel_rfl) an fun a w h => ?_
    exact ⟨(w64 (v62 + (1:Int))),hF,h.arrive (l:=[2,3,5]) nw (by kernel_rfl)⟩
  ·replace hF:=of_f hb hF
   refine wp_exit ?_
   refine wp_reg_seq tok (orc:=o0) (l:=[4]) nw h (by kernel_rfl) an fun a w h => ?_
   cases hF
   exact wp_ret (ret_okR tok h rfl (by kernel_rfl)).1
def f119.l12 (k:Nat) (x0:((List (Int × ((Int × Int) × (List (ByteArray × ByteArray))))) × ((List (Int × ((List Int) × (List (ByteArray × ByteArray))))) × (List (Int × ((List (Int × Bool)) × (List (ByteArray × ByteArray)))))))) (x1:Int):Nat→Int→Option Int
 | 0,_ => none
 | m12+1,v20 => if (decide ((v20:Int) < (List.length x0.2.1:Int))) then (if (0≤v20∧v20 < (List.length x0.2.1:Int)) then (if (((List.getD x0.2.1 (Int.toNat v20) ((0:Int),(([]:(List Int)),([]:(List (ByteArray × ByteArray)))))).1:Int) == x1) then (some v20) else ((f119.l12 k x0 x1) m12 (IntKind.i64.wrap (v20 + (1:Int))))) else none) else (some (-1:Int))
def f119 (k:Nat) (x0:((List (Int × ((Int × Int) × (List (ByteArray × ByteArray))))) × ((List (Int × ((List Int) × (List (ByteArray × ByteArray))))) × (List (Int × ((List (Int × Bool)) × (List (ByteArray × ByteArray)))))))) (x1:Int):Option Int:=f119.l12 k x0 x1 k (0:Int)
theorem c119 (k:Nat) (x0:((List (Int × ((Int × Int) × (List (ByteArray × ByteArray))))) × ((List (Int × ((List Int) × (List (ByteArray × ByteArray))))) × (List (Int × ((List (Int × Bool)) × (List (ByteArray × ByteArray)))))))) (x1:Int) (r:Int) (hF:f119 k x0 x1=some r):PCall Try.prog 119 [⟨sh11,x0⟩,⟨(.int .i64),x1⟩] [⟨(.int .i64),r⟩]:=by
 refine pcall_intro Try.func119 rfl rfl (Nat.le_of_ble_eq_true rfl) ?_
 intro w0 Zi a w h
 rw [f119] at hF
 refine wp_reg_seq tok (orc:=o0) (l:=[1,2]) nw h (by kernel_rfl) an fun a w h => ?_
 refine wp_seq ?_
 refine wp_reg_seq tok (orc:=o0) (l:=[1,2,5]) nw h (by kernel_rfl) an fun a w h => ?_
 refine wp_block ?_
 refine wp_loop_fuel (f119.l12 k x0 x1) (fun (v20:Int) => [(1,.val (.int .i64) x1),(2,.val sh10 (some x0)),(5,.val (.int .i64) v20)]) (fun v h => by rw [f119.l12] at h; cases h) ?_ hF (h.arrive (l:=[1,2,5]) nw (by kernel_rfl))
 intro m12 v20 a w hF h
 rw [f119.l12] at hF
 refine wp_seq ?_
 refine wp_reg_seq tok (orc:=o0) (l:=[1,2,5,10]) nw h (by kernel_rfl) an fun a w h => ?_
 refine wp_if h (b:=(decide ((v20:Int) < (List.length x0.2.1:Int)))) (by kernel_rfl) (fun hb => ?_) (fun hb => ?_)
 ·replace hF:=of_t hb hF
  refine wp_skip ?_
  refine wp_seq <| wp_block ?_
  obtain ⟨hc22,hF⟩:=of_if hF
  refine wp_reg_seq tok (orc:=o0) (l:=[1,2,5,20]) nw h (by kernel_rfl) (ac hc22 an) fun a w h => ?_
  refine wp_if h (b:=(((gD x0.2.1 (tZ v20) (iO,(lO,([]:(List (ByteArray × ByteArray)))))).1:Int) == x1)) (by kernel_rfl) (fun hb => ?_) (fun hb => ?_)
  ·replace hF:=of_t hb hF
   refine wp_reg_seq tok (orc:=o0) (l:=[4]) nw h (by kernel_rfl) an fun a w h => ?_
   cases hF
   exact wp_ret (ret_okR tok h rfl (by kernel_rfl)).1
  ·replace hF:=of_f hb hF
   refine wp_skip ?_
   refine wp_reg tok (orc:=o0) (l:=[1,2,5]) nw h (by kernel_rfl) an fun a w h => ?_
   exact ⟨(w64 (v20 + (1:Int))),hF,h.arrive (l:=[1,2,5]) nw (by kernel_rfl)⟩
 ·replace hF:=of_f hb hF
  refine wp_exit ?_
  refine wp_reg_seq tok (orc:=o0) (l:=[4]) nw h (by kernel_rfl) an fun a w h => ?_
  cases hF
  exact wp_ret (ret_okR tok h rfl (by kernel_rfl)).1
def f112.l234 (k:Nat) (v212:Int) (x1:(Int × ((List (Int × Bool)) × (List (ByteArray × ByteArray))))) (q128:Int→Option Bool):Nat→Int→Option Bool
 | 0,_ => none
 | m234+1,v246 => if (decide ((v246:Int) < v212)) then (if (0≤v246∧v246 < (List.length x1.2.1:Int)) then (if (0≤v212∧v212 < (List.length x1.2.1:Int)) then (if (((List.getD x1.2.1 (Int.toNat v246) ((0:Int),false)).1:Int) == (List.getD x1.2.1 (Int.toNat v212) ((0:Int),false)).1) then (some false) else ((f112.l234 k v212 x1 q128) m234 (IntKind.i64.wrap (v246 + (1:Int))))) else none) else none) else (q128 (IntKind.i64.wrap (v212 + (1:Int))))
def f112.l128 (k:Nat) (x1:(Int × ((List (Int × Bool)) × (List (ByteArray × ByteArray))))) (x0:((List (Int × ((Int × Int) × (List (ByteArray × ByteArray))))) × ((List (Int × ((List Int) × (List (ByteArray × ByteArray))))) × (List (Int × ((List (Int × Bool)) × (List (ByteArray × ByteArray)))))))):Nat→Int→Option Bool
 | 0,_ => none
 | m128+1,v212 => if (decide ((v212:Int) < (List.length x1.2.1:Int))) then (if (0≤v212∧v212 < (List.length x1.2.1:Int)) then ((f119 k x0 (List.getD x1.2.1 (Int.toNat v212) ((0:Int),false)).1).bind fun r233 => (if (decide ((r233:Int) < (0:Int))) then (some false) else (f112.l234 k v212 x1 ((f112.l128 k x1 x0) m128) k (0:Int)))) else none) else (some true)
def f112 (k:Nat) (x0:((List (Int × ((Int × Int) × (List (ByteArray × ByteArray))))) × ((List (Int × ((List Int) × (List (ByteArray × ByteArray))))) × (List (Int × ((List (Int × Bool)) × (List (ByteArray × ByteArray)))))))) (x1:(Int × ((List (Int × Bool)) × (List (ByteArray × ByteArray))))):Option Bool:=(f70 k x1.1).bind fun r1 => ((if ((!r1)=false) then f110 k x1.2.2 else some default).bind fun r2 => (if (bif (bif (bif (!r1) then true else (!r2)) then true else (decide (((List.length x1.2.1:Int):Int) < (1:Int)))) then true else (decide (((List.length x1.2.1:Int):Int) > (30:Int)))) then (some false) else (f112.l128 k x1 x0 k (0:Int))))
theorem c112 (k:Nat) (x0:((List (Int × ((Int × Int) × (List (ByteArray × ByteArray))))) × ((List (Int × ((List Int) × (List (ByteArray × ByteArray))))) × (List (Int × ((List (Int × Bool)) × (List (ByteArray × ByteArray)))))))) (x1:(Int × ((List (Int × Bool)) × (List (ByteArray × ByteArray))))) (r:Bool) (hF:f112 k x0 x1=some r):PCall Try.prog 112 [⟨sh11,x0⟩,⟨sh15,x1⟩] [⟨.bool,r⟩]:=by
 refine pcall_intro Try.func112 rfl rfl (Nat.le_of_ble_eq_true rfl) ?_
 intro w0 Zi a w h
 rw [f112] at hF
 refine wp_reg_seq tok (orc:=o0) (l:=[2,3]) nw h (by kernel_rfl) an fun a w h => ?_
 refine wp_seq ?_
 obtain ⟨r1,hr253,hF⟩:=of_bind hF
 obtain ⟨r2,hr254,hF⟩:=of_bind hF
 refine wp_reg_seq tok (orc:=orcL [(9,[⟨.bool,r1⟩]),(14,[⟨.bool,r2⟩])]) (l:=[2,3,28]) nw h (by kernel_rfl) (ac (c70 k x1.1 r1 hr253) (ac (fun (hg:((!r1)=false)) => c110 k x1.2.2 r2 (of_g hg hr254)) an)) fun a w h => ?_
 refine wp_if h (b:=(bif (bif (bif (!r1) then true else (!r2)) then true else (decide (((List.length x1.2.1:Int):Int) < (1:Int)))) then true else (decide (((List.length x1.2.1:Int):Int) > (30:Int))))) (by kernel_rfl) (fun hb => ?_) (fun hb => ?_)
 ·replace hF:=of_t hb hF
  refine wp_reg_seq tok (orc:=o0) (l:=[4]) nw h (by kernel_rfl) an fun a w h => ?_
  cases hF
  exact wp_ret (ret_okR tok h rfl (by kernel_rfl)).1
 ·replace hF:=of_f hb hF
  refine wp_skip ?_
  refine wp_seq ?_
  refine wp_reg_seq tok (orc:=o0) (l:=[2,3,5]) nw h (by kernel_rfl) an fun a w h => ?_
  refine wp_block ?_
  refine wp_loop_fuel (f112.l128 k x1 x0) (fun (v212:Int) => [(2,.val sh10 (some x0)),(3,.val sh14 (some x1)),(5,.val (.int .i64) v212)]) (fun v h => by rw [f112.l128] at h; cases h) ?_ hF (h.arrive (l:=[2,3,5]) nw (by kernel_rfl))
  intro m128 v212 a w hF h
  rw [f112.l128] at hF
  refine wp_seq ?_
  refine wp_reg_seq tok (orc:=o0) (l:=[2,3,5,33]) nw h (by kernel_rfl) an fun a w h => ?_
  refine wp_if h (b:=(decide ((v212:Int) < (List.length x1.2.1:Int)))) (by kernel_rfl) (fun hb => ?_) (fun hb => ?_)
  ·replace hF:=of_t hb hF
   refine wp_skip ?_
   refine wp_seq <| wp_block ?_
   refine wp_seq ?_
   obtain ⟨hc251,hF⟩:=of_if hF
   obtain ⟨r233,hr252,hF⟩:=of_bind hF
   refine wp_regy_seq tok (orc:=orcL [(43,[⟨(.int .i64),r233⟩])]) (l:=[2,3,5,44]) ([],[],[],[]) 9 nw h (by kernel_rfl) (by kernel_rfl) (ac hc251 (ac (c119 k x0 (gD x1.2.1 (tZ v212) (iO,false)).1 r233 hr252) an)) fun a w h => ?_
   refine wp_if h (b:=(decide ((r233:Int) < iO))) (by kernel_rfl) (fun hb => ?_) (fun hb => ?_)
   ·replace hF:=of_t hb hF
    refine wp_reg_seq tok (orc:=o0) (l:=[4]) nw h (by kernel_rfl) an fun a w h => ?_
    cases hF
    exact wp_ret (ret_okR tok h rfl (by kernel_rfl)).1
   ·replace hF:=of_f hb hF
    refine wp_skip ?_
    refine wp_reg_seq tok (orc:=o0) (l:=[2,3,5,6]) nw h (by kernel_rfl) an fun a w h => ?_
    refine wp_block ?_
    refine wp_loop_fuel (f112.l234 k v212 x1 ((f112.l128 k x1 x0) m128)) (fun (v246:Int) => [(2,.val sh10 (some x0)),(3,.val sh14 (some x1)),(5,.val (.int .i64) v212),(6,.val (.int .i64) v246)]) (fun v h => by rw [f112.l234] at h; cases h) ?_ hF (h.arrive (l:=[2,3,5,6]) nw (by kernel_rfl))
    intro m234 v246 a w hF h
    rw [f112.l234] at hF
    refine wp_seq ?_
    refine wp_reg_seq tok (orc:=o0) (l:=[2,3,5,6,47]) nw h (by kernel_rfl) an fun a w h => ?_
    refine wp_if h (b:=(decide ((v246:Int) < v212))) (by kernel_rfl) (fun hb => ?_) (fun hb => ?_)
    ·replace hF:=of_t hb hF
     refine wp_skip ?_
     refine wp_seq <| wp_block ?_
     obtain ⟨hc249,hF⟩:=of_if hF
     obtain ⟨hc250,hF⟩:=of_if hF
     refine wp_regy_seq tok (orc:=o0) (l:=[2,3,5,6,62]) ([],[],[],[]) 13 nw h (by kernel_rfl) (by kernel_rfl) (ac hc249 (ac hc250 an)) fun a w h => ?_
     refine wp_if h (b:=(((gD x1.2.1 (tZ v246) (iO,false)).1:Int) == (gD x1.2.1 (tZ v212) (iO,false)).1)) (by kernel_rfl) (fun hb => ?_) (fun hb => ?_)
     ·replace hF:=of_t hb hF
      refine wp_reg_seq tok (orc:=o0) (l:=[4]) nw h (by kernel_rfl) an fun a w h => ?_
      cases hF
      exact wp_ret (ret_okR tok h rfl (by kernel_rfl)).1
     ·replace hF:=of_f hb hF
      refine wp_skip ?_
      refine wp_reg tok (orc:=o0) (l:=[2,3,5,6]) nw h (by kernel_rfl) an fun a w h => ?_
      exact ⟨(w64 (v246 + (1:Int))),hF,h.arrive (l:=[2,3,5,6]) nw (by kernel_rfl)⟩
    ·replace hF:=of_f hb hF
     refine wp_exit ?_
     refine wp_reg tok (orc:=o0) (l:=[2,3,5]) nw h (by kernel_rfl) an fun a w h => ?_
     exact ⟨(w64 (v212 + (1:Int))),hF,h.arrive (l:=[2,3,5]) nw (by kernel_rfl)⟩
  ·replace hF:=of_f hb hF
   refine wp_exit ?_
   refine wp_reg_seq tok (orc:=o0) (l:=[4]) nw h (by kernel_rfl) an fun a w h => ?_
   cases hF
   exact wp_ret (ret_okR tok h rfl (by kernel_rfl)).1
def f97.l212 (k:Nat) (x0:((List (Int × ((Int × Int) × (List (ByteArray × ByteArray))))) × ((List (Int × ((List Int) × (List (ByteArray × ByteArray))))) × (List (Int × ((List (Int × Bool)) × (List (ByteArray × ByteArray)))))))):Nat→Int→Option Bool
 | 0,_ => none
 | m212+1,v236 => if (decide ((v236:Int) < (List.length x0.2.2:Int))) then (if (0≤v236∧v236 < (List.length x0.2.2:Int)) then ((f112 k x0 (List.getD x0.2.2 (Int.toNat v236) ((0:Int),(([]:(List (Int × Bool))),([]:(List (ByteArray × ByteArray))))))).bind fun r242 => (if ((((!r242)=false) ∧ ((decide ((v236:Int) > (0:Int)))=true)) → (0 ≤ (IntKind.i64.wrap (v236 - (1:Int))) ∧ (IntKind.i64.wrap (v236 - (1:Int))) < (List.length x0.2.2:Int))) then (if ((((!r242)=false) ∧ ((decide ((v236:Int) > (0:Int)))=true)) → (0≤v236∧v236 < (List.length x0.2.2:Int))) then (if (bif (!r242) then true else (bif (decide ((v236:Int) > (0:Int))) then (decide (((List.getD x0.2.2 (Int.toNat (IntKind.i64.wrap (v236 - (1:Int)))) ((0:Int),(([]:(List (Int × Bool))),([]:(List (ByteArray × ByteArray)))))).1:Int) ≥ (List.getD x0.2.2 (Int.toNat v236) ((0:Int),(([]:(List (Int × Bool))),([]:(List (ByteArray × ByteArray)))))).1)) else false)) then (some false) else ((f97.l212 k x0) m212 (IntKind.i64.wrap (v236 + (1:Int))))) else none) else none)) else none) else (some true)
def f97.l142 (k:Nat) (x0:((List (Int × ((Int × Int) × (List (ByteArray × ByteArray))))) × ((List (Int × ((List Int) × (List (ByteArray × ByteArray))))) × (List (Int × ((List (Int × Bool)) × (List (ByteArray × ByteArray)))))))):Nat→Int→Option Bool
 | 0,_ => none
 | m142+1,v166 => if (decide ((v166:Int) < (List.length x0.2.1:Int))) then (if (0≤v166∧v166 < (List.length x0.2.1:Int)) then ((f111 k x0 (List.getD x0.2.1 (Int.toNat v166) ((0:Int),(([]:(List Int)),([]:(List (ByteArray × ByteArray))))))).bind fun r172 => (if ((((!r172)=false) ∧ ((decide ((v166:Int) > (0:Int)))=true)) → (0 ≤ (IntKind.i64.wrap (v166 - (1:Int))) ∧ (IntKind.i64.wrap (v166 - (1:Int))) < (List.length x0.2.1:Int))) then (if ((((!r172)=false) ∧ ((decide ((v166:Int) > (0:Int)))=true)) → (0≤v166∧v166 < (List.length x0.2.1:Int))) then (if (bif (!r172) then true else (bif (decide ((v166:Int) > (0:Int))) then (decide (((List.getD x0.2.1 (Int.toNat (IntKind.i64.wrap (v166 - (1:Int)))) ((0:Int),(([]:(List Int)),([]:(List (ByteArray × ByteArray)))))).1:Int) ≥ (List.getD x0.2.1 (Int.toNat v166) ((0:Int),(([]:(List Int)),([]:(List (ByteArray × ByteArray)))))).1)) else false)) then (some false) else ((f97.l142 k x0) m142 (IntKind.i64.wrap (v166 + (1:Int))))) else none) else none)) else none) else (f97.l212 k x0 k (0:Int))
def f97.l54 (k:Nat) (x0:((List (Int × ((Int × Int) × (List (ByteArray × ByteArray))))) × ((List (Int × ((List Int) × (List (ByteArray × ByteArray))))) × (List (Int × ((List (Int × Bool)) × (List (ByteArray × ByteArray)))))))):Nat→Int→Option Bool
 | 0,_ => none
 | m54+1,v90 => if (decide ((v90:Int) < (List.length x0.1:Int))) then (if (0≤v90∧v90 < (List.length x0.1:Int)) then ((f70 k (List.getD x0.1 (Int.toNat v90) ((0:Int),(((0:Int),(0:Int)),([]:(List (ByteArray × ByteArray)))))).1).bind fun r99 => ((if ((!r99)=false) then f71 k (List.getD x0.1 (Int.toNat v90) ((0:Int),(((0:Int),(0:Int)),([]:(List (ByteArray × ByteArray)))))).2.1 else some default).bind fun r100 => ((if ((bif (!r99) then true else (!r100))=false) then f110 k (List.getD x0.1 (Int.toNat v90) ((0:Int),(((0:Int),(0:Int)),([]:(List (ByteArray × ByteArray)))))).2.2 else some default).bind fun r101 => (if ((((bif (bif (!r99) then true else (!r100)) then true else (!r101))=false) ∧ ((decide ((v90:Int) > (0:Int)))=true)) → (0 ≤ (IntKind.i64.wrap (v90 - (1:Int))) ∧ (IntKind.i64.wrap (v90 - (1:Int))) < (List.length x0.1:Int))) then (if (bif (bif (bif (!r99) then true else (!r100)) then true else (!r101)) then true else (bif (decide ((v90:Int) > (0:Int))) then (decide (((List.getD x0.1 (Int.toNat (IntKind.i64.wrap (v90 - (1:Int)))) ((0:Int),(((0:Int),(0:Int)),([]:(List (ByteArray × ByteArray)))))).1:Int) ≥ (List.getD x0.1 (Int.toNat v90) ((0:Int),(((0:Int),(0:Int)),([]:(List (ByteArray × ByteArray)))))).1)) else false)) then (some false) else ((f97.l54 k x0) m54 (IntKind.i64.wrap (v90 + (1:Int))))) else none)))) else none) else (f97.l142 k x0 k (0:Int))
def f97 (k:Nat) (x0:((List (Int × ((Int × Int) × (List (ByteArray × ByteArray))))) × ((List (Int × ((List Int) × (List (ByteArray × ByteArray))))) × (List (Int × ((List (Int × Bool)) × (List (ByteArray × ByteArray)))))))):Option Bool:=if (bif (bif (decide (((List.length x0.1:Int):Int) > (5000:Int))) then true else (decide (((List.length x0.2.1:Int):Int) > (1000:Int)))) then true else (decide (((List.length x0.2.2:Int):Int) > (300:Int)))) then (some false) else (f97.l54 k x0 k (0:Int))
theorem c97 (k:Nat) (x0:((List (Int × ((Int × Int) × (List (ByteArray × ByteArray))))) × ((List (Int × ((List Int) × (List (ByteArray × ByteArray))))) × (List (Int × ((List (Int × Bool)) × (List (ByteArray × ByteArray)))))))) (r:Bool) (hF:f97 k x0=some r):PCall Try.prog 97 [⟨sh11,x0⟩] [⟨.bool,r⟩]:=by
 refine pcall_intro Try.func97 rfl rfl (Nat.le_of_ble_eq_true rfl) ?_
 intro w0 Zi a w h
 rw [f97] at hF
 refine wp_reg_seq tok (orc:=o0) (l:=[1]) nw h (by kernel_rfl) an fun a w h => ?_
 refine wp_seq ?_
 refine wp_reg_seq tok (orc:=o0) (l:=[1,22]) nw h (by kernel_rfl) an fun a w h => ?_
 refine wp_if h (b:=(bif (bif (decide (((List.length x0.1:Int):Int) > (5000:Int))) then true else (decide (((List.length x0.2.1:Int):Int) > (1000:Int)))) then true else (decide (((List.length x0.2.2:Int):Int) > (300:Int))))) (by kernel_rfl) (fun hb => ?_) (fun hb => ?_)
 ·replace hF:=of_t hb hF
  refine wp_reg_seq tok (orc:=o0) (l:=[2]) nw h (by kernel_rfl) an fun a w h => ?_
  cases hF
  exact wp_ret (ret_okR tok h rfl (by kernel_rfl)).1
 ·replace hF:=of_f hb hF
  refine wp_skip ?_
  refine wp_seq ?_
  refine wp_reg_seq tok (orc:=o0) (l:=[1,3]) nw h (by kernel_rfl) an fun a w h => ?_
  refine wp_block ?_
  refine wp_loop_fuel (f97.l54 k x0) (fun (v90:Int) => [(1,.val sh10 (some x0)),(3,.val (.int .i64) v90)]) (fun v h => by rw [f97.l54] at h; cases h) ?_ hF (h.arrive (l:=[1,3]) nw (by kernel_rfl))
  intro m54 v90 a w hF h
  rw [f97.l54] at hF
  refine wp_seq ?_
  refine wp_reg_seq tok (orc:=o0) (l:=[1,3,27]) nw h (by kernel_rfl) an fun a w h => ?_
  refine wp_if h (b:=(decide ((v90:Int) < (List.length x0.1:Int)))) (by kernel_rfl) (fun hb => ?_) (fun hb => ?_)
  ·replace hF:=of_t hb hF
   refine wp_skip ?_
   refine wp_seq <| wp_block ?_
   obtain ⟨hc106,hF⟩:=of_if hF
   refine wp_reg_seq tok (orc:=o0) (l:=[1,3,4]) nw h (by kernel_rfl) (ac hc106 an) fun a w h => ?_
   obtain ⟨r99,hr102,hF⟩:=of_bind hF
   obtain ⟨r100,hr103,hF⟩:=of_bind hF
   obtain ⟨r101,hr104,hF⟩:=of_bind hF
   obtain ⟨hc105,hF⟩:=of_if hF
   refine wp_regy_seq tok (orc:=orcL [(37,[⟨.bool,r99⟩]),(42,[⟨.bool,r100⟩]),(48,[⟨.bool,r101⟩])]) (l:=[1,3,66]) ([],[],[],[]) 32 nw h (by kernel_rfl) (by kernel_rfl) (ac (c70 k (gD x0.1 (tZ v90) (iO,((iO,iO),([]:(List (ByteArray × ByteArray)))))).1 r99 hr102) (ac (fun (hg:((!r99)=false)) => c71 k (gD x0.1 (tZ v90) (iO,((iO,iO),([]:(List (ByteArray × ByteArray)))))).2.1 r100 (of_g hg hr103)) (ac (fun (hg:((bif (!r99) then true else (!r100))=false)) => c110 k (gD x0.1 (tZ v90) (iO,((iO,iO),([]:(List (ByteArray × ByteArray)))))).2.2 r101 (of_g hg hr104)) (ac hc105 an)))) fun a w h => ?_
   refine wp_if h (b:=(bif (bif (bif (!r99) then true else (!r100)) then true else (!r101)) then true else (bif (decide ((v90:Int) > iO)) then (decide (((gD x0.1 (tZ (w64 (v90 - (1:Int)))) (iO,((iO,iO),([]:(List (ByteArray × ByteArray)))))).1:Int) ≥ (gD x0.1 (tZ v90) (iO,((iO,iO),([]:(List (ByteArray × ByteArray)))))).1)) else false))) (by kernel_rfl) (fun hb => ?_) (fun hb => ?_)
   ·replace hF:=of_t hb hF
    refine wp_reg_seq tok (orc:=o0) (l:=[2]) nw h (by kernel_rfl) an fun a w h => ?_
    cases hF
    exact wp_ret (ret_okR tok h rfl (by kernel_rfl)).1
   ·replace hF:=of_f hb hF
    refine wp_skip ?_
    refine wp_reg tok (orc:=o0) (l:=[1,3]) nw h (by kernel_rfl) an fun a w h => ?_
    exact ⟨(w64 (v90 + (1:Int))),hF,h.arrive (l:=[1,3]) nw (by kernel_rfl)⟩
  ·replace hF:=of_f hb hF
   refine wp_exit ?_
   refine wp_seq ?_
   refine wp_reg_seq tok (orc:=o0) (l:=[1,5]) nw h (by kernel_rfl) an fun a w h => ?_
   refine wp_block ?_
   refine wp_loop_fuel (f97.l142 k x0) (fun (v166:Int) => [(1,.val sh10 (some x0)),(5,.val (.int .i64) v166)]) (fun v h => by rw [f97.l142] at h; cases h) ?_ hF (h.arrive (l:=[1,5]) nw (by kernel_rfl))
   intro m142 v166 a w hF h
   rw [f97.l142] at hF
   refine wp_seq ?_
   refine wp_reg_seq tok (orc:=o0) (l:=[1,5,71]) nw h (by kernel_rfl) an fun a w h => ?_
   refine wp_if h (b:=(decide ((v166:Int) < (List.length x0.2.1:Int)))) (by kernel_rfl) (fun hb => ?_) (fun hb => ?_)
   ·replace hF:=of_t hb hF
    refine wp_skip ?_
    refine wp_seq <| wp_block ?_
    obtain ⟨hc173,hF⟩:=of_if hF
    obtain ⟨r172,hr174,hF⟩:=of_bind hF
    obtain ⟨hc175,hF⟩:=of_if hF
    obtain ⟨hc176,hF⟩:=of_if hF
    refine wp_regy_seq tok (orc:=orcL [(80,[⟨.bool,r172⟩])]) (l:=[1,5,101]) ([],[],[],[]) 28 nw h (by kernel_rfl) (by kernel_rfl) (ac hc173 (ac (c111 k x0 (gD x0.2.1 (tZ v166) (iO,(lO,([]:(List (ByteArray × ByteArray)))))) r172 hr174) (ac hc175 (ac hc176 an)))) fun a w h => ?_
    refine wp_if h (b:=(bif (!r172) then true else (bif (decide ((v166:Int) > iO)) then (decide (((gD x0.2.1 (tZ (w64 (v166 - (1:Int)))) (iO,(lO,([]:(List (ByteArray × ByteArray)))))).1:Int) ≥ (gD x0.2.1 (tZ v166) (iO,(lO,([]:(List (ByteArray × ByteArray)))))).1)) else false))) (by kernel_rfl) (fun hb => ?_) (fun hb => ?_)
    ·replace hF:=of_t hb hF
     refine wp_reg_seq tok (orc:=o0) (l:=[2]) nw h (by kernel_rfl) an fun a w h => ?_
     cases hF
     exact wp_ret (ret_okR tok h rfl (by kernel_rfl)).1
    ·replace hF:=of_f hb hF
     refine wp_skip ?_
     refine wp_reg tok (orc:=o0) (l:=[1,5]) nw h (by kernel_rfl) an fun a w h => ?_
     exact ⟨(w64 (v166 + (1:Int))),hF,h.arrive (l:=[1,5]) nw (by kernel_rfl)⟩
   ·replace hF:=of_f hb hF
    refine wp_exit ?_
    refine wp_seq ?_
    refine wp_reg_seq tok (orc:=o0) (l:=[1,6]) nw h (by kernel_rfl) an fun a w h => ?_
    refine wp_block ?_
    refine wp_loop_fuel (f97.l212 k x0) (fun (v236:Int) => [(1,.val sh10 (some x0)),(6,.val (.int .i64) v236)]) (fun v h => by rw [f97.l212] at h; cases h) ?_ hF (h.arrive (l:=[1,6]) nw (by kernel_rfl))
    intro m212 v236 a w hF h
    rw [f97.l212] at hF
    refine wp_seq ?_
    refine wp_reg_seq tok (orc:=o0) (l:=[1,6,106]) nw h (by kernel_rfl) an fun a w h => ?_
    refine wp_if h (b:=(decide ((v236:Int) < (List.length x0.2.2:Int)))) (by kernel_rfl) (fun hb => ?_) (fun hb => ?_)
    ·replace hF:=of_t hb hF
     refine wp_skip ?_
     refine wp_seq <| wp_block ?_
     obtain ⟨hc243,hF⟩:=of_if hF
     obtain ⟨r242,hr244,hF⟩:=of_bind hF
     obtain ⟨hc245,hF⟩:=of_if hF
     obtain ⟨hc246,hF⟩:=of_if hF
     refine wp_regy_seq tok (orc:=orcL [(115,[⟨.bool,r242⟩])]) (l:=[1,6,136]) ([],[],[],[]) 28 nw h (by kernel_rfl) (by kernel_rfl) (ac hc243 (ac (c112 k x0 (gD x0.2.2 (tZ v236) (iO,(([]:(List (Int × Bool))),([]:(List (ByteArray × ByteArray)))))) r242 hr244) (ac hc245 (ac hc246 an)))) fun a w h => ?_
     refine wp_if h (b:=(bif (!r242) then true else (bif (decide ((v236:Int) > iO)) then (decide (((gD x0.2.2 (tZ (w64 (v236 - (1:Int)))) (iO,(([]:(List (Int × Bool))),([]:(List (ByteArray × ByteArray)))))).1:Int) ≥ (gD x0.2.2 (tZ v236) (iO,(([]:(List (Int × Bool))),([]:(List (ByteArray × ByteArray)))))).1)) else false))) (by kernel_rfl) (fun hb => ?_) (fun hb => ?_)
     ·replace hF:=of_t hb hF
      refine wp_reg_seq tok (orc:=o0) (l:=[2]) nw h (by kernel_rfl) an fun a w h => ?_
      cases hF
      exact wp_ret (ret_okR tok h rfl (by kernel_rfl)).1
     ·replace hF:=of_f hb hF
      refine wp_skip ?_
      refine wp_reg tok (orc:=o0) (l:=[1,6]) nw h (by kernel_rfl) an fun a w h => ?_
      exact ⟨(w64 (v236 + (1:Int))),hF,h.arrive (l:=[1,6]) nw (by kernel_rfl)⟩
    ·replace hF:=of_f hb hF
     refine wp_exit ?_
     refine wp_reg_seq tok (orc:=o0) (l:=[2]) nw h (by kernel_rfl) an fun a w h => ?_
     cases hF
     exact wp_ret (ret_okR tok h rfl (by kernel_rfl)).1
def f103.l18 (k:Nat) (x0:(List (ByteArray × ByteArray))) (x1:ByteArray):Nat→Int→Option ByteArray
 | 0,_ => none
 | m18+1,v30 => if (decide ((v30:Int) < (List.length x0:Int))) then (if (0≤v30∧v30 < (List.length x0:Int)) then (if (ByteArray.toList (List.getD x0 (Int.toNat v30) ((⟨#[]⟩:ByteArray),(⟨#[]⟩:ByteArray))).1 == ByteArray.toList x1) then (if (0≤v30∧v30 < (List.length x0:Int)) then (some (List.getD x0 (Int.toNat v30) ((⟨#[]⟩:ByteArray),(⟨#[]⟩:ByteArray))).2) else none) else ((f103.l18 k x0 x1) m18 (IntKind.i64.wrap (v30 + (1:Int))))) else none) else (some (⟨#[]⟩:ByteArray))
def f103 (k:Nat) (x0:(List (ByteArray × ByteArray))) (x1:ByteArray):Option ByteArray:=f103.l18 k x0 x1 k (0:Int)
theorem c103 (k:Nat) (x0:(List (ByteArray × ByteArray))) (x1:ByteArray) (r:ByteArray) (hF:f103 k x0 x1=some r):PCall Try.prog 103 [⟨sh2,x0⟩,⟨.str,x1⟩] [⟨.str,r⟩]:=by
 refine pcall_intro Try.func103 rfl rfl (Nat.le_of_ble_eq_true rfl) ?_
 intro w0 Zi a w h
 rw [f103] at hF
 refine wp_reg_seq tok (orc:=o0) (l:=[0,1]) nw h (by kernel_rfl) an fun a w h => ?_
 refine wp_seq ?_
 refine wp_reg_seq tok (orc:=o0) (l:=[0,1,5]) nw h (by kernel_rfl) an fun a w h => ?_
 refine wp_block ?_
 refine wp_loop_fuel (f103.l18 k x0 x1) (fun (v30:Int) => [(0,.val sh2 x0),(1,.val .str x1),(5,.val (.int .i64) v30)]) (fun v h => by rw [f103.l18] at h; cases h) ?_ hF (h.arrive (l:=[0,1,5]) nw (by kernel_rfl))
 intro m18 v30 a w hF h
 rw [f103.l18] at hF
 refine wp_seq ?_
 refine wp_reg_seq tok (orc:=o0) (l:=[0,1,5,9]) nw h (by kernel_rfl) an fun a w h => ?_
 refine wp_if h (b:=(decide ((v30:Int) < (List.length x0:Int)))) (by kernel_rfl) (fun hb => ?_) (fun hb => ?_)
 ·replace hF:=of_t hb hF
  refine wp_skip ?_
  refine wp_seq <| wp_block ?_
  obtain ⟨hc34,hF⟩:=of_if hF
  refine wp_reg_seq tok (orc:=o0) (l:=[0,1,5,18]) nw h (by kernel_rfl) (ac hc34 an) fun a w h => ?_
  refine wp_if h (b:=(ByteArray.toList (gD x0 (tZ v30) ((⟨#[]⟩:ByteArray),(⟨#[]⟩:ByteArray))).1 == ByteArray.toList x1)) (by kernel_rfl) (fun hb => ?_) (fun hb => ?_)
  ·replace hF:=of_t hb hF
   obtain ⟨hc33,hF⟩:=of_if hF
   refine wp_reg_seq tok (orc:=o0) (l:=[4]) nw h (by kernel_rfl) (ac hc33 an) fun a w h => ?_
   cases hF
   exact wp_ret (ret_okR tok h rfl (by kernel_rfl)).1
  ·replace hF:=of_f hb hF
   refine wp_skip ?_
   refine wp_reg tok (orc:=o0) (l:=[0,1,5]) nw h (by kernel_rfl) an fun a w h => ?_
   exact ⟨(w64 (v30 + (1:Int))),hF,h.arrive (l:=[0,1,5]) nw (by kernel_rfl)⟩
 ·replace hF:=of_f hb hF
  refine wp_exit ?_
  refine wp_reg_seq tok (orc:=o0) (l:=[4]) nw h (by kernel_rfl) an fun a w h => ?_
  cases hF
  exact wp_ret (ret_okR tok h rfl (by kernel_rfl)).1
def f113.l28 (k:Nat) (x0:ByteArray) (x1:Int):Nat → (Int × Int)→Option Int
 | 0,_ => none
 | m28+1,(v47,v48) => if (decide ((v48:Int) < (ByteArray.size x0:Int))) then (if ((0:Int)≤v48 ∧ (v48:Int) < (ByteArray.size x0:Int)) then (if (((decide (((byteAt x0 v48):Int) < (48:Int)))=false) → ((0:Int)≤v48 ∧ (v48:Int) < (ByteArray.size x0:Int))) then (if (bif (decide (((byteAt x0 v48):Int) < (48:Int))) then true else (decide (((byteAt x0 v48):Int) > (57:Int)))) then (some (-1:Int)) else (if ((0:Int)≤v48 ∧ (v48:Int) < (ByteArray.size x0:Int)) then ((f113.l28 k x0 x1) m28 ((IntKind.i64.wrap ((IntKind.i64.wrap (v47 * (10:Int))) + (IntKind.i64.wrap (IntKind.u8.wrap ((byteAt x0 v48) - (48:Int)))))),(IntKind.i64.wrap (v48 + (1:Int))))) else none)) else none) else none) else (if (decide ((v47:Int) > x1)) then (some (-1:Int)) else (some v47))
def f113 (k:Nat) (x0:ByteArray) (x1:Int):Option Int:=if (bif (((ByteArray.size x0:Int):Int) == (0:Int)) then true else (decide (((ByteArray.size x0:Int):Int) > (10:Int)))) then (some (-1:Int)) else (f113.l28 k x0 x1 k ((0:Int),(0:Int)))
theorem c113 (k:Nat) (x0:ByteArray) (x1:Int) (r:Int) (hF:f113 k x0 x1=some r):PCall Try.prog 113 [⟨.str,x0⟩,⟨(.int .i64),x1⟩] [⟨(.int .i64),r⟩]:=by
 refine pcall_intro Try.func113 rfl rfl (Nat.le_of_ble_eq_true rfl) ?_
 intro w0 Zi a w h
 rw [f113] at hF
 refine wp_reg_seq tok (orc:=o0) (l:=[0,1]) nw h (by kernel_rfl) an fun a w h => ?_
 refine wp_reg_seq tok (orc:=o0) (l:=[0,1,5]) nw h (by kernel_rfl) an fun a w h => ?_
 refine wp_seq ?_
 refine wp_reg_seq tok (orc:=o0) (l:=[0,1,5,14]) nw h (by kernel_rfl) an fun a w h => ?_
 refine wp_if h (b:=(bif (((ByteArray.size x0:Int):Int) == iO) then true else (decide (((ByteArray.size x0:Int):Int) > (10:Int))))) (by kernel_rfl) (fun hb => ?_) (fun hb => ?_)
 ·replace hF:=of_t hb hF
  refine wp_reg_seq tok (orc:=o0) (l:=[4]) nw h (by kernel_rfl) an fun a w h => ?_
  cases hF
  exact wp_ret (ret_okR tok h rfl (by kernel_rfl)).1
 ·replace hF:=of_f hb hF
  refine wp_skip ?_
  refine wp_seq ?_
  refine wp_reg_seq tok (orc:=o0) (l:=[0,1,5,6]) nw h (by kernel_rfl) an fun a w h => ?_
  refine wp_block ?_
  refine wp_loop_fuel (f113.l28 k x0 x1) (fun ((v47,v48):(Int × Int)) => [(0,.val .str x0),(1,.val (.int .i64) x1),(5,.val (.int .i64) v47),(6,.val (.int .i64) v48)]) (fun v h => by obtain ⟨v47,v48⟩:=v; rw [f113.l28] at h; cases h) ?_ hF (h.arrive (l:=[0,1,5,6]) nw (by kernel_rfl))
  intro m28 v a w hF h
  obtain ⟨v47,v48⟩:=v
  rw [f113.l28] at hF
  refine wp_seq ?_
  refine wp_reg_seq tok (orc:=o0) (l:=[0,1,5,6,18]) nw h (by kernel_rfl) an fun a w h => ?_
  refine wp_if h (b:=(decide ((v48:Int) < (ByteArray.size x0:Int)))) (by kernel_rfl) (fun hb => ?_) (fun hb => ?_)
  ·replace hF:=of_t hb hF
   refine wp_skip ?_
   refine wp_seq <| wp_block ?_
   refine wp_seq ?_
   obtain ⟨hc53,hF⟩:=of_if hF
   obtain ⟨hc54,hF⟩:=of_if hF
   refine wp_reg_seq tok (orc:=o0) (l:=[0,1,5,6,30]) nw h (by kernel_rfl) (ac hc53 (ac hc54 an)) fun a w h => ?_
   refine wp_if h (b:=(bif (decide (((byteAt x0 v48):Int) < (48:Int))) then true else (decide (((byteAt x0 v48):Int) > (57:Int))))) (by kernel_rfl) (fun hb => ?_) (fun hb => ?_)
   ·replace hF:=of_t hb hF
    refine wp_reg_seq tok (orc:=o0) (l:=[4]) nw h (by kernel_rfl) an fun a w h => ?_
    cases hF
    exact wp_ret (ret_okR tok h rfl (by kernel_rfl)).1
   ·replace hF:=of_f hb hF
    refine wp_skip ?_
    obtain ⟨hc52,hF⟩:=of_if hF
    refine wp_reg tok (orc:=o0) (l:=[0,1,5,6]) nw h (by kernel_rfl) (ac hc52 an) fun a w h => ?_
    refine wp_reg tok (orc:=o0) (l:=[0,1,5,6]) nw h (by kernel_rfl) an fun a w h => ?_
    exact ⟨((w64 ((w64 (v47 * (10:Int))) + (w64 (IntKind.u8.wrap ((byteAt x0 v48) - (48:Int)))))),(w64 (v48 + (1:Int)))),hF,h.arrive (l:=[0,1,5,6]) nw (by kernel_rfl)⟩
  ·replace hF:=of_f hb hF
   refine wp_exit ?_
   refine wp_seq ?_
   refine wp_reg_seq tok (orc:=o0) (l:=[5,41]) nw h (by kernel_rfl) an fun a w h => ?_
   refine wp_if h (b:=(decide ((v47:Int) > x1))) (by kernel_rfl) (fun hb => ?_) (fun hb => ?_)
   ·replace hF:=of_t hb hF
    refine wp_reg_seq tok (orc:=o0) (l:=[4]) nw h (by kernel_rfl) an fun a w h => ?_
    cases hF
    exact wp_ret (ret_okR tok h rfl (by kernel_rfl)).1
   ·replace hF:=of_f hb hF
    refine wp_skip ?_
    refine wp_reg_seq tok (orc:=o0) (l:=[4]) nw h (by kernel_rfl) an fun a w h => ?_
    cases hF
    exact wp_ret (ret_okR tok h rfl (by kernel_rfl)).1
def f98.j8 (k:Nat):Int→Option Int
 | v7 => some v7
def f98.j4 (k:Nat) (x0:(List (ByteArray × ByteArray))):Int→Option Int
 | v3 => (f103 k x0 (⟨#[109,97,120,115,112,101,101,100]⟩:ByteArray)).bind fun r5 => ((f113 k r5 (30:Int)).bind fun r6 => (if (bif (decide ((r6:Int) ≥ (1:Int))) then (decide ((r6:Int) < v3)) else false) then (f98.j8 k r6) else (f98.j8 k v3)))
def f98 (k:Nat) (x0:(List (ByteArray × ByteArray))) (x1:Int):Option Int:=(f103 k x0 (⟨#[104,105,103,104,119,97,121]⟩:ByteArray)).bind fun r1 => ((f103 k x0 (⟨#[97,99,99,101,115,115]⟩:ByteArray)).bind fun r2 => (if (bif (bif (ByteArray.toList r1 == ByteArray.toList (⟨#[]⟩:ByteArray)) then true else (ByteArray.toList r2 == ByteArray.toList (⟨#[110,111]⟩:ByteArray))) then true else (ByteArray.toList r2 == ByteArray.toList (⟨#[112,114,105,118,97,116,101]⟩:ByteArray))) then (some (0:Int)) else (if ((x1:Int) == (2:Int)) then (if (ByteArray.toList r1 == ByteArray.toList (⟨#[109,111,116,111,114,119,97,121]⟩:ByteArray)) then (some (0:Int)) else (some (1:Int))) else (if ((x1:Int) != (1:Int)) then (some (0:Int)) else (if (ByteArray.toList r1 == ByteArray.toList (⟨#[109,111,116,111,114,119,97,121]⟩:ByteArray)) then (f98.j4 k x0 (30:Int)) else (if (ByteArray.toList r1 == ByteArray.toList (⟨#[109,97,105,110]⟩:ByteArray)) then (f98.j4 k x0 (20:Int)) else (if (ByteArray.toList r1 == ByteArray.toList (⟨#[115,116,114,101,101,116]⟩:ByteArray)) then (f98.j4 k x0 (10:Int)) else (f98.j4 k x0 (0:Int)))))))))
theorem c98 (k:Nat) (x0:(List (ByteArray × ByteArray))) (x1:Int) (r:Int) (hF:f98 k x0 x1=some r):PCall Try.prog 98 [⟨sh2,x0⟩,⟨(.int .i64),x1⟩] [⟨(.int .i64),r⟩]:=by
 refine pcall_intro Try.func98 rfl rfl (Nat.le_of_ble_eq_true rfl) ?_
 intro w0 Zi a w h
 rw [f98] at hF
 refine wp_reg_seq tok (orc:=o0) (l:=[0,1]) nw h (by kernel_rfl) an fun a w h => ?_
 obtain ⟨r1,hr12,hF⟩:=of_bind hF
 refine wp_reg_seq tok (orc:=orcL [(10,[⟨.str,r1⟩])]) (l:=[0,1,5]) nw h (by kernel_rfl) (ac (c103 k x0 (⟨#[104,105,103,104,119,97,121]⟩:ByteArray) r1 hr12) an) fun a w h => ?_
 obtain ⟨r2,hr11,hF⟩:=of_bind hF
 refine wp_reg_seq tok (orc:=orcL [(12,[⟨.str,r2⟩])]) (l:=[0,1,5,6]) nw h (by kernel_rfl) (ac (c103 k x0 (⟨#[97,99,99,101,115,115]⟩:ByteArray) r2 hr11) an) fun a w h => ?_
 refine wp_seq ?_
 refine wp_reg_seq tok (orc:=o0) (l:=[0,1,5,22]) nw h (by kernel_rfl) an fun a w h => ?_
 refine wp_if h (b:=(bif (bif (ByteArray.toList r1 == ByteArray.toList (⟨#[]⟩:ByteArray)) then true else (ByteArray.toList r2 == ByteArray.toList (⟨#[110,111]⟩:ByteArray))) then true else (ByteArray.toList r2 == ByteArray.toList (⟨#[112,114,105,118,97,116,101]⟩:ByteArray)))) (by kernel_rfl) (fun hb => ?_) (fun hb => ?_)
 ·replace hF:=of_t hb hF
  refine wp_reg_seq tok (orc:=o0) (l:=[4]) nw h (by kernel_rfl) an fun a w h => ?_
  cases hF
  exact wp_ret (ret_okR tok h rfl (by kernel_rfl)).1
 ·replace hF:=of_f hb hF
  refine wp_skip ?_
  refine wp_seq ?_
  refine wp_reg_seq tok (orc:=o0) (l:=[0,1,5,24]) nw h (by kernel_rfl) an fun a w h => ?_
  refine wp_if h (b:=((x1:Int) == (2:Int))) (by kernel_rfl) (fun hb => ?_) (fun hb => ?_)
  ·replace hF:=of_t hb hF
   refine wp_seq ?_
   refine wp_reg_seq tok (orc:=o0) (l:=[26]) nw h (by kernel_rfl) an fun a w h => ?_
   refine wp_if h (b:=(ByteArray.toList r1 == ByteArray.toList (⟨#[109,111,116,111,114,119,97,121]⟩:ByteArray))) (by kernel_rfl) (fun hb => ?_) (fun hb => ?_)
   ·replace hF:=of_t hb hF
    refine wp_reg_seq tok (orc:=o0) (l:=[4]) nw h (by kernel_rfl) an fun a w h => ?_
    cases hF
    exact wp_ret (ret_okR tok h rfl (by kernel_rfl)).1
   ·replace hF:=of_f hb hF
    refine wp_skip ?_
    refine wp_reg_seq tok (orc:=o0) (l:=[4]) nw h (by kernel_rfl) an fun a w h => ?_
    cases hF
    exact wp_ret (ret_okR tok h rfl (by kernel_rfl)).1
  ·replace hF:=of_f hb hF
   refine wp_skip ?_
   refine wp_seq ?_
   refine wp_reg_seq tok (orc:=o0) (l:=[0,5,28]) nw h (by kernel_rfl) an fun a w h => ?_
   refine wp_if h (b:=((x1:Int) != (1:Int))) (by kernel_rfl) (fun hb => ?_) (fun hb => ?_)
   ·replace hF:=of_t hb hF
    refine wp_reg_seq tok (orc:=o0) (l:=[4]) nw h (by kernel_rfl) an fun a w h => ?_
    cases hF
    exact wp_ret (ret_okR tok h rfl (by kernel_rfl)).1
   ·replace hF:=of_f hb hF
    refine wp_skip ?_
    refine wp_reg_seq tok (orc:=o0) (l:=[0,5,7]) nw h (by kernel_rfl) an fun a w h => ?_
    refine wp_seq ?_
    refine wp_reg_seq tok (orc:=o0) (l:=[0,7,29]) nw h (by kernel_rfl) an fun a w h => ?_
    refine wp_midT (fun a w => ∃ v:Int,f98.j4 k x0 v=some r∧Rel w0 (fun _ => False) Zi Try.f98.ntmps ((fun (v3:Int) => ([(0,.val sh2 x0),(7,.val (.int .i64) v3)]:SS)) v) a w) ?_ ?_
    ·
     refine wp_block ?_
     refine wp_reg_seq tok (orc:=o0) (l:=[0,7,29,30]) nw h (by kernel_rfl) an fun a w h => ?_
     refine wp_if h (b:=(ByteArray.toList r1 == ByteArray.toList (⟨#[109,111,116,111,114,119,97,121]⟩:ByteArray))) (by kernel_rfl) (fun hb => ?_) (fun hb => ?_)
     ·replace hF:=of_t hb hF
      refine wp_reg tok (orc:=o0) (l:=[0,7]) nw h (by kernel_rfl) an fun a w h => ?_
      exact ⟨(30:Int),hF,h.arrive (l:=[0,7]) nw (by kernel_rfl)⟩
     ·replace hF:=of_f hb hF
      refine wp_reg_seq tok (orc:=o0) (l:=[0,7,29,32]) nw h (by kernel_rfl) an fun a w h => ?_
      refine wp_if h (b:=(ByteArray.toList r1 == ByteArray.toList (⟨#[109,97,105,110]⟩:ByteArray))) (by kernel_rfl) (fun hb => ?_) (fun hb => ?_)
      ·replace hF:=of_t hb hF
       refine wp_reg tok (orc:=o0) (l:=[0,7]) nw h (by kernel_rfl) an fun a w h => ?_
       exact ⟨(20:Int),hF,h.arrive (l:=[0,7]) nw (by kernel_rfl)⟩
      ·replace hF:=of_f hb hF
       refine wp_reg_seq tok (orc:=o0) (l:=[0,7,34]) nw h (by kernel_rfl) an fun a w h => ?_
       refine wp_if h (b:=(ByteArray.toList r1 == ByteArray.toList (⟨#[115,116,114,101,101,116]⟩:ByteArray))) (by kernel_rfl) (fun hb => ?_) (fun hb => ?_)
       ·replace hF:=of_t hb hF
        refine wp_reg tok (orc:=o0) (l:=[0,7]) nw h (by kernel_rfl) an fun a w h => ?_
        exact ⟨(10:Int),hF,h.arrive (l:=[0,7]) nw (by kernel_rfl)⟩
       ·replace hF:=of_f hb hF
        refine wp_skip ?_
        exact ⟨iO,hF,h.arrive (l:=[0,7]) nw (by kernel_rfl)⟩
    ·rintro a w ⟨v3,hF,h⟩
     rw [f98.j4] at hF
     obtain ⟨r5,hr9,hF⟩:=of_bind hF
     obtain ⟨r6,hr10,hF⟩:=of_bind hF
     refine wp_reg_seq tok (orc:=orcL [(37,[⟨.str,r5⟩]),(38,[⟨(.int .i64),r6⟩])]) (l:=[7,8]) nw h (by kernel_rfl) (ac (c103 k x0 (⟨#[109,97,120,115,112,101,101,100]⟩:ByteArray) r5 hr9) (ac (c113 k r5 (30:Int) r6 hr10) an)) fun a w h => ?_
     refine wp_seq ?_
     refine wp_reg_seq tok (orc:=o0) (l:=[7,8,45]) nw h (by kernel_rfl) an fun a w h => ?_
     refine wp_midT (fun a w => ∃ v:Int,f98.j8 k v=some r∧Rel w0 (fun _ => False) Zi Try.f98.ntmps ((fun (v7:Int) => ([(7,.val (.int .i64) v7)]:SS)) v) a w) ?_ ?_
     ·
      refine wp_if h (b:=(bif (decide ((r6:Int) ≥ (1:Int))) then (decide ((r6:Int) < v3)) else false)) (by kernel_rfl) (fun hb => ?_) (fun hb => ?_)
      ·replace hF:=of_t hb hF
       refine wp_reg tok (orc:=o0) (l:=[7]) nw h (by kernel_rfl) an fun a w h => ?_
       exact ⟨r6,hF,h.arrive (l:=[7]) nw (by kernel_rfl)⟩
      ·replace hF:=of_f hb hF
       refine wp_skip ?_
       exact ⟨v3,hF,h.arrive (l:=[7]) nw (by kernel_rfl)⟩
     ·rintro a w ⟨v7,hF,h⟩
      rw [f98.j8] at hF
      refine wp_reg_seq tok (orc:=o0) (l:=[4]) nw h (by kernel_rfl) an fun a w h => ?_
      cases hF
      exact wp_ret (ret_okR tok h rfl (by kernel_rfl)).1
def f100 (k:Nat) (x0:(List (ByteArray × ByteArray))) (x1:Int):Option Int:=(f103 k x0 (⟨#[111,110,101,119,97,121]⟩:ByteArray)).bind fun r1 => (if ((x1:Int) != (1:Int)) then (some (0:Int)) else ((if (((ByteArray.toList r1 == ByteArray.toList (⟨#[121,101,115]⟩:ByteArray))=false) ∧ ((ByteArray.toList r1 == ByteArray.toList (⟨#[]⟩:ByteArray))=true)) then f103 k x0 (⟨#[106,117,110,99,116,105,111,110]⟩:ByteArray) else some default).bind fun r2 => (if (bif (ByteArray.toList r1 == ByteArray.toList (⟨#[121,101,115]⟩:ByteArray)) then true else (bif (ByteArray.toList r1 == ByteArray.toList (⟨#[]⟩:ByteArray)) then (ByteArray.toList r2 == ByteArray.toList (⟨#[114,105,110,103]⟩:ByteArray)) else false)) then (some (1:Int)) else (if (ByteArray.toList r1 == ByteArray.toList (⟨#[45,49]⟩:ByteArray)) then (some (-1:Int)) else (some (0:Int))))))
theorem c100 (k:Nat) (x0:(List (ByteArray × ByteArray))) (x1:Int) (r:Int) (hF:f100 k x0 x1=some r):PCall Try.prog 100 [⟨sh2,x0⟩,⟨(.int .i64),x1⟩] [⟨(.int .i64),r⟩]:=by
 refine pcall_intro Try.func100 rfl rfl (Nat.le_of_ble_eq_true rfl) ?_
 intro w0 Zi a w h
 rw [f100] at hF
 refine wp_reg_seq tok (orc:=o0) (l:=[0,1]) nw h (by kernel_rfl) an fun a w h => ?_
 obtain ⟨r1,hr4,hF⟩:=of_bind hF
 refine wp_reg_seq tok (orc:=orcL [(7,[⟨.str,r1⟩])]) (l:=[0,1,5]) nw h (by kernel_rfl) (ac (c103 k x0 (⟨#[111,110,101,119,97,121]⟩:ByteArray) r1 hr4) an) fun a w h => ?_
 refine wp_seq ?_
 refine wp_reg_seq tok (orc:=o0) (l:=[0,5,9]) nw h (by kernel_rfl) an fun a w h => ?_
 refine wp_if h (b:=((x1:Int) != (1:Int))) (by kernel_rfl) (fun hb => ?_) (fun hb => ?_)
 ·replace hF:=of_t hb hF
  refine wp_reg_seq tok (orc:=o0) (l:=[4]) nw h (by kernel_rfl) an fun a w h => ?_
  cases hF
  exact wp_ret (ret_okR tok h rfl (by kernel_rfl)).1
 ·replace hF:=of_f hb hF
  refine wp_skip ?_
  refine wp_seq ?_
  obtain ⟨r2,hr3,hF⟩:=of_bind hF
  refine wp_reg_seq tok (orc:=orcL [(17,[⟨.str,r2⟩])]) (l:=[5,20]) nw h (by kernel_rfl) (ac (fun (hg:(((ByteArray.toList r1 == ByteArray.toList (⟨#[121,101,115]⟩:ByteArray))=false) ∧ ((ByteArray.toList r1 == ByteArray.toList (⟨#[]⟩:ByteArray))=true))) => c103 k x0 (⟨#[106,117,110,99,116,105,111,110]⟩:ByteArray) r2 (of_g hg hr3)) an) fun a w h => ?_
  refine wp_if h (b:=(bif (ByteArray.toList r1 == ByteArray.toList (⟨#[121,101,115]⟩:ByteArray)) then true else (bif (ByteArray.toList r1 == ByteArray.toList (⟨#[]⟩:ByteArray)) then (ByteArray.toList r2 == ByteArray.toList (⟨#[114,105,110,103]⟩:ByteArray)) else false))) (by kernel_rfl) (fun hb => ?_) (fun hb => ?_)
  ·replace hF:=of_t hb hF
   refine wp_reg_seq tok (orc:=o0) (l:=[4]) nw h (by kernel_rfl) an fun a w h => ?_
   cases hF
   exact wp_ret (ret_okR tok h rfl (by kernel_rfl)).1
  ·replace hF:=of_f hb hF
   refine wp_skip ?_
   refine wp_seq ?_
   refine wp_reg_seq tok (orc:=o0) (l:=[22]) nw h (by kernel_rfl) an fun a w h => ?_
   refine wp_if h (b:=(ByteArray.toList r1 == ByteArray.toList (⟨#[45,49]⟩:ByteArray))) (by kernel_rfl) (fun hb => ?_) (fun hb => ?_)
   ·replace hF:=of_t hb hF
    refine wp_reg_seq tok (orc:=o0) (l:=[4]) nw h (by kernel_rfl) an fun a w h => ?_
    cases hF
    exact wp_ret (ret_okR tok h rfl (by kernel_rfl)).1
   ·replace hF:=of_f hb hF
    refine wp_skip ?_
    refine wp_reg_seq tok (orc:=o0) (l:=[4]) nw h (by kernel_rfl) an fun a w h => ?_
    cases hF
    exact wp_ret (ret_okR tok h rfl (by kernel_rfl)).1
def f101.l16 (k:Nat) (x0:((List (Int × (Int × Int))) × ((List (Int × (Int × (Int × (Int × (Int × ByteArray)))))) × (List (Int × Int))))) (x1:Int):Nat → (Int × Int)→Option Int
 | 0,_ => none
 | m16+1,(v27,v28) => if (decide ((v27:Int) < v28)) then (if (((2:Int):Int)≠0) then (if (0 ≤ (IntKind.i64.wrap (Int.tdiv (IntKind.i64.wrap (v27+v28)) (2:Int))) ∧ (IntKind.i64.wrap (Int.tdiv (IntKind.i64.wrap (v27+v28)) (2:Int))) < (List.length x0.1:Int)) then (if (decide (((List.getD x0.1 (Int.toNat (IntKind.i64.wrap (Int.tdiv (IntKind.i64.wrap (v27+v28)) (2:Int)))) ((0:Int),((0:Int),(0:Int)))).1:Int) < x1)) then ((f101.l16 k x0 x1) m16 ((IntKind.i64.wrap ((IntKind.i64.wrap (Int.tdiv (IntKind.i64.wrap (v27+v28)) (2:Int))) + (1:Int))),v28)) else ((f101.l16 k x0 x1) m16 (v27,(IntKind.i64.wrap (Int.tdiv (IntKind.i64.wrap (v27+v28)) (2:Int)))))) else none) else none) else (if (((decide ((v27:Int) < (List.length x0.1:Int)))=true) → (0≤v27∧v27 < (List.length x0.1:Int))) then (if (bif (decide ((v27:Int) < (List.length x0.1:Int))) then (((List.getD x0.1 (Int.toNat v27) ((0:Int),((0:Int),(0:Int)))).1:Int) == x1) else false) then (some v27) else (some (-1:Int))) else none)
def f101 (k:Nat) (x0:((List (Int × (Int × Int))) × ((List (Int × (Int × (Int × (Int × (Int × ByteArray)))))) × (List (Int × Int))))) (x1:Int):Option Int:=f101.l16 k x0 x1 k ((0:Int),(List.length x0.1:Int))
theorem c101 (k:Nat) (x0:tG) (x1:Int) (r:Int) (hF:f101 k x0 x1=some r):PCall Try.prog 101 [⟨sh18,x0⟩,⟨(.int .i64),x1⟩] [⟨(.int .i64),r⟩]:=by
 refine pcall_intro Try.func101 rfl rfl (Nat.le_of_ble_eq_true rfl) ?_
 intro w0 Zi a w h
 rw [f101] at hF
 refine wp_reg_seq tok (orc:=o0) (l:=[1,2]) nw h (by kernel_rfl) an fun a w h => ?_
 refine wp_reg_seq tok (orc:=o0) (l:=[1,2,5]) nw h (by kernel_rfl) an fun a w h => ?_
 refine wp_reg_seq tok (orc:=o0) (l:=[1,2,5,6]) nw h (by kernel_rfl) an fun a w h => ?_
 refine wp_seq <| wp_block ?_
 refine wp_loop_fuel (f101.l16 k x0 x1) (fun ((v27,v28):(Int × Int)) => [(1,.val (.int .i64) x1),(2,.val sh17 (some x0)),(5,.val (.int .i64) v27),(6,.val (.int .i64) v28)]) (fun v h => by obtain ⟨v27,v28⟩:=v; rw [f101.l16] at h; cases h) ?_ hF (h.arrive (l:=[1,2,5,6]) nw (by kernel_rfl))
 intro m16 v a w hF h
 obtain ⟨v27,v28⟩:=v
 rw [f101.l16] at hF
 refine wp_seq ?_
 refine wp_reg_seq tok (orc:=o0) (l:=[1,2,5,6,13]) nw h (by kernel_rfl) an fun a w h => ?_
 refine wp_if h (b:=(decide ((v27:Int) < v28))) (by kernel_rfl) (fun hb => ?_) (fun hb => ?_)
 ·replace hF:=of_t hb hF
  refine wp_skip ?_
  refine wp_block ?_
  obtain ⟨hc30,hF⟩:=of_if hF
  refine wp_reg_seq tok (orc:=o0) (l:=[1,2,5,6,7]) nw h (by kernel_rfl) (ac hc30 an) fun a w h => ?_
  obtain ⟨hc29,hF⟩:=of_if hF
  refine wp_reg_seq tok (orc:=o0) (l:=[1,2,5,6,7,25]) nw h (by kernel_rfl) (ac hc29 an) fun a w h => ?_
  refine wp_if h (b:=(decide (((gD x0.1 (tZ (w64 (Int.tdiv (w64 (v27+v28)) (2:Int)))) (iO,(iO,iO))).1:Int) < x1))) (by kernel_rfl) (fun hb => ?_) (fun hb => ?_)
  ·replace hF:=of_t hb hF
   refine wp_reg tok (orc:=o0) (l:=[1,2,5,6]) nw h (by kernel_rfl) an fun a w h => ?_
   exact ⟨((w64 ((w64 (Int.tdiv (w64 (v27+v28)) (2:Int))) + (1:Int))),v28),hF,h.arrive (l:=[1,2,5,6]) nw (by kernel_rfl)⟩
  ·replace hF:=of_f hb hF
   refine wp_reg tok (orc:=o0) (l:=[1,2,5,6]) nw h (by kernel_rfl) an fun a w h => ?_
   exact ⟨(v27,(w64 (Int.tdiv (w64 (v27+v28)) (2:Int)))),hF,h.arrive (l:=[1,2,5,6]) nw (by kernel_rfl)⟩
 ·replace hF:=of_f hb hF
  refine wp_exit ?_
  refine wp_seq ?_
  obtain ⟨hc31,hF⟩:=of_if hF
  refine wp_reg_seq tok (orc:=o0) (l:=[5,43]) nw h (by kernel_rfl) (ac hc31 an) fun a w h => ?_
  refine wp_if h (b:=(bif (decide ((v27:Int) < (List.length x0.1:Int))) then (((gD x0.1 (tZ v27) (iO,(iO,iO))).1:Int) == x1) else false)) (by kernel_rfl) (fun hb => ?_) (fun hb => ?_)
  ·replace hF:=of_t hb hF
   refine wp_reg_seq tok (orc:=o0) (l:=[4]) nw h (by kernel_rfl) an fun a w h => ?_
   cases hF
   exact wp_ret (ret_okR tok h rfl (by kernel_rfl)).1
  ·replace hF:=of_f hb hF
   refine wp_skip ?_
   refine wp_reg_seq tok (orc:=o0) (l:=[4]) nw h (by kernel_rfl) an fun a w h => ?_
   cases hF
   exact wp_ret (ret_okR tok h rfl (by kernel_rfl)).1
def f115 (k:Nat) (x0:(Int × Int)) (x1:(Int × Int)):Option Int:=some (IntKind.i64.wrap ((IntKind.i64.wrap ((IntKind.i64.wrap (x1.1 - x0.1)) * (IntKind.i64.wrap (x1.1 - x0.1)))) + (IntKind.i64.wrap ((IntKind.i64.wrap (x1.2 - x0.2)) * (IntKind.i64.wrap (x1.2 - x0.2))))))
theorem c115 (k:Nat) (x0:(Int × Int)) (x1:(Int × Int)) (r:Int) (hF:f115 k x0 x1=some r):PCall Try.prog 115 [⟨sh5,x0⟩,⟨sh5,x1⟩] [⟨(.int .i64),r⟩]:=by
 refine pcall_intro Try.func115 rfl rfl (Nat.le_of_ble_eq_true rfl) ?_
 intro w0 Zi a w h
 rw [f115] at hF
 refine wp_reg_seq tok (orc:=o0) (l:=[2,3]) nw h (by kernel_rfl) an fun a w h => ?_
 refine wp_reg_seq tok (orc:=o0) (l:=[4]) nw h (by kernel_rfl) an fun a w h => ?_
 cases hF
 exact wp_ret (ret_okR tok h rfl (by kernel_rfl)).1
def f114.l13 (k:Nat) (x0:Int):Nat → (Int × Int)→Option Int
 | 0,_ => none
 | m13+1,(v22,v23) => if (decide ((v22:Int) < v23)) then (if (((2:Int):Int)≠0) then (if (decide (((IntKind.i64.wrap ((IntKind.i64.wrap (Int.tdiv (IntKind.i64.wrap ((IntKind.i64.wrap (v22+v23)) + (1:Int))) (2:Int))) * (IntKind.i64.wrap (Int.tdiv (IntKind.i64.wrap ((IntKind.i64.wrap (v22+v23)) + (1:Int))) (2:Int))))):Int)≤x0)) then ((f114.l13 k x0) m13 ((IntKind.i64.wrap (Int.tdiv (IntKind.i64.wrap ((IntKind.i64.wrap (v22+v23)) + (1:Int))) (2:Int))),v23)) else ((f114.l13 k x0) m13 (v22,(IntKind.i64.wrap ((IntKind.i64.wrap (Int.tdiv (IntKind.i64.wrap ((IntKind.i64.wrap (v22+v23)) + (1:Int))) (2:Int))) - (1:Int)))))) else none) else (some v22)
def f114 (k:Nat) (x0:Int):Option Int:=if (decide ((x0:Int) < (0:Int))) then (some (-1:Int)) else (f114.l13 k x0 k ((0:Int),(3037000499:Int)))
theorem c114 (k:Nat) (x0:Int) (r:Int) (hF:f114 k x0=some r):PCall Try.prog 114 [⟨(.int .i64),x0⟩] [⟨(.int .i64),r⟩]:=by
 refine pcall_intro Try.func114 rfl rfl (Nat.le_of_ble_eq_true rfl) ?_
 intro w0 Zi a w h
 rw [f114] at hF
 refine wp_reg_seq tok (orc:=o0) (l:=[0]) nw h (by kernel_rfl) an fun a w h => ?_
 refine wp_seq ?_
 refine wp_reg_seq tok (orc:=o0) (l:=[0,7]) nw h (by kernel_rfl) an fun a w h => ?_
 refine wp_if h (b:=(decide ((x0:Int) < iO))) (by kernel_rfl) (fun hb => ?_) (fun hb => ?_)
 ·replace hF:=of_t hb hF
  refine wp_reg_seq tok (orc:=o0) (l:=[2]) nw h (by kernel_rfl) an fun a w h => ?_
  cases hF
  exact wp_ret (ret_okR tok h rfl (by kernel_rfl)).1
 ·replace hF:=of_f hb hF
  refine wp_skip ?_
  refine wp_reg_seq tok (orc:=o0) (l:=[0,3]) nw h (by kernel_rfl) an fun a w h => ?_
  refine wp_reg_seq tok (orc:=o0) (l:=[0,3,4]) nw h (by kernel_rfl) an fun a w h => ?_
  refine wp_seq <| wp_block ?_
  refine wp_loop_fuel (f114.l13 k x0) (fun ((v22,v23):(Int × Int)) => [(0,.val (.int .i64) x0),(3,.val (.int .i64) v22),(4,.val (.int .i64) v23)]) (fun v h => by obtain ⟨v22,v23⟩:=v; rw [f114.l13] at h; cases h) ?_ hF (h.arrive (l:=[0,3,4]) nw (by kernel_rfl))
  intro m13 v a w hF h
  obtain ⟨v22,v23⟩:=v
  rw [f114.l13] at hF
  refine wp_seq ?_
  refine wp_reg_seq tok (orc:=o0) (l:=[0,3,4,10]) nw h (by kernel_rfl) an fun a w h => ?_
  refine wp_if h (b:=(decide ((v22:Int) < v23))) (by kernel_rfl) (fun hb => ?_) (fun hb => ?_)
  ·replace hF:=of_t hb hF
   refine wp_skip ?_
   refine wp_block ?_
   obtain ⟨hc24,hF⟩:=of_if hF
   refine wp_reg_seq tok (orc:=o0) (l:=[0,3,4,5]) nw h (by kernel_rfl) (ac hc24 an) fun a w h => ?_
   refine wp_reg_seq tok (orc:=o0) (l:=[0,3,4,5,20]) nw h (by kernel_rfl) an fun a w h => ?_
   refine wp_if h (b:=(decide (((w64 ((w64 (Int.tdiv (w64 ((w64 (v22+v23)) + (1:Int))) (2:Int))) * (w64 (Int.tdiv (w64 ((w64 (v22+v23)) + (1:Int))) (2:Int))))):Int)≤x0))) (by kernel_rfl) (fun hb => ?_) (fun hb => ?_)
   ·replace hF:=of_t hb hF
    refine wp_reg tok (orc:=o0) (l:=[0,3,4]) nw h (by kernel_rfl) an fun a w h => ?_
    exact ⟨((w64 (Int.tdiv (w64 ((w64 (v22+v23)) + (1:Int))) (2:Int))),v23),hF,h.arrive (l:=[0,3,4]) nw (by kernel_rfl)⟩
   ·replace hF:=of_f hb hF
    refine wp_reg tok (orc:=o0) (l:=[0,3,4]) nw h (by kernel_rfl) an fun a w h => ?_
    exact ⟨(v22,(w64 ((w64 (Int.tdiv (w64 ((w64 (v22+v23)) + (1:Int))) (2:Int))) - (1:Int)))),hF,h.arrive (l:=[0,3,4]) nw (by kernel_rfl)⟩
  ·replace hF:=of_f hb hF
   refine wp_exit ?_
   refine wp_reg_seq tok (orc:=o0) (l:=[2]) nw h (by kernel_rfl) an fun a w h => ?_
   cases hF
   exact wp_ret (ret_okR tok h rfl (by kernel_rfl)).1
def f102 (k:Nat) (x0:(Int × Int)) (x1:(Int × Int)):Option Int:=(f115 k x0 x1).bind fun r1 => ((f114 k (IntKind.i64.wrap ((4:Int)*r1))).bind fun r2 => (if (((2:Int):Int)≠0) then (some (IntKind.i64.wrap (Int.tdiv (IntKind.i64.wrap (r2 + (1:Int))) (2:Int)))) else none))
theorem c102 (k:Nat) (x0:(Int × Int)) (x1:(Int × Int)) (r:Int) (hF:f102 k x0 x1=some r):PCall Try.prog 102 [⟨sh5,x0⟩,⟨sh5,x1⟩] [⟨(.int .i64),r⟩]:=by
 refine pcall_intro Try.func102 rfl rfl (Nat.le_of_ble_eq_true rfl) ?_
 intro w0 Zi a w h
 rw [f102] at hF
 refine wp_reg_seq tok (orc:=o0) (l:=[2,3]) nw h (by kernel_rfl) an fun a w h => ?_
 obtain ⟨r1,hr3,hF⟩:=of_bind hF
 obtain ⟨r2,hr4,hF⟩:=of_bind hF
 obtain ⟨hc5,hF⟩:=of_if hF
 refine wp_reg_seq tok (orc:=orcL [(7,[⟨(.int .i64),r1⟩]),(9,[⟨(.int .i64),r2⟩])]) (l:=[4]) nw h (by kernel_rfl) (ac (c115 k x0 x1 r1 hr3) (ac (c114 k (w64 ((4:Int)*r1)) r2 hr4) (ac hc5 an))) fun a w h => ?_
 cases hF
 exact wp_ret (ret_okR tok h rfl (by kernel_rfl)).1
def f72 (k:Nat) (x0:(Int × Int)) (x1:(Int × Int)):Option Bool:=some (bif (decide ((x0.1:Int) < x1.1)) then true else (bif ((x0.1:Int) == x1.1) then (decide ((x0.2:Int) < x1.2)) else false))
theorem c72 (k:Nat) (x0:(Int × Int)) (x1:(Int × Int)) (r:Bool) (hF:f72 k x0 x1=some r):PCall Try.prog 72 [⟨sh5,x0⟩,⟨sh5,x1⟩] [⟨.bool,r⟩]:=by
 refine pcall_intro Try.func72 rfl rfl (Nat.le_of_ble_eq_true rfl) ?_
 intro w0 Zi a w h
 rw [f72] at hF
 refine wp_reg_seq tok (orc:=o0) (l:=[2,3]) nw h (by kernel_rfl) an fun a w h => ?_
 refine wp_reg_seq tok (orc:=o0) (l:=[4]) nw h (by kernel_rfl) an fun a w h => ?_
 cases hF
 exact wp_ret (ret_okR tok h rfl (by kernel_rfl)).1
def f47.l206 (k:Nat) (x0:((List (Int × (Int × Int))) × ((List (Int × (Int × (Int × (Int × (Int × ByteArray)))))) × (List (Int × Int))))):Nat→Int→Option Bool
 | 0,_ => none
 | m206+1,v242 => if (decide ((v242:Int) < (List.length x0.2.2:Int))) then (if (0≤v242∧v242 < (List.length x0.2.2:Int)) then (if (((bif (bif (bif (decide (((List.getD x0.2.2 (Int.toNat v242) ((0:Int),(0:Int))).1:Int) < (0:Int))) then true else (decide (((List.getD x0.2.2 (Int.toNat v242) ((0:Int),(0:Int))).1:Int) ≥ (List.length x0.2.1:Int)))) then true else (decide (((List.getD x0.2.2 (Int.toNat v242) ((0:Int),(0:Int))).2:Int) < (0:Int)))) then true else (decide (((List.getD x0.2.2 (Int.toNat v242) ((0:Int),(0:Int))).2:Int) ≥ (List.length x0.2.1:Int))))=false) → (0 ≤ (List.getD x0.2.2 (Int.toNat v242) ((0:Int),(0:Int))).1 ∧ (List.getD x0.2.2 (Int.toNat v242) ((0:Int),(0:Int))).1 < (List.length x0.2.1:Int))) then (if (((bif (bif (bif (decide (((List.getD x0.2.2 (Int.toNat v242) ((0:Int),(0:Int))).1:Int) < (0:Int))) then true else (decide (((List.getD x0.2.2 (Int.toNat v242) ((0:Int),(0:Int))).1:Int) ≥ (List.length x0.2.1:Int)))) then true else (decide (((List.getD x0.2.2 (Int.toNat v242) ((0:Int),(0:Int))).2:Int) < (0:Int)))) then true else (decide (((List.getD x0.2.2 (Int.toNat v242) ((0:Int),(0:Int))).2:Int) ≥ (List.length x0.2.1:Int))))=false) → (0 ≤ (List.getD x0.2.2 (Int.toNat v242) ((0:Int),(0:Int))).2 ∧ (List.getD x0.2.2 (Int.toNat v242) ((0:Int),(0:Int))).2 < (List.length x0.2.1:Int))) then (if ((((bif (bif (bif (bif (decide (((List.getD x0.2.2 (Int.toNat v242) ((0:Int),(0:Int))).1:Int) < (0:Int))) then true else (decide (((List.getD x0.2.2 (Int.toNat v242) ((0:Int),(0:Int))).1:Int) ≥ (List.length x0.2.1:Int)))) then true else (decide (((List.getD x0.2.2 (Int.toNat v242) ((0:Int),(0:Int))).2:Int) < (0:Int)))) then true else (decide (((List.getD x0.2.2 (Int.toNat v242) ((0:Int),(0:Int))).2:Int) ≥ (List.length x0.2.1:Int)))) then true else (((List.getD x0.2.1 (Int.toNat (List.getD x0.2.2 (Int.toNat v242) ((0:Int),(0:Int))).1) ((0:Int),((0:Int),((0:Int),((0:Int),((0:Int),(⟨#[]⟩:ByteArray))))))).2.1:Int) != (List.getD x0.2.1 (Int.toNat (List.getD x0.2.2 (Int.toNat v242) ((0:Int),(0:Int))).2) ((0:Int),((0:Int),((0:Int),((0:Int),((0:Int),(⟨#[]⟩:ByteArray))))))).1))=false) ∧ ((decide ((v242:Int) > (0:Int)))=true)) → (0 ≤ (IntKind.i64.wrap (v242 - (1:Int))) ∧ (IntKind.i64.wrap (v242 - (1:Int))) < (List.length x0.2.2:Int))) then ((if (((bif (bif (bif (bif (decide (((List.getD x0.2.2 (Int.toNat v242) ((0:Int),(0:Int))).1:Int) < (0:Int))) then true else (decide (((List.getD x0.2.2 (Int.toNat v242) ((0:Int),(0:Int))).1:Int) ≥ (List.length x0.2.1:Int)))) then true else (decide (((List.getD x0.2.2 (Int.toNat v242) ((0:Int),(0:Int))).2:Int) < (0:Int)))) then true else (decide (((List.getD x0.2.2 (Int.toNat v242) ((0:Int),(0:Int))).2:Int) ≥ (List.length x0.2.1:Int)))) then true else (((List.getD x0.2.1 (Int.toNat (List.getD x0.2.2 (Int.toNat v242) ((0:Int),(0:Int))).1) ((0:Int),((0:Int),((0:Int),((0:Int),((0:Int),(⟨#[]⟩:ByteArray))))))).2.1:Int) != (List.getD x0.2.1 (Int.toNat (List.getD x0.2.2 (Int.toNat v242) ((0:Int),(0:Int))).2) ((0:Int),((0:Int),((0:Int),((0:Int),((0:Int),(⟨#[]⟩:ByteArray))))))).1))=false) ∧ ((decide ((v242:Int) > (0:Int)))=true)) then f72 k (List.getD x0.2.2 (Int.toNat (IntKind.i64.wrap (v242 - (1:Int)))) ((0:Int),(0:Int))) (List.getD x0.2.2 (Int.toNat v242) ((0:Int),(0:Int))) else some default).bind fun r251 => ((some ((bif (bif (bif (bif (bif (decide (((List.getD x0.2.2 (Int.toNat v242) ((0:Int),(0:Int))).1:Int) < (0:Int))) then true else (decide (((List.getD x0.2.2 (Int.toNat v242) ((0:Int),(0:Int))).1:Int) ≥ (List.length x0.2.1:Int)))) then true else (decide (((List.getD x0.2.2 (Int.toNat v242) ((0:Int),(0:Int))).2:Int) < (0:Int)))) then true else (decide (((List.getD x0.2.2 (Int.toNat v242) ((0:Int),(0:Int))).2:Int) ≥ (List.length x0.2.1:Int)))) then true else (((List.getD x0.2.1 (Int.toNat (List.getD x0.2.2 (Int.toNat v242) ((0:Int),(0:Int))).1) ((0:Int),((0:Int),((0:Int),((0:Int),((0:Int),(⟨#[]⟩:ByteArray))))))).2.1:Int) != (List.getD x0.2.1 (Int.toNat (List.getD x0.2.2 (Int.toNat v242) ((0:Int),(0:Int))).2) ((0:Int),((0:Int),((0:Int),((0:Int),((0:Int),(⟨#[]⟩:ByteArray))))))).1)) then true else (bif (decide ((v242:Int) > (0:Int))) then (!r251) else false)):Bool)).bind fun v252 => (if v252 then (some false) else ((f47.l206 k x0) m206 (IntKind.i64.wrap (v242 + (1:Int))))))) else none) else none) else none) else none) else (some true)
def f47.l118 (k:Nat) (x0:((List (Int × (Int × Int))) × ((List (Int × (Int × (Int × (Int × (Int × ByteArray)))))) × (List (Int × Int))))):Nat→Int→Option Bool
 | 0,_ => none
 | m118+1,v142 => if (decide ((v142:Int) < (List.length x0.2.1:Int))) then (if (0≤v142∧v142 < (List.length x0.2.1:Int)) then ((if ((bif (bif (bif (decide (((List.getD x0.2.1 (Int.toNat v142) ((0:Int),((0:Int),((0:Int),((0:Int),((0:Int),(⟨#[]⟩:ByteArray))))))).1:Int) < (0:Int))) then true else (decide (((List.getD x0.2.1 (Int.toNat v142) ((0:Int),((0:Int),((0:Int),((0:Int),((0:Int),(⟨#[]⟩:ByteArray))))))).1:Int) ≥ (List.length x0.1:Int)))) then true else (decide (((List.getD x0.2.1 (Int.toNat v142) ((0:Int),((0:Int),((0:Int),((0:Int),((0:Int),(⟨#[]⟩:ByteArray))))))).2.1:Int) < (0:Int)))) then true else (decide (((List.getD x0.2.1 (Int.toNat v142) ((0:Int),((0:Int),((0:Int),((0:Int),((0:Int),(⟨#[]⟩:ByteArray))))))).2.1:Int) ≥ (List.length x0.1:Int))))=false) then f70 k (List.getD x0.2.1 (Int.toNat v142) ((0:Int),((0:Int),((0:Int),((0:Int),((0:Int),(⟨#[]⟩:ByteArray))))))).2.2.1 else some default).bind fun r148 => ((some ((bif (bif (bif (bif (bif (bif (bif (bif (decide (((List.getD x0.2.1 (Int.toNat v142) ((0:Int),((0:Int),((0:Int),((0:Int),((0:Int),(⟨#[]⟩:ByteArray))))))).1:Int) < (0:Int))) then true else (decide (((List.getD x0.2.1 (Int.toNat v142) ((0:Int),((0:Int),((0:Int),((0:Int),((0:Int),(⟨#[]⟩:ByteArray))))))).1:Int) ≥ (List.length x0.1:Int)))) then true else (decide (((List.getD x0.2.1 (Int.toNat v142) ((0:Int),((0:Int),((0:Int),((0:Int),((0:Int),(⟨#[]⟩:ByteArray))))))).2.1:Int) < (0:Int)))) then true else (decide (((List.getD x0.2.1 (Int.toNat v142) ((0:Int),((0:Int),((0:Int),((0:Int),((0:Int),(⟨#[]⟩:ByteArray))))))).2.1:Int) ≥ (List.length x0.1:Int)))) then true else (!r148)) then true else (decide (((List.getD x0.2.1 (Int.toNat v142) ((0:Int),((0:Int),((0:Int),((0:Int),((0:Int),(⟨#[]⟩:ByteArray))))))).2.2.2.1:Int) < (1:Int)))) then true else (decide (((List.getD x0.2.1 (Int.toNat v142) ((0:Int),((0:Int),((0:Int),((0:Int),((0:Int),(⟨#[]⟩:ByteArray))))))).2.2.2.1:Int) > (1000000:Int)))) then true else (decide (((List.getD x0.2.1 (Int.toNat v142) ((0:Int),((0:Int),((0:Int),((0:Int),((0:Int),(⟨#[]⟩:ByteArray))))))).2.2.2.2.1:Int) < (0:Int)))) then true else (decide (((List.getD x0.2.1 (Int.toNat v142) ((0:Int),((0:Int),((0:Int),((0:Int),((0:Int),(⟨#[]⟩:ByteArray))))))).2.2.2.2.1:Int) > (1000000000:Int)))):Bool)).bind fun v149 => (if v149 then (some false) else ((f47.l118 k x0) m118 (IntKind.i64.wrap (v142 + (1:Int))))))) else none) else (f47.l206 k x0 k (0:Int))
def f47.l42 (k:Nat) (x0:((List (Int × (Int × Int))) × ((List (Int × (Int × (Int × (Int × (Int × ByteArray)))))) × (List (Int × Int))))):Nat→Int→Option Bool
 | 0,_ => none
 | m42+1,v70 => if (decide ((v70:Int) < (List.length x0.1:Int))) then (if (0≤v70∧v70 < (List.length x0.1:Int)) then ((f70 k (List.getD x0.1 (Int.toNat v70) ((0:Int),((0:Int),(0:Int)))).1).bind fun r77 => ((if ((!r77)=false) then f71 k (List.getD x0.1 (Int.toNat v70) ((0:Int),((0:Int),(0:Int)))).2 else some default).bind fun r78 => (if ((((bif (!r77) then true else (!r78))=false) ∧ ((decide ((v70:Int) > (0:Int)))=true)) → (0 ≤ (IntKind.i64.wrap (v70 - (1:Int))) ∧ (IntKind.i64.wrap (v70 - (1:Int))) < (List.length x0.1:Int))) then (if (bif (bif (!r77) then true else (!r78)) then true else (bif (decide ((v70:Int) > (0:Int))) then (decide (((List.getD x0.1 (Int.toNat (IntKind.i64.wrap (v70 - (1:Int)))) ((0:Int),((0:Int),(0:Int)))).1:Int) ≥ (List.getD x0.1 (Int.toNat v70) ((0:Int),((0:Int),(0:Int)))).1)) else false)) then (some false) else ((f47.l42 k x0) m42 (IntKind.i64.wrap (v70 + (1:Int))))) else none))) else none) else (f47.l118 k x0 k (0:Int))
def f47 (k:Nat) (x0:((List (Int × (Int × Int))) × ((List (Int × (Int × (Int × (Int × (Int × ByteArray)))))) × (List (Int × Int))))):Option Bool:=if (bif (bif (decide (((List.length x0.1:Int):Int) > (5000:Int))) then true else (decide (((List.length x0.2.1:Int):Int) > (8000:Int)))) then true else (decide (((List.length x0.2.2:Int):Int) > (2000:Int)))) then (some false) else (f47.l42 k x0 k (0:Int))
theorem c47 (k:Nat) (x0:tG) (r:Bool) (hF:f47 k x0=some r):PCall Try.prog 47 [⟨sh18,x0⟩] [⟨.bool,r⟩]:=by
 refine pcall_intro Try.func47 rfl rfl (Nat.le_of_ble_eq_true rfl) ?_
 intro w0 Zi a w h
 rw [f47] at hF
 refine wp_reg_seq tok (orc:=o0) (l:=[1]) nw h (by kernel_rfl) an fun a w h => ?_
 refine wp_seq ?_
 refine wp_reg_seq tok (orc:=o0) (l:=[1,26]) nw h (by kernel_rfl) an fun a w h => ?_
 refine wp_if h (b:=(bif (bif (decide (((List.length x0.1:Int):Int) > (5000:Int))) then true else (decide (((List.length x0.2.1:Int):Int) > (8000:Int)))) then true else (decide (((List.length x0.2.2:Int):Int) > (2000:Int))))) (by kernel_rfl) (fun hb => ?_) (fun hb => ?_)
 ·replace hF:=of_t hb hF
  refine wp_reg_seq tok (orc:=o0) (l:=[2]) nw h (by kernel_rfl) an fun a w h => ?_
  cases hF
  exact wp_ret (ret_okR tok h rfl (by kernel_rfl)).1
 ·replace hF:=of_f hb hF
  refine wp_skip ?_
  refine wp_seq ?_
  refine wp_reg_seq tok (orc:=o0) (l:=[1,3]) nw h (by kernel_rfl) an fun a w h => ?_
  refine wp_block ?_
  refine wp_loop_fuel (f47.l42 k x0) (fun (v70:Int) => [(1,.val sh17 (some x0)),(3,.val (.int .i64) v70)]) (fun v h => by rw [f47.l42] at h; cases h) ?_ hF (h.arrive (l:=[1,3]) nw (by kernel_rfl))
  intro m42 v70 a w hF h
  rw [f47.l42] at hF
  refine wp_seq ?_
  refine wp_reg_seq tok (orc:=o0) (l:=[1,3,31]) nw h (by kernel_rfl) an fun a w h => ?_
  refine wp_if h (b:=(decide ((v70:Int) < (List.length x0.1:Int)))) (by kernel_rfl) (fun hb => ?_) (fun hb => ?_)
  ·replace hF:=of_t hb hF
   refine wp_skip ?_
   refine wp_seq <| wp_block ?_
   obtain ⟨hc82,hF⟩:=of_if hF
   refine wp_reg_seq tok (orc:=o0) (l:=[1,3,4]) nw h (by kernel_rfl) (ac hc82 an) fun a w h => ?_
   obtain ⟨r77,hr79,hF⟩:=of_bind hF
   obtain ⟨r78,hr80,hF⟩:=of_bind hF
   obtain ⟨hc81,hF⟩:=of_if hF
   refine wp_regy_seq tok (orc:=orcL [(41,[⟨.bool,r77⟩]),(46,[⟨.bool,r78⟩])]) (l:=[1,3,64]) ([],[],[],[]) 26 nw h (by kernel_rfl) (by kernel_rfl) (ac (c70 k (gD x0.1 (tZ v70) (iO,(iO,iO))).1 r77 hr79) (ac (fun (hg:((!r77)=false)) => c71 k (gD x0.1 (tZ v70) (iO,(iO,iO))).2 r78 (of_g hg hr80)) (ac hc81 an))) fun a w h => ?_
   refine wp_if h (b:=(bif (bif (!r77) then true else (!r78)) then true else (bif (decide ((v70:Int) > iO)) then (decide (((gD x0.1 (tZ (w64 (v70 - (1:Int)))) (iO,(iO,iO))).1:Int) ≥ (gD x0.1 (tZ v70) (iO,(iO,iO))).1)) else false))) (by kernel_rfl) (fun hb => ?_) (fun hb => ?_)
   ·replace hF:=of_t hb hF
    refine wp_reg_seq tok (orc:=o0) (l:=[2]) nw h (by kernel_rfl) an fun a w h => ?_
    cases hF
    exact wp_ret (ret_okR tok h rfl (by kernel_rfl)).1
   ·replace hF:=of_f hb hF
    refine wp_skip ?_
    refine wp_reg tok (orc:=o0) (l:=[1,3]) nw h (by kernel_rfl) an fun a w h => ?_
    exact ⟨(w64 (v70 + (1:Int))),hF,h.arrive (l:=[1,3]) nw (by kernel_rfl)⟩
  ·replace hF:=of_f hb hF
   refine wp_exit ?_
   refine wp_reg_seq tok (orc:=o0) (l:=[1,5]) nw h (by kernel_rfl) an fun a w h => ?_
   refine wp_seq ?_
   refine wp_reg_seq tok (orc:=o0) (l:=[1,5,6]) nw h (by kernel_rfl) an fun a w h => ?_
   refine wp_block ?_
   refine wp_loop_fuel (f47.l118 k x0) (fun (v142:Int) => [(1,.val sh17 (some x0)),(5,.val (.int .i64) (List.length x0.1:Int)),(6,.val (.int .i64) v142)]) (fun v h => by rw [f47.l118] at h; cases h) ?_ hF (h.arrive (l:=[1,5,6]) nw (by kernel_rfl))
   intro m118 v142 a w hF h
   rw [f47.l118] at hF
   refine wp_seq ?_
   refine wp_reg_seq tok (orc:=o0) (l:=[1,5,6,72]) nw h (by kernel_rfl) an fun a w h => ?_
   refine wp_if h (b:=(decide ((v142:Int) < (List.length x0.2.1:Int)))) (by kernel_rfl) (fun hb => ?_) (fun hb => ?_)
   ·replace hF:=of_t hb hF
    refine wp_skip ?_
    refine wp_seq <| wp_block ?_
    obtain ⟨hc152,hF⟩:=of_if hF
    refine wp_reg_seq tok (orc:=o0) (l:=[1,5,6,7]) nw h (by kernel_rfl) (ac hc152 an) fun a w h => ?_
    obtain ⟨r148,hr151,hF⟩:=of_bind hF
    refine wp_reg_seq tok (orc:=orcL [(103,[⟨.bool,r148⟩])]) (l:=[1,5,6,125]) nw h (by kernel_rfl) (ac (fun (hg:((bif (bif (bif (decide (((gD x0.2.1 (tZ v142) zR).1:Int) < iO)) then true else (decide (((gD x0.2.1 (tZ v142) zR).1:Int) ≥ (List.length x0.1:Int)))) then true else (decide (((gD x0.2.1 (tZ v142) zR).2.1:Int) < iO))) then true else (decide (((gD x0.2.1 (tZ v142) zR).2.1:Int) ≥ (List.length x0.1:Int))))=false)) => c70 k (gD x0.2.1 (tZ v142) zR).2.2.1 r148 (of_g hg hr151)) an) fun a w h => ?_
    obtain ⟨v149,hv150,hF⟩:=of_bind hF
    replace h:=h.cast (S':=[(1,.val sh17 (some x0)),(5,.val (.int .i64) (List.length x0.1:Int)),(6,.val (.int .i64) v142),(125,.val .bool v149)]) (by cases hv150; kernel_rfl)
    refine wp_if h (b:=v149) (by kernel_rfl) (fun hb => ?_) (fun hb => ?_)
    ·replace hF:=of_t hb hF
     refine wp_reg_seq tok (orc:=o0) (l:=[2]) nw h (by kernel_rfl) an fun a w h => ?_
     cases hF
     exact wp_ret (ret_okR tok h rfl (by kernel_rfl)).1
    ·replace hF:=of_f hb hF
     refine wp_skip ?_
     refine wp_reg tok (orc:=o0) (l:=[1,5,6]) nw h (by kernel_rfl) an fun a w h => ?_
     exact ⟨(w64 (v142 + (1:Int))),hF,h.arrive (l:=[1,5,6]) nw (by kernel_rfl)⟩
   ·replace hF:=of_f hb hF
    refine wp_exit ?_
    refine wp_reg_seq tok (orc:=o0) (l:=[1,8]) nw h (by kernel_rfl) an fun a w h => ?_
    refine wp_seq ?_
    refine wp_reg_seq tok (orc:=o0) (l:=[1,8,9]) nw h (by kernel_rfl) an fun a w h => ?_
    refine wp_block ?_
    refine wp_loop_fuel (f47.l206 k x0) (fun (v242:Int) => [(1,.val sh17 (some x0)),(8,.val (.int .i64) (List.length x0.2.1:Int)),(9,.val (.int .i64) v242)]) (fun v h => by rw [f47.l206] at h; cases h) ?_ hF (h.arrive (l:=[1,8,9]) nw (by kernel_rfl))
    intro m206 v242 a w hF h
    rw [f47.l206] at hF
    refine wp_seq ?_
    refine wp_reg_seq tok (orc:=o0) (l:=[1,8,9,133]) nw h (by kernel_rfl) an fun a w h => ?_
    refine wp_if h (b:=(decide ((v242:Int) < (List.length x0.2.2:Int)))) (by kernel_rfl) (fun hb => ?_) (fun hb => ?_)
    ·replace hF:=of_t hb hF
     refine wp_skip ?_
     refine wp_seq <| wp_block ?_
     obtain ⟨hc258,hF⟩:=of_if hF
     refine wp_reg_seq tok (orc:=o0) (l:=[1,8,9,10]) nw h (by kernel_rfl) (ac hc258 an) fun a w h => ?_
     obtain ⟨hc254,hF⟩:=of_if hF
     obtain ⟨hc255,hF⟩:=of_if hF
     obtain ⟨hc256,hF⟩:=of_if hF
     obtain ⟨r251,hr257,hF⟩:=of_bind hF
     refine wp_regy_seq tok (orc:=orcL [(189,[⟨.bool,r251⟩])]) (l:=[1,8,9,192]) ([],[],[],[]) 52 nw h (by kernel_rfl) (by kernel_rfl) (ac hc254 (ac hc255 (ac hc256 (ac (fun (hg:(((bif (bif (bif (bif (decide (((gD x0.2.2 (tZ v242) (iO,iO)).1:Int) < iO)) then true else (decide (((gD x0.2.2 (tZ v242) (iO,iO)).1:Int) ≥ (List.length x0.2.1:Int)))) then true else (decide (((gD x0.2.2 (tZ v242) (iO,iO)).2:Int) < iO))) then true else (decide (((gD x0.2.2 (tZ v242) (iO,iO)).2:Int) ≥ (List.length x0.2.1:Int)))) then true else (((gD x0.2.1 (tZ (gD x0.2.2 (tZ v242) (iO,iO)).1) zR).2.1:Int) != (gD x0.2.1 (tZ (gD x0.2.2 (tZ v242) (iO,iO)).2) zR).1))=false) ∧ ((decide ((v242:Int) > iO))=true))) => c72 k (gD x0.2.2 (tZ (w64 (v242 - (1:Int)))) (iO,iO)) (gD x0.2.2 (tZ v242) (iO,iO)) r251 (of_g hg hr257)) an)))) fun a w h => ?_
     obtain ⟨v252,hv253,hF⟩:=of_bind hF
     replace h:=h.cast (S':=[(1,.val sh17 (some x0)),(8,.val (.int .i64) (List.length x0.2.1:Int)),(9,.val (.int .i64) v242),(192,.val .bool v252)]) (by cases hv253; kernel_rfl)
     refine wp_if h (b:=v252) (by kernel_rfl) (fun hb => ?_) (fun hb => ?_)
     ·replace hF:=of_t hb hF
      refine wp_reg_seq tok (orc:=o0) (l:=[2]) nw h (by kernel_rfl) an fun a w h => ?_
      cases hF
      exact wp_ret (ret_okR tok h rfl (by kernel_rfl)).1
     ·replace hF:=of_f hb hF
      refine wp_skip ?_
      refine wp_reg tok (orc:=o0) (l:=[1,8,9]) nw h (by kernel_rfl) an fun a w h => ?_
      exact ⟨(w64 (v242 + (1:Int))),hF,h.arrive (l:=[1,8,9]) nw (by kernel_rfl)⟩
    ·replace hF:=of_f hb hF
     refine wp_exit ?_
     refine wp_reg_seq tok (orc:=o0) (l:=[2]) nw h (by kernel_rfl) an fun a w h => ?_
     cases hF
     exact wp_ret (ret_okR tok h rfl (by kernel_rfl)).1
end Go.Proofs.Ytdjadmdiehkfdaa.V
