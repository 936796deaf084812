/-
  THE CONTRACTS OF SOME FUNCTIONS OF THIS SEAT, PRINTED BY A PROGRAM OF THIS PROJECT (wip/gen/vgen.py).
-/
import Derived.Test.YtgfekidehbancaaProg
import Derived.Test.YtgfekidehbancaaVmW
import Derived.Test.YtgfekidehbancaaVmAn
import Derived.KernelRfl
import Derived.Test.YtgfekidehbancaaVmHo
import Derived.Test.YtgfekidehbancaaVmBy
set_option linter.unusedVariables false
open Go Go.Vm Go.Proofs
namespace Go.Proofs.Ytgfekidehbancaa.V
set_option maxRecDepth 100000
abbrev zR:Int × (Int × (Int × (Int × (Int × ByteArray)))):=((0:Int),((0:Int),((0:Int),((0:Int),((0:Int),(⟨#[]⟩:ByteArray))))))
abbrev tG:=((List (Int × (Int × Int))) × ((List (Int × (Int × (Int × (Int × (Int × ByteArray)))))) × (List (Int × Int))))
abbrev tN:=(((List (Int × (Int × Int))) × ((List (Int × (Int × (Int × (Int × (Int × ByteArray)))))) × (List (Int × Int)))) × ((List (List Int)) × ((List (List Int)) × (Option (List ((Int × Int) × Bool))))))
abbrev gD {α:Type} (l:List α) (i:Nat) (d:α):α:=List.getD l i d
abbrev tZ (n:Int):Nat:=Int.toNat n
abbrev iO:Int:=0
abbrev lO:List Int:=[]
theorem nw {p:Prop}:([]:List Nat)=[]∨p:=.inl rfl
abbrev o0:=orcL []
theorem ac {p:Prop} {l:List Prop} (h:p) (t:AllP l):AllP (p :: l):=AllP.cons h t
theorem an:AllP []:=AllP.nil
abbrev sh0:Sh:=(.pt true 97 (.st (.pair (.sl false 5 (.int .u8)) (.pair (.int .i64) .bool))))
abbrev sh1:Sh:=(.pt true 44 (.st (.pair (.st (.pair (.int .i64) (.pair (.int .i64) (.int .i64)))) (.sl true 80 (.st (.pair (.int .i64) (.pair (.sl true 66 (.st (.pair (.int .i64) (.int .i64)))) (.sl true 128 (.st (.pair .str .str))))))))))
abbrev sh2:Sh:=(.pt true 80 (.st (.pair (.int .i64) (.pair (.sl true 66 (.st (.pair (.int .i64) (.int .i64)))) (.sl true 128 (.st (.pair .str .str)))))))
abbrev sh3:Sh:=(.pt true 66 (.st (.pair (.int .i64) (.int .i64))))
abbrev sh4:Sh:=(.sl true 128 (.st (.pair .str .str)))
abbrev sh5:Sh:=(.st (.pair (.int .i64) (.pair (.int .i64) (.int .i64))))
abbrev sh6:Sh:=(.pt true 80 (.st (.pair (.int .i64) (.pair (.sl false 66 (.st (.pair (.int .i64) (.int .i64)))) (.sl false 128 (.st (.pair .str .str)))))))
abbrev sh7:Sh:=(.sl false 128 (.st (.pair .str .str)))
abbrev sh8:Sh:=(.st (.pair (.int .i64) (.pair (.sl false 66 (.st (.pair (.int .i64) (.int .i64)))) (.sl false 128 (.st (.pair .str .str))))))
abbrev sh9:Sh:=(.pt true 44 (.st (.pair (.st (.pair (.int .i64) (.pair (.int .i64) (.int .i64)))) (.sl false 80 (.st (.pair (.int .i64) (.pair (.sl false 66 (.st (.pair (.int .i64) (.int .i64)))) (.sl false 128 (.st (.pair .str .str))))))))))
abbrev sh10:Sh:=(.sl false 66 (.st (.pair (.int .i64) (.int .i64))))
abbrev sh11:Sh:=(.pt false 0 (.st (.pair (.int .i64) (.int .i64))))
abbrev sh12:Sh:=(.pt false 0 (.st (.pair .str .str)))
abbrev sh13:Sh:=(.st (.pair (.st (.pair (.int .i64) (.pair (.int .i64) (.int .i64)))) (.sl false 80 (.st (.pair (.int .i64) (.pair (.sl false 66 (.st (.pair (.int .i64) (.int .i64)))) (.sl false 128 (.st (.pair .str .str)))))))))
abbrev sh14:Sh:=(.st (.pair (.st (.pair (.int .i64) (.pair (.int .i64) (.int .i64)))) (.sl true 80 (.st (.pair (.int .i64) (.pair (.sl true 66 (.st (.pair (.int .i64) (.int .i64)))) (.sl true 128 (.st (.pair .str .str)))))))))
abbrev sh15:Sh:=(.pt true 104 (.st (.pair (.sl false 5 (.int .u8)) .bool)))
abbrev sh16:Sh:=(.pt true 87 (.st (.pair (.sl true 5 (.int .u8)) .unit)))
abbrev sh17:Sh:=(.pt true 128 (.st (.pair .str .str)))
abbrev sh18:Sh:=(.sl false 80 (.st (.pair (.int .i64) (.pair (.sl false 66 (.st (.pair (.int .i64) (.int .i64)))) (.sl false 128 (.st (.pair .str .str)))))))
abbrev sh19:Sh:=(.st (.pair (.int .i64) (.int .i64)))
abbrev sh20:Sh:=(.sl true 66 (.st (.pair (.int .i64) (.int .i64))))
abbrev sh21:Sh:=(.sl true 80 (.st (.pair (.int .i64) (.pair (.sl true 66 (.st (.pair (.int .i64) (.int .i64)))) (.sl true 128 (.st (.pair .str .str)))))))
def tbl:Tbl:=[⟨2,.int .i64,1,8,(.int .i64)⟩,
 ⟨3,.int .i64,1,8,(.int .i64)⟩,
 ⟨4,.bool,1,1,.bool⟩,
 ⟨5,.int .u8,1,1,(.int .u8)⟩,
 ⟨9,.string,1,16,.str⟩,
 ⟨39,.slice 5,1,24,(.sl true 5 (.int .u8))⟩,
 ⟨41,.struct [(2,0),(2,1),(2,2)],3,24,(.st (.pair (.int .i64) (.pair (.int .i64) (.int .i64))))⟩,
 ⟨42,.slice 80,1,24,(.sl true 80 (.st (.pair (.int .i64) (.pair (.sl true 66 (.st (.pair (.int .i64) (.int .i64)))) (.sl true 128 (.st (.pair .str .str)))))))⟩,
 ⟨44,.struct [(41,0),(42,3)],4,48,(.st (.pair (.st (.pair (.int .i64) (.pair (.int .i64) (.int .i64)))) (.sl true 80 (.st (.pair (.int .i64) (.pair (.sl true 66 (.st (.pair (.int .i64) (.int .i64)))) (.sl true 128 (.st (.pair .str .str)))))))))⟩,
 ⟨60,.slice 66,1,24,(.sl true 66 (.st (.pair (.int .i64) (.int .i64))))⟩,
 ⟨66,.struct [(2,0),(2,1)],2,16,(.st (.pair (.int .i64) (.int .i64)))⟩,
 ⟨78,.slice 128,1,24,(.sl true 128 (.st (.pair .str .str)))⟩,
 ⟨80,.struct [(2,0),(60,1),(78,2)],3,56,(.st (.pair (.int .i64) (.pair (.sl true 66 (.st (.pair (.int .i64) (.int .i64)))) (.sl true 128 (.st (.pair .str .str))))))⟩,
 ⟨85,.ptr 87,1,8,(.pt true 87 (.st (.pair (.sl true 5 (.int .u8)) .unit)))⟩,
 ⟨87,.struct [(39,0)],1,24,(.st (.pair (.sl true 5 (.int .u8)) .unit))⟩,
 ⟨95,.ptr 97,1,8,(.pt true 97 (.st (.pair (.sl false 5 (.int .u8)) (.pair (.int .i64) .bool))))⟩,
 ⟨97,.struct [(39,0),(3,1),(4,2)],3,40,(.st (.pair (.sl false 5 (.int .u8)) (.pair (.int .i64) .bool)))⟩,
 ⟨100,.ptr 104,1,8,(.pt true 104 (.st (.pair (.sl false 5 (.int .u8)) .bool)))⟩,
 ⟨104,.struct [(39,0),(4,1)],2,32,(.st (.pair (.sl false 5 (.int .u8)) .bool))⟩,
 ⟨108,.int .u64,1,8,(.int .u64)⟩,
 ⟨128,.struct [(9,0),(9,1)],2,32,(.st (.pair .str .str))⟩,
 ⟨130,.int .u64,1,8,(.int .u64)⟩]
theorem tok:TOk Try.prog tbl:=by unfold TOk; kernel_rfl
abbrev iS:Sh:=.int .i64
section
variable {w0:World} {Wr Zi:Fp} {N:Fr} {S S':SS} {a:Act} {w:World} {Q:Exit→Act→World→Prop} {id:Nat} {ops:Array Oper} {rest:Code} {c:List Prop}
theorem zc (orc:Nat→List TV) (l:List Nat) (h:Rel w0 Wr Zi N S a w) (hc:AllP c) (hr:∀ a w,Rel w0 Wr Zi N (regS tbl Try.prog N orc [] ops l S) a w→rest.wp Try.prog Q a w) (e:regC tbl Try.prog N orc [] ops l S=c:=by kernel_rfl):((Code.region id ops false).seq rest).wp Try.prog Q a w:=wp_reg_seq tok nw h e hc hr
theorem zd (orc:Nat→List TV) (l:List Nat) (h:Rel w0 Wr Zi N S a w) (hc:AllP c) (hr:∀ a w,Rel w0 Wr Zi N (regS tbl Try.prog N orc [] ops l S) a w→Q .normal a w) (e:regC tbl Try.prog N orc [] ops l S=c:=by kernel_rfl):(Code.region id ops false).wp Try.prog Q a w:=wp_reg tok nw h e hc hr
theorem zs (l:List Nat) (h:Rel w0 Wr Zi N S a w) (hc:AllP c) (hr:∀ a w,Rel w0 Wr Zi N (regS tbl Try.prog N o0 [] ops l S) a w→rest.wp Try.prog Q a w) (e:regC tbl Try.prog N o0 [] ops l S=c:=by kernel_rfl):((Code.region id ops false).seq rest).wp Try.prog Q a w:=wp_reg_seq tok nw h e hc hr
theorem zt (l:List Nat) (h:Rel w0 Wr Zi N S a w) (hc:AllP c) (hr:∀ a w,Rel w0 Wr Zi N (regS tbl Try.prog N o0 [] ops l S) a w→Q .normal a w) (e:regC tbl Try.prog N o0 [] ops l S=c:=by kernel_rfl):(Code.region id ops false).wp Try.prog Q a w:=wp_reg tok nw h e hc hr
theorem ar (h:Rel w0 Wr Zi N S a w) (l:List Nat) (e:arr [] l S=some S':=by kernel_rfl):Rel w0 Wr Zi N S' a w:=h.arrive nw e
theorem zi {α:Type} {t:Nat} {x y:Code} {b:Bool} {X Y:α} {r:α} (h:Rel w0 Wr Zi N S a w) (hF:(if b=true then X else Y)=r) (h1:X=r→x.wp Try.prog Q a w) (h2:Y=r→y.wp Try.prog Q a w) (hb:boolAt S t=some b:=by kernel_rfl):(Code.cond (.tmp t) x y).wp Try.prog Q a w:=wp_if h hb (fun hb => h1 (of_t hb hF)) (fun hb => h2 (of_f hb hF))
end
def f25.l22 (k:Nat) (x0:(List Int)):Nat → ((List Int) × Int)→Option (List Int)
 | 0,_ => none
 | m22+1,(v37,v38) => if (decide (v38 < (List.length x0:Int))) then (if (0≤v38∧v38 < (List.length x0:Int)) then (if (0≤v38∧v38 < (List.length v37:Int)) then ((f25.l22 k x0) m22 ((List.set v37 (Int.toNat v38) (List.getD x0 (Int.toNat v38) (0:Int))),(IntKind.i64.wrap (v38 + (1:Int))))) else none) else none) else (some v37)
def f25 (k:Nat) (x0:(List Int)):Option (List Int):=if (0 ≤ (List.length x0:Int)∧Int.toNat (List.length x0:Int)*1≤140737488355328) then (f25.l22 k x0 k ((List.replicate (Int.toNat (List.length x0:Int)) (0:Int)),(0:Int))) else none
theorem c25 (k:Nat) (x0:(List Int)) (r:(List Int)) (hF:f25 k x0=some r):PCall Try.prog 25 [⟨(.sl false 5 (.int .u8)),x0⟩] [⟨(.sl true 5 (.int .u8)),r⟩]:=by
 refine pcall_intro Try.func25 rfl rfl (Nat.le_of_ble_eq_true rfl) ?_
 intro w0 Zi a w h
 rw [f25] at hF
 refine zs [0] h an fun a w h => ?_
 obtain ⟨hc43,hF⟩:=of_if hF
 refine zs [0,3] h (ac hc43 an) fun a w h => ?_
 refine wp_seq ?_
 refine zs [0,3,4] h an fun a w h => ?_
 refine wp_block ?_
 refine wp_loop_fuel (f25.l22 k x0) (fun ((v37,v38):((List Int) × Int)) => [(0,.val (.sl false 5 (.int .u8)) x0),(3,.val (.sl true 5 (.int .u8)) v37),(4,.val iS v38)]) (fun v h => by obtain ⟨v37,v38⟩:=v; rw [f25.l22] at h; cases h) ?_ hF (ar h [0,3,4])
 intro m22 v a w hF h
 obtain ⟨v37,v38⟩:=v
 rw [f25.l22] at hF
 refine wp_seq ?_
 refine zs [0,3,4,11] h an fun a w h => ?_
 refine zi h hF (fun hF => ?_) (fun hF => ?_)
 ·refine wp_skip ?_
  refine wp_seq <| wp_block ?_
  obtain ⟨hc41,hF⟩:=of_if hF
  obtain ⟨hc42,hF⟩:=of_if hF
  refine zt [0,3,4] h (ac hc41 (ac hc42 an)) fun a w h => ?_
  refine zt [0,3,4] h an fun a w h => ?_
  exact ⟨((List.set v37 (tZ v38) (gD x0 (tZ v38) iO)),(w64 (v38 + (1:Int)))),hF,ar h [0,3,4]⟩
 ·refine wp_exit ?_
  refine zs [2,3] h an fun a w h => ?_
  cases hF
  exact wp_ret (ret_okR tok h rfl (by kernel_rfl)).1
def f58.l26 (k:Nat):Nat → (((List Int) × (Int × Bool)) × Int × Int)→Option (Int × ((List Int) × (Int × Bool)))
 | 0,_ => none
 | m26+1,(v44,v45,v46) => if (decide (v46 < (35:Int))) then (if (decide (v44.2.1 ≥ (List.length v44.1:Int))) then (some ((0:Int),(v44.1,(v44.2.1,true)))) else (if (0≤v44.2.1∧v44.2.1 < (List.length v44.1:Int)) then (if ((0:Int)≤v46) then (if (decide (((List.getD v44.1 (Int.toNat v44.2.1) (0:Int)):Int) < (128:Int))) then (some ((IntKind.i64.wrap (v45 + (IntKind.i64.wrap ((IntKind.i64.wrap (Go.bits .and .u8 (List.getD v44.1 (Int.toNat v44.2.1) (0:Int)) (127:Int)))*2 ^ (min (Int.toNat v46) IntKind.i64.bits))))),(v44.1,((IntKind.i64.wrap (v44.2.1 + (1:Int))),v44.2.2)))) else ((f58.l26 k) m26 ((v44.1,((IntKind.i64.wrap (v44.2.1 + (1:Int))),v44.2.2)),(IntKind.i64.wrap (v45 + (IntKind.i64.wrap ((IntKind.i64.wrap (Go.bits .and .u8 (List.getD v44.1 (Int.toNat v44.2.1) (0:Int)) (127:Int)))*2 ^ (min (Int.toNat v46) IntKind.i64.bits))))),(IntKind.u64.wrap (v46 + (7:Int)))))) else none) else none)) else (some ((0:Int),(v44.1,(v44.2.1,true))))
def f58 (k:Nat) (x0:((List Int) × (Int × Bool))):Option (Int × ((List Int) × (Int × Bool))):=f58.l26 k k (x0,(0:Int),(0:Int))
theorem c58 (k:Nat) (x0:((List Int) × (Int × Bool))) (r:(Int × ((List Int) × (Int × Bool)))) (hF:f58 k x0=some r):PMut Try.prog 58 [⟨sh0,some x0⟩] [⟨iS,r.1⟩] (List.set [⟨sh0,some x0⟩] 0 ⟨sh0,some r.2⟩):=by
 refine pmutO_intro (j:=0) (fin:=⟨sh0,some r.2⟩) Try.func58 rfl rfl (Nat.le_of_ble_eq_true rfl) (Nat.le_of_ble_eq_true rfl) (by kernel_rfl) (by kernel_rfl) ?_
 intro w0 Zi f0 v0 hw a w h
 rw [f58] at hF
 refine wp_reg_seq tok (orc:=o0) (fz:=[]) (l:=[0]) (.inl rfl) h (by kernel_rfl) an fun a w h => ?_
 refine wp_reg_seq tok (orc:=o0) (fz:=[]) (l:=[0,3]) (.inl rfl) h (by kernel_rfl) an fun a w h => ?_
 refine wp_seq ?_
 refine wp_reg_seq tok (orc:=o0) (fz:=[]) (l:=[0,3,4]) (.inl rfl) h (by kernel_rfl) an fun a w h => ?_
 refine wp_block ?_
 refine wp_loop_fuel (f58.l26 k) (fun ((v44,v45,v46):(((List Int) × (Int × Bool)) × Int × Int)) => [(0,.val sh0 (some v44)),(3,.val iS v45),(4,.val (.int .u64) v46)]) (fun v h => by obtain ⟨v44,v45,v46⟩:=v; rw [f58.l26] at h; cases h) ?_ hF (h.arrive (fz:=[]) (l:=[0,3,4]) (.inl rfl) (by kernel_rfl))
 intro m26 v a w hF h
 obtain ⟨v44,v45,v46⟩:=v
 rw [f58.l26] at hF
 refine wp_seq ?_
 refine wp_reg_seq tok (orc:=o0) (fz:=[]) (l:=[0,3,4,7]) (.inl rfl) h (by kernel_rfl) an fun a w h => ?_
 refine zi h hF (fun hF => ?_) (fun hF => ?_)
 ·refine wp_skip ?_
  refine wp_seq <| wp_block ?_
  refine wp_seq ?_
  refine wp_regy_seq tok (orc:=o0) (fz:=[]) (l:=[0,3,4,19]) ([],[],[],[]) 10 (.inl rfl) h (by kernel_rfl) (by kernel_rfl) an fun a w h => ?_
  refine zi h hF (fun hF => ?_) (fun hF => ?_)
  ·refine wp_reg_seq tok (orc:=o0) (fz:=[]) (l:=[0]) (.inl rfl) h (by kernel_rfl) an fun a w h => ?_
   refine wp_reg_seq tok (orc:=o0) (fz:=[]) (l:=[0,2]) (.inl rfl) h (by kernel_rfl) an fun a w h => ?_
   cases hF
   exact wp_ret (retO_ok tok h rfl (by kernel_rfl)).1
  ·refine wp_skip ?_
   obtain ⟨hc50,hF⟩:=of_if hF
   refine wp_regy_seq tok (orc:=o0) (fz:=[]) (l:=[0,3,4,5]) ([],[],[],[]) 11 (.inl rfl) h (by kernel_rfl) (by kernel_rfl) (ac hc50 an) fun a w h => ?_
   refine wp_reg_seq tok (orc:=o0) (fz:=[]) (l:=[0,3,4,5]) (.inl rfl) h (by kernel_rfl) an fun a w h => ?_
   obtain ⟨hc49,hF⟩:=of_if hF
   refine wp_reg_seq tok (orc:=o0) (fz:=[]) (l:=[0,3,4,5]) (.inl rfl) h (by kernel_rfl) (ac hc49 an) fun a w h => ?_
   refine wp_reg_seq tok (orc:=o0) (fz:=[]) (l:=[0,3,4,49]) (.inl rfl) h (by kernel_rfl) an fun a w h => ?_
   refine zi h hF (fun hF => ?_) (fun hF => ?_)
   ·refine wp_reg_seq tok (orc:=o0) (fz:=[]) (l:=[0,2]) (.inl rfl) h (by kernel_rfl) an fun a w h => ?_
    cases hF
    exact wp_ret (retO_ok tok h rfl (by kernel_rfl)).1
   ·refine wp_skip ?_
    refine wp_reg tok (orc:=o0) (fz:=[]) (l:=[0,3,4]) (.inl rfl) h (by kernel_rfl) an fun a w h => ?_
    exact ⟨((v44.1,((w64 (v44.2.1 + (1:Int))),v44.2.2)),(w64 (v45 + (w64 ((w64 (Go.bits .and .u8 (gD v44.1 (tZ v44.2.1) iO) (127:Int)))*2 ^ (min (tZ v46) IntKind.i64.bits))))),(IntKind.u64.wrap (v46 + (7:Int)))),hF,h.arrive (fz:=[]) (l:=[0,3,4]) (.inl rfl) (by kernel_rfl)⟩
 ·refine wp_exit ?_
  refine wp_reg_seq tok (orc:=o0) (fz:=[]) (l:=[0]) (.inl rfl) h (by kernel_rfl) an fun a w h => ?_
  refine wp_reg_seq tok (orc:=o0) (fz:=[]) (l:=[0,2]) (.inl rfl) h (by kernel_rfl) an fun a w h => ?_
  cases hF
  exact wp_ret (retO_ok tok h rfl (by kernel_rfl)).1
def f59 (k:Nat) (x0:((List Int) × (Int × Bool))):Option (Int × ((List Int) × (Int × Bool))):=(f58 k x0).bind fun r1 => (if (((2:Int):Int)≠0) then (if (((Int.tmod r1.1 (2:Int)):Int) == (1:Int)) then (if (((2:Int):Int)≠0) then (some ((IntKind.i64.wrap (Int.tdiv (IntKind.i64.wrap (0 - (IntKind.i64.wrap (r1.1 + (1:Int))))) (2:Int))),r1.2)) else none) else (if (((2:Int):Int)≠0) then (some ((IntKind.i64.wrap (Int.tdiv r1.1 (2:Int))),r1.2)) else none)) else none)
theorem c59 (k:Nat) (x0:((List Int) × (Int × Bool))) (r:(Int × ((List Int) × (Int × Bool)))) (hF:f59 k x0=some r):PMut Try.prog 59 [⟨sh0,some x0⟩] [⟨iS,r.1⟩] (List.set [⟨sh0,some x0⟩] 0 ⟨sh0,some r.2⟩):=by
 refine pmutO_intro (j:=0) (fin:=⟨sh0,some r.2⟩) Try.func59 rfl rfl (Nat.le_of_ble_eq_true rfl) (Nat.le_of_ble_eq_true rfl) (by kernel_rfl) (by kernel_rfl) ?_
 intro w0 Zi f0 v0 hw a w h
 rw [f59] at hF
 refine wp_reg_seq tok (orc:=o0) (fz:=[]) (l:=[0]) (.inl rfl) h (by kernel_rfl) an fun a w h => ?_
 obtain ⟨r1,hr6,hF⟩:=of_bind hF
 refine wp_reg_seq tok (orc:=orcL [(5,[⟨.pt false 4294967295 (.pt true 97 (.st (.pair (.sl false 5 (.int .u8)) (.pair iS .bool)))),some (some r1.2)⟩,⟨iS,r1.1⟩])]) (fz:=[]) (l:=[0,3]) (.inl rfl) h (by kernel_rfl) (ac (c58 k x0 r1 hr6) an) fun a w h => ?_
 refine wp_seq ?_
 obtain ⟨hc5,hF⟩:=of_if hF
 refine wp_reg_seq tok (orc:=o0) (fz:=[]) (l:=[0,3,8]) (.inl rfl) h (by kernel_rfl) (ac hc5 an) fun a w h => ?_
 refine zi h hF (fun hF => ?_) (fun hF => ?_)
 ·obtain ⟨hc3,hF⟩:=of_if hF
  refine wp_reg_seq tok (orc:=o0) (fz:=[]) (l:=[0,2]) (.inl rfl) h (by kernel_rfl) (ac hc3 an) fun a w h => ?_
  cases hF
  exact wp_ret (retO_ok tok h rfl (by kernel_rfl)).1
 ·refine wp_skip ?_
  obtain ⟨hc4,hF⟩:=of_if hF
  refine wp_reg_seq tok (orc:=o0) (fz:=[]) (l:=[0,2]) (.inl rfl) h (by kernel_rfl) (ac hc4 an) fun a w h => ?_
  cases hF
  exact wp_ret (retO_ok tok h rfl (by kernel_rfl)).1
def f83 (k:Nat) (x0:((List Int) × (Int × Bool))):Option (ByteArray × ((List Int) × (Int × Bool))):=(f58 k x0).bind fun r1 => (if (bif r1.2.2.2 then true else (decide (r1.1 > (IntKind.i64.wrap ((List.length r1.2.1:Int) - r1.2.2.1))))) then (some ((⟨#[]⟩:ByteArray),(r1.2.1,(r1.2.2.1,true)))) else (if (((0:Int) ≤ (IntKind.i64.wrap ((IntKind.i64.wrap (r1.2.2.1+r1.1)) - r1.1))) ∧ ((0:Int) ≤ (IntKind.i64.wrap (r1.2.2.1+r1.1))) ∧ (Int.toNat (IntKind.i64.wrap ((IntKind.i64.wrap (r1.2.2.1+r1.1)) - r1.1))) ≤ (Int.toNat (IntKind.i64.wrap (r1.2.2.1+r1.1))) ∧ (Int.toNat (IntKind.i64.wrap (r1.2.2.1+r1.1))) ≤ (List.length r1.2.1)) then (some ((strOfNums (List.drop (Int.toNat (IntKind.i64.wrap ((IntKind.i64.wrap (r1.2.2.1+r1.1)) - r1.1))) (List.take (Int.toNat (IntKind.i64.wrap (r1.2.2.1+r1.1))) r1.2.1))),(r1.2.1,((IntKind.i64.wrap (r1.2.2.1+r1.1)),r1.2.2.2)))) else none))
theorem c83 (k:Nat) (x0:((List Int) × (Int × Bool))) (r:(ByteArray × ((List Int) × (Int × Bool)))) (hF:f83 k x0=some r):PMut Try.prog 83 [⟨sh0,some x0⟩] [⟨.str,r.1⟩] (List.set [⟨sh0,some x0⟩] 0 ⟨sh0,some r.2⟩):=by
 refine pmutO_intro (j:=0) (fin:=⟨sh0,some r.2⟩) Try.func83 rfl rfl (Nat.le_of_ble_eq_true rfl) (Nat.le_of_ble_eq_true rfl) (by kernel_rfl) (by kernel_rfl) ?_
 intro w0 Zi f0 v0 hw a w h
 rw [f83] at hF
 refine wp_reg_seq tok (orc:=o0) (fz:=[]) (l:=[0]) (.inl rfl) h (by kernel_rfl) an fun a w h => ?_
 obtain ⟨r1,hr3,hF⟩:=of_bind hF
 refine wp_reg_seq tok (orc:=orcL [(5,[⟨.pt false 4294967295 (.pt true 97 (.st (.pair (.sl false 5 (.int .u8)) (.pair iS .bool)))),some (some r1.2)⟩,⟨iS,r1.1⟩])]) (fz:=[]) (l:=[0,3]) (.inl rfl) h (by kernel_rfl) (ac (c58 k x0 r1 hr3) an) fun a w h => ?_
 refine wp_seq ?_
 refine wp_regy_seq tok (orc:=o0) (fz:=[]) (l:=[0,3,23]) ([],[],[],[]) 18 (.inl rfl) h (by kernel_rfl) (by kernel_rfl) an fun a w h => ?_
 refine zi h hF (fun hF => ?_) (fun hF => ?_)
 ·refine wp_reg_seq tok (orc:=o0) (fz:=[]) (l:=[0]) (.inl rfl) h (by kernel_rfl) an fun a w h => ?_
  refine wp_reg_seq tok (orc:=o0) (fz:=[]) (l:=[0,2]) (.inl rfl) h (by kernel_rfl) an fun a w h => ?_
  cases hF
  exact wp_ret (retO_ok tok h rfl (by kernel_rfl)).1
 ·refine wp_skip ?_
  refine wp_reg_seq tok (orc:=o0) (fz:=[]) (l:=[0,3]) (.inl rfl) h (by kernel_rfl) an fun a w h => ?_
  obtain ⟨hc2,hF⟩:=of_if hF
  refine wp_regy_seq tok (orc:=o0) (fz:=[]) (l:=[0,2]) ([],[],[],[]) 17 (.inl rfl) h (by kernel_rfl) (by kernel_rfl) (ac hc2 an) fun a w h => ?_
  cases hF
  exact wp_ret (retO_ok tok h rfl (by kernel_rfl)).1
def f60.l45 (k:Nat):Nat → (((List Int) × (Int × Bool)) × (List (ByteArray × ByteArray)) × Int)→Option ((List (ByteArray × ByteArray)) × ((List Int) × (Int × Bool)))
 | 0,_ => none
 | m45+1,(v75,v76,v77) => if (bif (decide (v77 > (0:Int))) then (!v75.2.2) else false) then ((f83 k v75).bind fun r83 => ((f83 k r83.2).bind fun r84 => (if ((List.length v76+List.length [(r83.1,r84.1)])*32≤140737488355328) then ((f60.l45 k) m45 (r84.2,(v76 ++ [(r83.1,r84.1)]),(IntKind.i64.wrap (v77 - (1:Int))))) else none))) else (some (v76,v75))
def f60 (k:Nat) (x0:((List Int) × (Int × Bool))):Option ((List (ByteArray × ByteArray)) × ((List Int) × (Int × Bool))):=(f58 k x0).bind fun r1 => (f60.l45 k k (r1.2,([]:List (ByteArray × ByteArray)),r1.1))
theorem c60 (k:Nat) (x0:((List Int) × (Int × Bool))) (r:((List (ByteArray × ByteArray)) × ((List Int) × (Int × Bool)))) (hF:f60 k x0=some r):PMut Try.prog 60 [⟨sh0,some x0⟩] [⟨sh4,r.1⟩] (List.set [⟨sh0,some x0⟩] 0 ⟨sh0,some r.2⟩):=by
 refine pmutO_intro (j:=0) (fin:=⟨sh0,some r.2⟩) Try.func60 rfl rfl (Nat.le_of_ble_eq_true rfl) (Nat.le_of_ble_eq_true rfl) (by kernel_rfl) (by kernel_rfl) ?_
 intro w0 Zi f0 v0 hw a w h
 rw [f60] at hF
 refine wp_reg_seq tok (orc:=o0) (fz:=[]) (l:=[0]) (.inl rfl) h (by kernel_rfl) an fun a w h => ?_
 refine wp_reg_seq tok (orc:=o0) (fz:=[]) (l:=[0,3]) (.inl rfl) h (by kernel_rfl) an fun a w h => ?_
 refine wp_seq ?_
 obtain ⟨r1,hr88,hF⟩:=of_bind hF
 refine wp_reg_seq tok (orc:=orcL [(9,[⟨.pt false 4294967295 (.pt true 97 (.st (.pair (.sl false 5 (.int .u8)) (.pair iS .bool)))),some (some r1.2)⟩,⟨iS,r1.1⟩])]) (fz:=[]) (l:=[0,3,4]) (.inl rfl) h (by kernel_rfl) (ac (c58 k x0 r1 hr88) an) fun a w h => ?_
 refine wp_block ?_
 refine wp_loop_fuel (f60.l45 k) (fun ((v75,v76,v77):(((List Int) × (Int × Bool)) × (List (ByteArray × ByteArray)) × Int)) => [(0,.val sh0 (some v75)),(3,.val sh4 v76),(4,.val iS v77)]) (fun v h => by obtain ⟨v75,v76,v77⟩:=v; rw [f60.l45] at h; cases h) ?_ hF (h.arrive (fz:=[]) (l:=[0,3,4]) (.inl rfl) (by kernel_rfl))
 intro m45 v a w hF h
 obtain ⟨v75,v76,v77⟩:=v
 rw [f60.l45] at hF
 refine wp_seq ?_
 refine wp_reg_seq tok (orc:=o0) (fz:=[]) (l:=[0,3,4,18]) (.inl rfl) h (by kernel_rfl) an fun a w h => ?_
 refine zi h hF (fun hF => ?_) (fun hF => ?_)
 ·refine wp_skip ?_
  refine wp_seq <| wp_block ?_
  obtain ⟨r83,hr87,hF⟩:=of_bind hF
  refine wp_reg_seq tok (orc:=orcL [(22,[⟨.pt false 4294967295 (.pt true 97 (.st (.pair (.sl false 5 (.int .u8)) (.pair iS .bool)))),some (some r83.2)⟩,⟨.str,r83.1⟩])]) (fz:=[]) (l:=[0,3,4,5]) (.inl rfl) h (by kernel_rfl) (ac (c83 k v75 r83 hr87) an) fun a w h => ?_
  obtain ⟨r84,hr86,hF⟩:=of_bind hF
  refine wp_reg_seq tok (orc:=orcL [(24,[⟨.pt false 4294967295 (.pt true 97 (.st (.pair (.sl false 5 (.int .u8)) (.pair iS .bool)))),some (some r84.2)⟩,⟨.str,r84.1⟩])]) (fz:=[]) (l:=[0,3,4,5,6]) (.inl rfl) h (by kernel_rfl) (ac (c83 k r83.2 r84 hr86) an) fun a w h => ?_
  obtain ⟨hc85,hF⟩:=of_if hF
  refine wp_reg tok (orc:=o0) (fz:=[]) (l:=[0,3,4]) (.inl rfl) h (by kernel_rfl) (ac hc85 an) fun a w h => ?_
  refine wp_reg tok (orc:=o0) (fz:=[]) (l:=[0,3,4]) (.inl rfl) h (by kernel_rfl) an fun a w h => ?_
  exact ⟨(r84.2,(v76 ++ [(r83.1,r84.1)]),(w64 (v77 - (1:Int)))),hF,h.arrive (fz:=[]) (l:=[0,3,4]) (.inl rfl) (by kernel_rfl)⟩
 ·refine wp_exit ?_
  refine wp_reg_seq tok (orc:=o0) (fz:=[]) (l:=[0,2,3]) (.inl rfl) h (by kernel_rfl) an fun a w h => ?_
  cases hF
  exact wp_ret (retO_ok tok h rfl (by kernel_rfl)).1
def f42 (k:Nat) (x0:(Int × (Int × Int))):Option Bool:=if (bif (decide (x0.1 < (0:Int))) then true else (decide (x0.1 > (10:Int)))) then (some false) else (if ((0:Int) ≤ (IntKind.u64.wrap x0.1)) then (some (bif (bif (bif (decide (x0.2.1 ≥ (0:Int))) then (decide (x0.2.1 < (IntKind.i64.wrap ((1:Int)*2 ^ (min (Int.toNat (IntKind.u64.wrap x0.1)) IntKind.i64.bits))))) else false) then (decide (x0.2.2 ≥ (0:Int))) else false) then (decide (x0.2.2 < (IntKind.i64.wrap ((1:Int)*2 ^ (min (Int.toNat (IntKind.u64.wrap x0.1)) IntKind.i64.bits))))) else false)) else none)
theorem c42 (k:Nat) (x0:(Int × (Int × Int))) (r:Bool) (hF:f42 k x0=some r):PCall Try.prog 42 [⟨sh5,x0⟩] [⟨.bool,r⟩]:=by
 refine pcall_intro Try.func42 rfl rfl (Nat.le_of_ble_eq_true rfl) ?_
 intro w0 Zi a w h
 rw [f42] at hF
 refine zs [1] h an fun a w h => ?_
 refine wp_seq ?_
 refine zs [1,11] h an fun a w h => ?_
 refine zi h hF (fun hF => ?_) (fun hF => ?_)
 ·refine zs [2] h an fun a w h => ?_
  cases hF
  exact wp_ret (ret_okR tok h rfl (by kernel_rfl)).1
 ·refine wp_skip ?_
  obtain ⟨hc1,hF⟩:=of_if hF
  refine zs [1,3] h (ac hc1 an) fun a w h => ?_
  refine zs [2] h an fun a w h => ?_
  cases hF
  exact wp_ret (ret_okR tok h rfl (by kernel_rfl)).1
def f43.l19 (k:Nat):Nat → ((List Int) × Int)→Option (List Int)
 | 0,_ => none
 | m19+1,(v32,v33) => if (decide (v33 ≥ (128:Int))) then (if (((128:Int):Int)≠0) then (if ((List.length v32+List.length [(IntKind.u8.wrap (IntKind.i64.wrap ((Int.tmod v33 (128:Int)) + (128:Int))))])*1≤140737488355328) then (if (((128:Int):Int)≠0) then ((f43.l19 k) m19 ((v32 ++ [(IntKind.u8.wrap (IntKind.i64.wrap ((Int.tmod v33 (128:Int)) + (128:Int))))]),(IntKind.i64.wrap (Int.tdiv v33 (128:Int))))) else none) else none) else none) else (if ((List.length v32+List.length [(IntKind.u8.wrap v33)])*1≤140737488355328) then (some (v32 ++ [(IntKind.u8.wrap v33)])) else none)
def f43 (k:Nat) (x0:(List Int)) (x1:Int):Option (List Int):=f43.l19 k k (x0,x1)
theorem c43 (k:Nat) (x0:(List Int)) (x1:Int) (r:(List Int)) (hF:f43 k x0 x1=some r):PCons Try.prog 43 [⟨(.sl true 5 (.int .u8)),x0⟩,⟨iS,x1⟩] [⟨(.sl true 5 (.int .u8)),r⟩]:=by
 refine pcons_intro (j:=0) Try.func43 rfl rfl (Nat.le_of_ble_eq_true rfl) (Nat.le_of_ble_eq_true rfl) (by kernel_rfl) ?_
 intro w0 Zi f0 a w h
 rw [f43] at hF
 refine wp_reg_seq tok (orc:=o0) (fz:=[]) (l:=[0,1]) (.inl rfl) h (by kernel_rfl) an fun a w h => ?_
 refine wp_seq <| wp_block ?_
 refine wp_loop_fuel (f43.l19 k) (fun ((v32,v33):((List Int) × Int)) => [(0,.val (.sl true 5 (.int .u8)) v32),(1,.val iS v33)]) (fun v h => by obtain ⟨v32,v33⟩:=v; rw [f43.l19] at h; cases h) ?_ hF (h.arrive (fz:=[]) (l:=[0,1]) (.inl rfl) (by kernel_rfl))
 intro m19 v a w hF h
 obtain ⟨v32,v33⟩:=v
 rw [f43.l19] at hF
 refine wp_seq ?_
 refine wp_reg_seq tok (orc:=o0) (fz:=[]) (l:=[0,1,6]) (.inl rfl) h (by kernel_rfl) an fun a w h => ?_
 refine zi h hF (fun hF => ?_) (fun hF => ?_)
 ·refine wp_skip ?_
  refine wp_block ?_
  obtain ⟨hc35,hF⟩:=of_if hF
  obtain ⟨hc36,hF⟩:=of_if hF
  refine wp_reg_seq tok (orc:=o0) (fz:=[]) (l:=[0,1]) (.inl rfl) h (by kernel_rfl) (ac hc35 (ac hc36 an)) fun a w h => ?_
  obtain ⟨hc34,hF⟩:=of_if hF
  refine wp_reg tok (orc:=o0) (fz:=[]) (l:=[0,1]) (.inl rfl) h (by kernel_rfl) (ac hc34 an) fun a w h => ?_
  exact ⟨((v32 ++ [(IntKind.u8.wrap (w64 ((Int.tmod v33 (128:Int)) + (128:Int))))]),(w64 (Int.tdiv v33 (128:Int)))),hF,h.arrive (fz:=[]) (l:=[0,1]) (.inl rfl) (by kernel_rfl)⟩
 ·refine wp_exit ?_
  obtain ⟨hc37,hF⟩:=of_if hF
  refine wp_reg_seq tok (orc:=o0) (fz:=[]) (l:=[4]) (.inl rfl) h (by kernel_rfl) (ac hc37 an) fun a w h => ?_
  cases hF
  exact wp_ret (retC_ok tok h rfl (by kernel_rfl)).1
def f77 (k:Nat) (x0:Int):Option Bool:=some (bif (decide (x0 ≥ (1:Int))) then (decide (x0 ≤ (1000000000:Int))) else false)
theorem c77 (k:Nat) (x0:Int) (r:Bool) (hF:f77 k x0=some r):PCall Try.prog 77 [⟨iS,x0⟩] [⟨.bool,r⟩]:=by
 refine pcall_intro Try.func77 rfl rfl (Nat.le_of_ble_eq_true rfl) ?_
 intro w0 Zi a w h
 rw [f77] at hF
 refine zs [0] h an fun a w h => ?_
 refine zs [2] h an fun a w h => ?_
 cases hF
 exact wp_ret (ret_okR tok h rfl (by kernel_rfl)).1
def f97.l12 (k:Nat) (x0:ByteArray):Nat→Int→Option Bool
 | 0,_ => none
 | m12+1,v20 => if (decide (v20 < (ByteArray.size x0:Int))) then (if ((0:Int)≤v20∧v20 < (ByteArray.size x0:Int)) then (if (!(bif (bif (bif (bif (decide (((byteAt x0 v20):Int) ≥ (97:Int))) then (decide (((byteAt x0 v20):Int) ≤ (122:Int))) else false) then true else (bif (decide (((byteAt x0 v20):Int) ≥ (48:Int))) then (decide (((byteAt x0 v20):Int) ≤ (57:Int))) else false)) then true else (((byteAt x0 v20):Int) == (58:Int))) then true else (((byteAt x0 v20):Int) == (95:Int)))) then (some false) else ((f97.l12 k x0) m12 (IntKind.i64.wrap (v20 + (1:Int))))) else none) else (some (bif (decide (((ByteArray.size x0:Int):Int) ≥ (1:Int))) then (decide (((ByteArray.size x0:Int):Int) ≤ (40:Int))) else false))
def f97 (k:Nat) (x0:ByteArray):Option Bool:=f97.l12 k x0 k (0:Int)
theorem c97 (k:Nat) (x0:ByteArray) (r:Bool) (hF:f97 k x0=some r):PCall Try.prog 97 [⟨.str,x0⟩] [⟨.bool,r⟩]:=by
 refine pcall_intro Try.func97 rfl rfl (Nat.le_of_ble_eq_true rfl) ?_
 intro w0 Zi a w h
 rw [f97] at hF
 refine zs [0] h an fun a w h => ?_
 refine wp_seq ?_
 refine zs [0,3] h an fun a w h => ?_
 refine wp_block ?_
 refine wp_loop_fuel (f97.l12 k x0) (fun v20 => [(0,.val .str x0),(3,.val iS v20)]) (fun v h => by rw [f97.l12] at h; cases h) ?_ hF (ar h [0,3])
 intro m12 v20 a w hF h
 rw [f97.l12] at hF
 refine wp_seq ?_
 refine zs [0,3,8] h an fun a w h => ?_
 refine zi h hF (fun hF => ?_) (fun hF => ?_)
 ·refine wp_skip ?_
  refine wp_seq <| wp_block ?_
  obtain ⟨hc22,hF⟩:=of_if hF
  refine zs [0,3,4] h (ac hc22 an) fun a w h => ?_
  refine zs [0,3,36] h an fun a w h => ?_
  refine zi h hF (fun hF => ?_) (fun hF => ?_)
  ·refine zs [2] h an fun a w h => ?_
   cases hF
   exact wp_ret (ret_okR tok h rfl (by kernel_rfl)).1
  ·refine wp_skip ?_
   refine zt [0,3] h an fun a w h => ?_
   exact ⟨(w64 (v20 + (1:Int))),hF,ar h [0,3]⟩
 ·refine wp_exit ?_
  refine zs [2] h an fun a w h => ?_
  cases hF
  exact wp_ret (ret_okR tok h rfl (by kernel_rfl)).1
def f98.l18 (k:Nat) (x0:ByteArray):Nat→Int→Option Bool
 | 0,_ => none
 | m18+1,v30 => if (decide (v30 < (ByteArray.size x0:Int))) then (if ((0:Int)≤v30∧v30 < (ByteArray.size x0:Int)) then (if (((decide (((byteAt x0 v30):Int) < (32:Int)))=false) → ((0:Int)≤v30∧v30 < (ByteArray.size x0:Int))) then (if (bif (decide (((byteAt x0 v30):Int) < (32:Int))) then true else (decide (((byteAt x0 v30):Int) > (126:Int)))) then (some false) else ((f98.l18 k x0) m18 (IntKind.i64.wrap (v30 + (1:Int))))) else none) else none) else (some (bif (decide (((ByteArray.size x0:Int):Int) ≥ (1:Int))) then (decide (((ByteArray.size x0:Int):Int) ≤ (100:Int))) else false))
def f98 (k:Nat) (x0:ByteArray):Option Bool:=f98.l18 k x0 k (0:Int)
theorem c98 (k:Nat) (x0:ByteArray) (r:Bool) (hF:f98 k x0=some r):PCall Try.prog 98 [⟨.str,x0⟩] [⟨.bool,r⟩]:=by
 refine pcall_intro Try.func98 rfl rfl (Nat.le_of_ble_eq_true rfl) ?_
 intro w0 Zi a w h
 rw [f98] at hF
 refine zs [0] h an fun a w h => ?_
 refine wp_seq ?_
 refine zs [0,3] h an fun a w h => ?_
 refine wp_block ?_
 refine wp_loop_fuel (f98.l18 k x0) (fun v30 => [(0,.val .str x0),(3,.val iS v30)]) (fun v h => by rw [f98.l18] at h; cases h) ?_ hF (ar h [0,3])
 intro m18 v30 a w hF h
 rw [f98.l18] at hF
 refine wp_seq ?_
 refine zs [0,3,7] h an fun a w h => ?_
 refine zi h hF (fun hF => ?_) (fun hF => ?_)
 ·refine wp_skip ?_
  refine wp_seq <| wp_block ?_
  obtain ⟨hc33,hF⟩:=of_if hF
  obtain ⟨hc34,hF⟩:=of_if hF
  refine zs [0,3,19] h (ac hc33 (ac hc34 an)) fun a w h => ?_
  refine zi h hF (fun hF => ?_) (fun hF => ?_)
  ·refine zs [2] h an fun a w h => ?_
   cases hF
   exact wp_ret (ret_okR tok h rfl (by kernel_rfl)).1
  ·refine wp_skip ?_
   refine zt [0,3] h an fun a w h => ?_
   exact ⟨(w64 (v30 + (1:Int))),hF,ar h [0,3]⟩
 ·refine wp_exit ?_
  refine zs [2] h an fun a w h => ?_
  cases hF
  exact wp_ret (ret_okR tok h rfl (by kernel_rfl)).1
def f78.l54 (k:Nat) (x0:(List (ByteArray × ByteArray))):Nat→Int→Option Bool
 | 0,_ => none
 | m54+1,v90 => if (bif (decide (v90 < (List.length x0:Int))) then (decide (((List.length x0:Int):Int) ≤ (30:Int))) else false) then (if (0≤v90∧v90 < (List.length x0:Int)) then ((f97 k (List.getD x0 (Int.toNat v90) ((⟨#[]⟩:ByteArray),(⟨#[]⟩:ByteArray))).1).bind fun r99 => (if (((!r99)=false) → (0≤v90∧v90 < (List.length x0:Int))) then ((if ((!r99)=false) then f98 k (List.getD x0 (Int.toNat v90) ((⟨#[]⟩:ByteArray),(⟨#[]⟩:ByteArray))).2 else some default).bind fun r100 => (if ((((bif (!r99) then true else (!r100))=false) ∧ ((decide (v90 > (0:Int)))=true)) → (0 ≤ (IntKind.i64.wrap (v90 - (1:Int))) ∧ (IntKind.i64.wrap (v90 - (1:Int))) < (List.length x0:Int))) then (if ((((bif (!r99) then true else (!r100))=false) ∧ ((decide (v90 > (0:Int)))=true)) → (0≤v90∧v90 < (List.length x0:Int))) then (if (bif (bif (!r99) then true else (!r100)) then true else (bif (decide (v90 > (0:Int))) then (!(Op.bytesLess (ByteArray.toList (List.getD x0 (Int.toNat (IntKind.i64.wrap (v90 - (1:Int)))) ((⟨#[]⟩:ByteArray),(⟨#[]⟩:ByteArray))).1) (ByteArray.toList (List.getD x0 (Int.toNat v90) ((⟨#[]⟩:ByteArray),(⟨#[]⟩:ByteArray))).1))) else false)) then (some false) else ((f78.l54 k x0) m54 (IntKind.i64.wrap (v90 + (1:Int))))) else none) else none)) else none)) else none) else (some (decide (((List.length x0:Int):Int) ≤ (30:Int))))
def f78 (k:Nat) (x0:(List (ByteArray × ByteArray))):Option Bool:=f78.l54 k x0 k (0:Int)
theorem c78 (k:Nat) (x0:(List (ByteArray × ByteArray))) (r:Bool) (hF:f78 k x0=some r):PCall Try.prog 78 [⟨sh7,x0⟩] [⟨.bool,r⟩]:=by
 refine pcall_intro Try.func78 rfl rfl (Nat.le_of_ble_eq_true rfl) ?_
 intro w0 Zi a w h
 rw [f78] at hF
 refine zs [0] h an fun a w h => ?_
 refine wp_seq ?_
 refine zs [0,3] h an fun a w h => ?_
 refine wp_block ?_
 refine wp_loop_fuel (f78.l54 k x0) (fun v90 => [(0,.val sh7 x0),(3,.val iS v90)]) (fun v h => by rw [f78.l54] at h; cases h) ?_ hF (ar h [0,3])
 intro m54 v90 a w hF h
 rw [f78.l54] at hF
 refine wp_seq ?_
 refine zs [0,3,12] h an fun a w h => ?_
 refine zi h hF (fun hF => ?_) (fun hF => ?_)
 ·refine wp_skip ?_
  refine wp_seq <| wp_block ?_
  obtain ⟨hc101,hF⟩:=of_if hF
  obtain ⟨r99,hr102,hF⟩:=of_bind hF
  obtain ⟨hc103,hF⟩:=of_if hF
  obtain ⟨r100,hr104,hF⟩:=of_bind hF
  obtain ⟨hc105,hF⟩:=of_if hF
  obtain ⟨hc106,hF⟩:=of_if hF
  refine wp_regy_seq tok (orc:=orcL [(20,[⟨.bool,r99⟩]),(28,[⟨.bool,r100⟩])]) (l:=[0,3,48]) ([],[],[],[]) 34 nw h (by kernel_rfl) (by kernel_rfl) (ac hc101 (ac (c97 k (gD x0 (tZ v90) ((⟨#[]⟩:ByteArray),(⟨#[]⟩:ByteArray))).1 r99 hr102) (ac hc103 (ac (fun (hg:((!r99)=false)) => c98 k (gD x0 (tZ v90) ((⟨#[]⟩:ByteArray),(⟨#[]⟩:ByteArray))).2 r100 (of_g hg hr104)) (ac hc105 (ac hc106 an)))))) fun a w h => ?_
  refine zi h hF (fun hF => ?_) (fun hF => ?_)
  ·refine zs [2] h an fun a w h => ?_
   cases hF
   exact wp_ret (ret_okR tok h rfl (by kernel_rfl)).1
  ·refine wp_skip ?_
   refine zt [0,3] h an fun a w h => ?_
   exact ⟨(w64 (v90 + (1:Int))),hF,ar h [0,3]⟩
 ·refine wp_exit ?_
  refine zs [2] h an fun a w h => ?_
  cases hF
  exact wp_ret (ret_okR tok h rfl (by kernel_rfl)).1
def f44.l12 (k:Nat) (x0:(Int × ((List (Int × Int)) × (List (ByteArray × ByteArray))))):Nat→Int→Option Bool
 | 0,_ => none
 | m12+1,v20 => if (decide (v20 < (List.length x0.2.1:Int))) then (if (0≤v20∧v20 < (List.length x0.2.1:Int)) then (if (bif (bif (bif (decide (((List.getD x0.2.1 (Int.toNat v20) ((0:Int),(0:Int))).1:Int) < (0:Int))) then true else (decide (((List.getD x0.2.1 (Int.toNat v20) ((0:Int),(0:Int))).1:Int) > (4096:Int)))) then true else (decide (((List.getD x0.2.1 (Int.toNat v20) ((0:Int),(0:Int))).2:Int) < (0:Int)))) then true else (decide (((List.getD x0.2.1 (Int.toNat v20) ((0:Int),(0:Int))).2:Int) > (4096:Int)))) then (some false) else ((f44.l12 k x0) m12 (IntKind.i64.wrap (v20 + (1:Int))))) else none) else ((f77 k x0.1).bind fun r23 => ((if ((bif r23 then (decide (((List.length x0.2.1:Int):Int) ≤ (2000:Int))) else false)=true) then f78 k x0.2.2 else some default).bind fun r24 => (some (bif (bif r23 then (decide (((List.length x0.2.1:Int):Int) ≤ (2000:Int))) else false) then r24 else false))))
def f44 (k:Nat) (x0:(Int × ((List (Int × Int)) × (List (ByteArray × ByteArray))))):Option Bool:=f44.l12 k x0 k (0:Int)
theorem c44 (k:Nat) (x0:(Int × ((List (Int × Int)) × (List (ByteArray × ByteArray))))) (r:Bool) (hF:f44 k x0=some r):PCall Try.prog 44 [⟨sh8,x0⟩] [⟨.bool,r⟩]:=by
 refine pcall_intro Try.func44 rfl rfl (Nat.le_of_ble_eq_true rfl) ?_
 intro w0 Zi a w h
 rw [f44] at hF
 refine zs [1] h an fun a w h => ?_
 refine wp_seq ?_
 refine zs [1,3] h an fun a w h => ?_
 refine wp_block ?_
 refine wp_loop_fuel (f44.l12 k x0) (fun v20 => [(1,.val sh6 (some x0)),(3,.val iS v20)]) (fun v h => by rw [f44.l12] at h; cases h) ?_ hF (ar h [1,3])
 intro m12 v20 a w hF h
 rw [f44.l12] at hF
 refine wp_seq ?_
 refine zs [1,3,9] h an fun a w h => ?_
 refine zi h hF (fun hF => ?_) (fun hF => ?_)
 ·refine wp_skip ?_
  refine wp_seq <| wp_block ?_
  obtain ⟨hc22,hF⟩:=of_if hF
  refine zs [1,3,4] h (ac hc22 an) fun a w h => ?_
  refine zs [1,3,34] h an fun a w h => ?_
  refine zi h hF (fun hF => ?_) (fun hF => ?_)
  ·refine zs [2] h an fun a w h => ?_
   cases hF
   exact wp_ret (ret_okR tok h rfl (by kernel_rfl)).1
  ·refine wp_skip ?_
   refine zt [1,3] h an fun a w h => ?_
   exact ⟨(w64 (v20 + (1:Int))),hF,ar h [1,3]⟩
 ·refine wp_exit ?_
  obtain ⟨r23,hr25,hF⟩:=of_bind hF
  obtain ⟨r24,hr26,hF⟩:=of_bind hF
  refine zc (orcL [(37,[⟨.bool,r23⟩]),(47,[⟨.bool,r24⟩])]) [2] h (ac (c77 k x0.1 r23 hr25) (ac (fun (hg:((bif r23 then (decide (((List.length x0.2.1:Int):Int) ≤ (2000:Int))) else false)=true)) => c78 k x0.2.2 r24 (of_g hg hr26)) an)) fun a w h => ?_
  cases hF
  exact wp_ret (ret_okR tok h rfl (by kernel_rfl)).1
def f45 (k:Nat) (x0:(List Int)) (x1:Int):Option (List Int):=if (decide (x1 < (0:Int))) then ((f43 k x0 (IntKind.i64.wrap ((IntKind.i64.wrap ((-2:Int)*x1)) - (1:Int)))).bind fun r3 => (some r3)) else ((f43 k x0 (IntKind.i64.wrap ((2:Int)*x1))).bind fun r5 => (some r5))
theorem c45 (k:Nat) (x0:(List Int)) (x1:Int) (r:(List Int)) (hF:f45 k x0 x1=some r):PCons Try.prog 45 [⟨(.sl true 5 (.int .u8)),x0⟩,⟨iS,x1⟩] [⟨(.sl true 5 (.int .u8)),r⟩]:=by
 refine pcons_intro (j:=0) Try.func45 rfl rfl (Nat.le_of_ble_eq_true rfl) (Nat.le_of_ble_eq_true rfl) (by kernel_rfl) ?_
 intro w0 Zi f0 a w h
 rw [f45] at hF
 refine wp_reg_seq tok (orc:=o0) (fz:=[]) (l:=[0,1]) (.inl rfl) h (by kernel_rfl) an fun a w h => ?_
 refine wp_seq ?_
 refine wp_reg_seq tok (orc:=o0) (fz:=[]) (l:=[0,1,6]) (.inl rfl) h (by kernel_rfl) an fun a w h => ?_
 refine zi h hF (fun hF => ?_) (fun hF => ?_)
 ·obtain ⟨r3,hr4,hF⟩:=of_bind hF
  refine wp_reg_seq tok (orc:=orcL [(11,[⟨.pt false 4294967294 .unit,some ()⟩,⟨(.sl true 5 (.int .u8)),r3⟩])]) (fz:=[]) (l:=[4]) (.inl rfl) h (by kernel_rfl) (ac (c43 k x0 (w64 ((w64 ((-2:Int)*x1)) - (1:Int))) r3 hr4) an) fun a w h => ?_
  cases hF
  exact wp_ret (retC_ok tok h rfl (by kernel_rfl)).1
 ·refine wp_skip ?_
  obtain ⟨r5,hr6,hF⟩:=of_bind hF
  refine wp_reg_seq tok (orc:=orcL [(15,[⟨.pt false 4294967294 .unit,some ()⟩,⟨(.sl true 5 (.int .u8)),r5⟩])]) (fz:=[]) (l:=[4]) (.inl rfl) h (by kernel_rfl) (ac (c43 k x0 (w64 ((2:Int)*x1)) r5 hr6) an) fun a w h => ?_
  cases hF
  exact wp_ret (retC_ok tok h rfl (by kernel_rfl)).1
def f46.l71 (k:Nat) (x1:(List (ByteArray × ByteArray))):Nat → ((List Int) × Int)→Option (List Int)
 | 0,_ => none
 | m71+1,(v118,v119) => if (decide (v119 < (List.length x1:Int))) then (if (0≤v119∧v119 < (List.length x1:Int)) then ((f43 k v118 (ByteArray.size (List.getD x1 (Int.toNat v119) ((⟨#[]⟩:ByteArray),(⟨#[]⟩:ByteArray))).1:Int)).bind fun r130 => (if (0≤v119∧v119 < (List.length x1:Int)) then (if (List.length r130+ByteArray.size (List.getD x1 (Int.toNat v119) ((⟨#[]⟩:ByteArray),(⟨#[]⟩:ByteArray))).1≤140737488355328) then (if (0≤v119∧v119 < (List.length x1:Int)) then ((f43 k (r130 ++ (strNums (List.getD x1 (Int.toNat v119) ((⟨#[]⟩:ByteArray),(⟨#[]⟩:ByteArray))).1)) (ByteArray.size (List.getD x1 (Int.toNat v119) ((⟨#[]⟩:ByteArray),(⟨#[]⟩:ByteArray))).2:Int)).bind fun r131 => (if (0≤v119∧v119 < (List.length x1:Int)) then (if (List.length r131+ByteArray.size (List.getD x1 (Int.toNat v119) ((⟨#[]⟩:ByteArray),(⟨#[]⟩:ByteArray))).2≤140737488355328) then ((f46.l71 k x1) m71 ((r131 ++ (strNums (List.getD x1 (Int.toNat v119) ((⟨#[]⟩:ByteArray),(⟨#[]⟩:ByteArray))).2)),(IntKind.i64.wrap (v119 + (1:Int))))) else none) else none)) else none) else none) else none)) else none) else (some v118)
def f46 (k:Nat) (x0:(List Int)) (x1:(List (ByteArray × ByteArray))):Option (List Int):=(f43 k x0 (List.length x1:Int)).bind fun r1 => (f46.l71 k x1 k (r1,(0:Int)))
theorem c46 (k:Nat) (x0:(List Int)) (x1:(List (ByteArray × ByteArray))) (r:(List Int)) (hF:f46 k x0 x1=some r):PCons Try.prog 46 [⟨(.sl true 5 (.int .u8)),x0⟩,⟨sh7,x1⟩] [⟨(.sl true 5 (.int .u8)),r⟩]:=by
 refine pcons_intro (j:=0) Try.func46 rfl rfl (Nat.le_of_ble_eq_true rfl) (Nat.le_of_ble_eq_true rfl) (by kernel_rfl) ?_
 intro w0 Zi f0 a w h
 rw [f46] at hF
 refine wp_reg_seq tok (orc:=o0) (fz:=[]) (l:=[0,1]) (.inl rfl) h (by kernel_rfl) an fun a w h => ?_
 obtain ⟨r1,hr140,hF⟩:=of_bind hF
 refine wp_reg_seq tok (orc:=orcL [(9,[⟨.pt false 4294967294 .unit,some ()⟩,⟨(.sl true 5 (.int .u8)),r1⟩])]) (fz:=[]) (l:=[0,1]) (.inl rfl) h (by kernel_rfl) (ac (c43 k x0 (List.length x1:Int) r1 hr140) an) fun a w h => ?_
 refine wp_seq ?_
 refine wp_reg_seq tok (orc:=o0) (fz:=[]) (l:=[0,1,5]) (.inl rfl) h (by kernel_rfl) an fun a w h => ?_
 refine wp_block ?_
 refine wp_loop_fuel (f46.l71 k x1) (fun ((v118,v119):((List Int) × Int)) => [(0,.val (.sl true 5 (.int .u8)) v118),(1,.val sh7 x1),(5,.val iS v119)]) (fun v h => by obtain ⟨v118,v119⟩:=v; rw [f46.l71] at h; cases h) ?_ hF (h.arrive (fz:=[]) (l:=[0,1,5]) (.inl rfl) (by kernel_rfl))
 intro m71 v a w hF h
 obtain ⟨v118,v119⟩:=v
 rw [f46.l71] at hF
 refine wp_seq ?_
 refine wp_reg_seq tok (orc:=o0) (fz:=[]) (l:=[0,1,5,13]) (.inl rfl) h (by kernel_rfl) an fun a w h => ?_
 refine zi h hF (fun hF => ?_) (fun hF => ?_)
 ·refine wp_skip ?_
  refine wp_seq <| wp_block ?_
  obtain ⟨hc136,hF⟩:=of_if hF
  obtain ⟨r130,hr137,hF⟩:=of_bind hF
  obtain ⟨hc138,hF⟩:=of_if hF
  obtain ⟨hc139,hF⟩:=of_if hF
  refine wp_regX_seq (sxB_ok tok [(13,.appv)] (sxA_ok tok (orc:=orcL [(23,[⟨.pt false 4294967294 .unit,some ()⟩,⟨(.sl true 5 (.int .u8)),r130⟩])]) (spA:=[]) (sp:=[]))) [((0,.val (.sl true 5 (.int .u8)) v118),none,some 7),((0,.val (.sl true 5 (.int .u8)) (r130 ++ (strNums (gD x1 (tZ v119) ((⟨#[]⟩:ByteArray),(⟨#[]⟩:ByteArray))).1))),some 14,none),((1,.val sh7 x1),none,none),((5,.val iS v119),none,none),((13,.val .bool (decide (v119 < (List.length x1:Int)))),none,some 14),((16,.copy 0 []),some 0,some 7),((17,.val sh7 x1),some 1,some 14),((18,.val iS v119),some 2,some 14),((19,.val sh12 (some (gD x1 (tZ v119) ((⟨#[]⟩:ByteArray),(⟨#[]⟩:ByteArray))))),some 3,some 14),((20,.val (.pt false 0 .str) (some (gD x1 (tZ v119) ((⟨#[]⟩:ByteArray),(⟨#[]⟩:ByteArray))).1)),some 4,some 14),((21,.val .str (gD x1 (tZ v119) ((⟨#[]⟩:ByteArray),(⟨#[]⟩:ByteArray))).1),some 5,some 14),((22,.val iS (ByteArray.size (gD x1 (tZ v119) ((⟨#[]⟩:ByteArray),(⟨#[]⟩:ByteArray))).1:Int)),some 6,some 14),((23,.val (.sl true 5 (.int .u8)) r130),some 7,some 13),((24,.val sh7 x1),some 8,some 14),((25,.val iS v119),some 9,some 14),((26,.val sh12 (some (gD x1 (tZ v119) ((⟨#[]⟩:ByteArray),(⟨#[]⟩:ByteArray))))),some 10,some 14),((27,.val (.pt false 0 .str) (some (gD x1 (tZ v119) ((⟨#[]⟩:ByteArray),(⟨#[]⟩:ByteArray))).1)),some 11,some 14),((28,.val .str (gD x1 (tZ v119) ((⟨#[]⟩:ByteArray),(⟨#[]⟩:ByteArray))).1),some 12,some 14),((29,.val (.sl true 5 (.int .u8)) (r130 ++ (strNums (gD x1 (tZ v119) ((⟨#[]⟩:ByteArray),(⟨#[]⟩:ByteArray))).1))),some 13,some 14)] [] [0,1,3,7,263,775,783,1799,799,3847,831,1823,3855,7943,895,1855,3871,7951,1023,1919,3903,7967,2047,3967,7999,4095,8063,8191,16383,32767] 32767 [(3,0,1),(7,1,1),(10,2,1),(13,3,1)] h (by kernel_rfl) (by kernel_rfl) (by kernel_rfl) (ac hc136 (ac (c43 k v118 (ByteArray.size (gD x1 (tZ v119) ((⟨#[]⟩:ByteArray),(⟨#[]⟩:ByteArray))).1:Int) r130 hr137) (ac hc138 (ac hc139 an)))) (fun _ _ _ _ _ h => h) fun a w h => ?_
  obtain ⟨hc132,hF⟩:=of_if hF
  obtain ⟨r131,hr133,hF⟩:=of_bind hF
  obtain ⟨hc134,hF⟩:=of_if hF
  obtain ⟨hc135,hF⟩:=of_if hF
  refine wp_regX (sxB_ok tok [(13,.appv)] (sxA_ok tok (orc:=orcL [(37,[⟨.pt false 4294967294 .unit,some ()⟩,⟨(.sl true 5 (.int .u8)),r131⟩])]) (spA:=[]) (sp:=[]))) [((0,.val (.sl true 5 (.int .u8)) (r130 ++ (strNums (gD x1 (tZ v119) ((⟨#[]⟩:ByteArray),(⟨#[]⟩:ByteArray))).1))),none,some 7),((0,.val (.sl true 5 (.int .u8)) (r131 ++ (strNums (gD x1 (tZ v119) ((⟨#[]⟩:ByteArray),(⟨#[]⟩:ByteArray))).2))),some 14,none),((1,.val sh7 x1),none,none),((5,.val iS v119),none,none),((30,.copy 0 []),some 0,some 7),((31,.val sh7 x1),some 1,some 14),((32,.val iS v119),some 2,some 14),((33,.val sh12 (some (gD x1 (tZ v119) ((⟨#[]⟩:ByteArray),(⟨#[]⟩:ByteArray))))),some 3,some 14),((34,.val (.pt false 0 .str) (some (gD x1 (tZ v119) ((⟨#[]⟩:ByteArray),(⟨#[]⟩:ByteArray))).2)),some 4,some 14),((35,.val .str (gD x1 (tZ v119) ((⟨#[]⟩:ByteArray),(⟨#[]⟩:ByteArray))).2),some 5,some 14),((36,.val iS (ByteArray.size (gD x1 (tZ v119) ((⟨#[]⟩:ByteArray),(⟨#[]⟩:ByteArray))).2:Int)),some 6,some 14),((37,.val (.sl true 5 (.int .u8)) r131),some 7,some 13),((38,.val sh7 x1),some 8,some 14),((39,.val iS v119),some 9,some 14),((40,.val sh12 (some (gD x1 (tZ v119) ((⟨#[]⟩:ByteArray),(⟨#[]⟩:ByteArray))))),some 10,some 14),((41,.val (.pt false 0 .str) (some (gD x1 (tZ v119) ((⟨#[]⟩:ByteArray),(⟨#[]⟩:ByteArray))).2)),some 11,some 14),((42,.val .str (gD x1 (tZ v119) ((⟨#[]⟩:ByteArray),(⟨#[]⟩:ByteArray))).2),some 12,some 14),((43,.val (.sl true 5 (.int .u8)) (r131 ++ (strNums (gD x1 (tZ v119) ((⟨#[]⟩:ByteArray),(⟨#[]⟩:ByteArray))).2))),some 13,some 14)] [] [0,1,3,7,263,775,783,1799,799,3847,831,1823,3855,7943,895,1855,3871,7951,1023,1919,3903,7967,2047,3967,7999,4095,8063,8191,16383,32767] 32767 [(3,0,1),(7,1,1),(10,2,1),(13,3,1)] h (by kernel_rfl) (by kernel_rfl) (by kernel_rfl) (ac hc132 (ac (c43 k (r130 ++ (strNums (gD x1 (tZ v119) ((⟨#[]⟩:ByteArray),(⟨#[]⟩:ByteArray))).1)) (ByteArray.size (gD x1 (tZ v119) ((⟨#[]⟩:ByteArray),(⟨#[]⟩:ByteArray))).2:Int) r131 hr133) (ac hc134 (ac hc135 an)))) (fun _ _ _ _ _ h => h) fun a w h => ?_
  refine wp_reg tok (orc:=o0) (fz:=[]) (l:=[0,1,5]) (.inl rfl) h (by kernel_rfl) an fun a w h => ?_
  exact ⟨((r131 ++ (strNums (gD x1 (tZ v119) ((⟨#[]⟩:ByteArray),(⟨#[]⟩:ByteArray))).2)),(w64 (v119 + (1:Int)))),hF,h.arrive (fz:=[]) (l:=[0,1,5]) (.inl rfl) (by kernel_rfl)⟩
 ·refine wp_exit ?_
  refine wp_reg_seq tok (orc:=o0) (fz:=[]) (l:=[0,4]) (.inl rfl) h (by kernel_rfl) an fun a w h => ?_
  cases hF
  exact wp_ret (retC_ok tok h rfl (by kernel_rfl)).1
def f16.l1391 (k:Nat) (x0:((Int × (Int × Int)) × (List (Int × ((List (Int × Int)) × (List (ByteArray × ByteArray))))))) (v1213:Int) (q729:((List Int) × Int)→Option (List Int)):Nat → ((List Int) × (Int × Int) × Int)→Option (List Int)
 | 0,_ => none
 | m1391+1,(v1429,v1430,v1431) => if (decide (v1431 < (List.length (List.getD x0.2 (Int.toNat v1213) ((0:Int),(([]:(List (Int × Int))),([]:(List (ByteArray × ByteArray)))))).2.1:Int))) then (if (0≤v1431∧v1431 < (List.length (List.getD x0.2 (Int.toNat v1213) ((0:Int),(([]:(List (Int × Int))),([]:(List (ByteArray × ByteArray)))))).2.1:Int)) then ((f45 k v1429 (IntKind.i64.wrap ((List.getD (List.getD x0.2 (Int.toNat v1213) ((0:Int),(([]:(List (Int × Int))),([]:(List (ByteArray × ByteArray)))))).2.1 (Int.toNat v1431) ((0:Int),(0:Int))).1 - v1430.1))).bind fun r1439 => (if (0≤v1431∧v1431 < (List.length (List.getD x0.2 (Int.toNat v1213) ((0:Int),(([]:(List (Int × Int))),([]:(List (ByteArray × ByteArray)))))).2.1:Int)) then ((f45 k r1439 (IntKind.i64.wrap ((List.getD (List.getD x0.2 (Int.toNat v1213) ((0:Int),(([]:(List (Int × Int))),([]:(List (ByteArray × ByteArray)))))).2.1 (Int.toNat v1431) ((0:Int),(0:Int))).2 - v1430.2))).bind fun r1440 => (if (0≤v1431∧v1431 < (List.length (List.getD x0.2 (Int.toNat v1213) ((0:Int),(([]:(List (Int × Int))),([]:(List (ByteArray × ByteArray)))))).2.1:Int)) then ((f16.l1391 k x0 v1213 q729) m1391 (r1440,(List.getD (List.getD x0.2 (Int.toNat v1213) ((0:Int),(([]:(List (Int × Int))),([]:(List (ByteArray × ByteArray)))))).2.1 (Int.toNat v1431) ((0:Int),(0:Int))),(IntKind.i64.wrap (v1431 + (1:Int))))) else none)) else none)) else none) else ((f46 k v1429 (List.getD x0.2 (Int.toNat v1213) ((0:Int),(([]:(List (Int × Int))),([]:(List (ByteArray × ByteArray)))))).2.2).bind fun r1446 => (q729 (r1446,(IntKind.i64.wrap (v1213 + (1:Int))))))
def f16.l729 (k:Nat) (x0:((Int × (Int × Int)) × (List (Int × ((List (Int × Int)) × (List (ByteArray × ByteArray))))))):Nat → ((List Int) × Int)→Option (List Int)
 | 0,_ => none
 | m729+1,(v1212,v1213) => if (decide (v1213 < (List.length x0.2:Int))) then (if (0≤v1213∧v1213 < (List.length x0.2:Int)) then ((f44 k (List.getD x0.2 (Int.toNat v1213) ((0:Int),(([]:(List (Int × Int))),([]:(List (ByteArray × ByteArray))))))).bind fun r1333 => (if (!r1333) then (some ([]:List Int)) else ((f43 k v1212 (List.getD x0.2 (Int.toNat v1213) ((0:Int),(([]:(List (Int × Int))),([]:(List (ByteArray × ByteArray)))))).1).bind fun r1334 => ((f43 k r1334 (List.length (List.getD x0.2 (Int.toNat v1213) ((0:Int),(([]:(List (Int × Int))),([]:(List (ByteArray × ByteArray)))))).2.1:Int)).bind fun r1335 => (f16.l1391 k x0 v1213 ((f16.l729 k x0) m729) k (r1335,((0:Int),(0:Int)),(0:Int))))))) else none) else (some v1212)
def f16 (k:Nat) (x0:((Int × (Int × Int)) × (List (Int × ((List (Int × Int)) × (List (ByteArray × ByteArray))))))):Option (List Int):=(f42 k x0.1).bind fun r1 => (if (bif (!r1) then true else (decide (((List.length x0.2:Int):Int) > (2000:Int)))) then (some ([]:List Int)) else (if (0 < List.length [(87:Int),(77:Int),(84:Int),(49:Int)]) then ((f43 k [(87:Int),(77:Int),(84:Int),(49:Int)] x0.1.1).bind fun r2 => ((f43 k r2 x0.1.2.1).bind fun r3 => ((f43 k r3 x0.1.2.2).bind fun r4 => ((f43 k r4 (List.length x0.2:Int)).bind fun r5 => (f16.l729 k x0 k (r5,(0:Int))))))) else none))
theorem c16 (k:Nat) (x0:((Int × (Int × Int)) × (List (Int × ((List (Int × Int)) × (List (ByteArray × ByteArray))))))) (r:(List Int)) (hF:f16 k x0=some r):PCall Try.prog 16 [⟨sh13,x0⟩] [⟨(.sl true 5 (.int .u8)),r⟩]:=by
 refine pcall_intro Try.func16 rfl rfl (Nat.le_of_ble_eq_true rfl) ?_
 intro w0 Zi a w h
 rw [f16] at hF
 refine zs [1] h an fun a w h => ?_
 refine wp_seq ?_
 obtain ⟨r1,hr1457,hF⟩:=of_bind hF
 refine zc (orcL [(10,[⟨.bool,r1⟩])]) [1,17] h (ac (c42 k x0.1 r1 hr1457) an) fun a w h => ?_
 refine zi h hF (fun hF => ?_) (fun hF => ?_)
 ·refine zs [2] h an fun a w h => ?_
  cases hF
  exact wp_ret (ret_okR tok h rfl (by kernel_rfl)).1
 ·refine wp_skip ?_
  obtain ⟨hc1453,hF⟩:=of_if hF
  obtain ⟨r2,hr1454,hF⟩:=of_bind hF
  obtain ⟨r3,hr1455,hF⟩:=of_bind hF
  obtain ⟨r4,hr1456,hF⟩:=of_bind hF
  refine wp_regX_seq (sxB_ok tok [(1,.conv)] (sxA_ok tok (orc:=orcL [(24,[⟨.pt false 4294967294 .unit,some ()⟩,⟨(.sl true 5 (.int .u8)),r2⟩]),(28,[⟨.pt false 4294967294 .unit,some ()⟩,⟨(.sl true 5 (.int .u8)),r3⟩]),(32,[⟨.pt false 4294967294 .unit,some ()⟩,⟨(.sl true 5 (.int .u8)),r4⟩])]) (spA:=[]) (sp:=[]))) [((1,.val sh9 (some x0)),none,none),((3,.val (.sl true 5 (.int .u8)) r4),some 14,none),((17,.val .bool (bif (!r1) then true else (decide (((List.length x0.2:Int):Int) > (2000:Int))))),none,some 14),((19,.val (.sl true 5 (.int .u8)) [(87:Int),(77:Int),(84:Int),(49:Int)]),some 0,some 1),((20,.val (.sl true 5 (.int .u8)) [(87:Int),(77:Int),(84:Int),(49:Int)]),some 1,some 5),((21,.addr 1 [.der,.fst]),some 2,some 14),((22,.addr 1 [.der,.fst,.fst]),some 3,some 14),((23,.val iS x0.1.1),some 4,some 14),((24,.val (.sl true 5 (.int .u8)) r2),some 5,some 9),((25,.addr 1 [.der,.fst]),some 6,some 14),((26,.addr 1 [.der,.fst,.snd,.fst]),some 7,some 14),((27,.val iS x0.1.2.1),some 8,some 14),((28,.val (.sl true 5 (.int .u8)) r3),some 9,some 13),((29,.addr 1 [.der,.fst]),some 10,some 14),((30,.addr 1 [.der,.fst,.snd,.snd]),some 11,some 14),((31,.val iS x0.1.2.2),some 12,some 14),((32,.val (.sl true 5 (.int .u8)) r4),some 13,some 14)] [] [0,4,12,76,204,1228,3276,3277,3292,3532,7372,3279,3293,3533,7373,3548,7388,7628,3295,3535,7375,3549,7389,7629,7644,3327,3551,7391,7631,7645,3583,7423,7647,4095,7679,8191,16383,32767] 32767 [(1,0,1),(5,1,1),(9,2,1),(13,3,1)] h (by kernel_rfl) (by kernel_rfl) (by kernel_rfl) (ac hc1453 (ac (c43 k [(87:Int),(77:Int),(84:Int),(49:Int)] x0.1.1 r2 hr1454) (ac (c43 k r2 x0.1.2.1 r3 hr1455) (ac (c43 k r3 x0.1.2.2 r4 hr1456) an)))) (fun _ _ _ _ _ h => h) fun a w h => ?_
  obtain ⟨r5,hr1452,hF⟩:=of_bind hF
  refine zc (orcL [(37,[⟨.pt false 4294967294 .unit,some ()⟩,⟨(.sl true 5 (.int .u8)),r5⟩])]) [1,3] h (ac (c43 k r4 (List.length x0.2:Int) r5 hr1452) an) fun a w h => ?_
  refine wp_seq ?_
  refine zs [1,3,4] h an fun a w h => ?_
  refine wp_block ?_
  refine wp_loop_fuel (f16.l729 k x0) (fun ((v1212,v1213):((List Int) × Int)) => [(1,.val sh9 (some x0)),(3,.val (.sl true 5 (.int .u8)) v1212),(4,.val iS v1213)]) (fun v h => by obtain ⟨v1212,v1213⟩:=v; rw [f16.l729] at h; cases h) ?_ hF (ar h [1,3,4])
  intro m729 v a w hF h
  obtain ⟨v1212,v1213⟩:=v
  rw [f16.l729] at hF
  refine wp_seq ?_
  refine zs [1,3,4,42] h an fun a w h => ?_
  refine zi h hF (fun hF => ?_) (fun hF => ?_)
  ·refine wp_skip ?_
   refine wp_seq <| wp_block ?_
   obtain ⟨hc1451,hF⟩:=of_if hF
   refine zs [1,3,4,5] h (ac hc1451 an) fun a w h => ?_
   refine wp_seq ?_
   obtain ⟨r1333,hr1450,hF⟩:=of_bind hF
   refine zc (orcL [(51,[⟨.bool,r1333⟩])]) [1,3,4,5,52] h (ac (c44 k (gD x0.2 (tZ v1213) (iO,(([]:(List (Int × Int))),([]:(List (ByteArray × ByteArray)))))) r1333 hr1450) an) fun a w h => ?_
   refine zi h hF (fun hF => ?_) (fun hF => ?_)
   ·refine zs [2] h an fun a w h => ?_
    cases hF
    exact wp_ret (ret_okR tok h rfl (by kernel_rfl)).1
   ·refine wp_skip ?_
    obtain ⟨r1334,hr1448,hF⟩:=of_bind hF
    obtain ⟨r1335,hr1449,hF⟩:=of_bind hF
    refine wp_regv_seq tok (orc:=orcL [(57,[⟨.pt false 4294967294 .unit,some ()⟩,⟨(.sl true 5 (.int .u8)),r1334⟩]),(61,[⟨.pt false 4294967294 .unit,some ()⟩,⟨(.sl true 5 (.int .u8)),r1335⟩])]) [((1,.val sh9 (some x0)),none,none),((3,.val (.sl true 5 (.int .u8)) v1212),none,some 3),((3,.val (.sl true 5 (.int .u8)) r1335),some 8,none),((4,.val iS v1213),none,none),((5,.val sh6 (some (gD x0.2 (tZ v1213) (iO,(([]:(List (Int × Int))),([]:(List (ByteArray × ByteArray)))))))),none,none),((52,.val .bool (!r1333)),none,some 8),((54,.copy 3 []),some 0,some 3),((55,.addr 5 [.der,.fst]),some 1,some 8),((56,.val iS (gD x0.2 (tZ v1213) (iO,(([]:(List (Int × Int))),([]:(List (ByteArray × ByteArray)))))).1),some 2,some 8),((57,.val (.sl true 5 (.int .u8)) r1334),some 3,some 7),((58,.addr 5 [.der,.snd,.fst]),some 4,some 8),((59,.val sh10 (gD x0.2 (tZ v1213) (iO,(([]:(List (Int × Int))),([]:(List (ByteArray × ByteArray)))))).2.1),some 5,some 8),((60,.val iS (List.length (gD x0.2 (tZ v1213) (iO,(([]:(List (Int × Int))),([]:(List (ByteArray × ByteArray)))))).2.1:Int)),some 6,some 8),((61,.val (.sl true 5 (.int .u8)) r1335),some 7,some 8)] [] [0,1,3,19,23,51,31,55,115,63,119,127,255,511] 511 [(3,0,1),(7,1,1)] h (by kernel_rfl) (by kernel_rfl) (by kernel_rfl) (ac (c43 k v1212 (gD x0.2 (tZ v1213) (iO,(([]:(List (Int × Int))),([]:(List (ByteArray × ByteArray)))))).1 r1334 hr1448) (ac (c43 k r1334 (List.length (gD x0.2 (tZ v1213) (iO,(([]:(List (Int × Int))),([]:(List (ByteArray × ByteArray)))))).2.1:Int) r1335 hr1449) an)) (fun _ _ _ _ _ h => h) fun a w h => ?_
    refine zs [1,3,4,5,6] h an fun a w h => ?_
    refine wp_seq ?_
    refine zs [1,3,4,5,6,7] h an fun a w h => ?_
    refine wp_block ?_
    refine wp_loop_fuel (f16.l1391 k x0 v1213 ((f16.l729 k x0) m729)) (fun ((v1429,v1430,v1431):((List Int) × (Int × Int) × Int)) => [(1,.val sh9 (some x0)),(3,.val (.sl true 5 (.int .u8)) v1429),(4,.val iS v1213),(5,.val sh6 (some (gD x0.2 (tZ v1213) (iO,(([]:(List (Int × Int))),([]:(List (ByteArray × ByteArray)))))))),(6,.val sh3 (some v1430)),(7,.val iS v1431)]) (fun v h => by obtain ⟨v1429,v1430,v1431⟩:=v; rw [f16.l1391] at h; cases h) ?_ hF (ar h [1,3,4,5,6,7])
    intro m1391 v a w hF h
    obtain ⟨v1429,v1430,v1431⟩:=v
    rw [f16.l1391] at hF
    refine wp_seq ?_
    refine zs [1,3,4,5,6,7,67] h an fun a w h => ?_
    refine zi h hF (fun hF => ?_) (fun hF => ?_)
    ·refine wp_skip ?_
     refine wp_seq <| wp_block ?_
     obtain ⟨hc1442,hF⟩:=of_if hF
     obtain ⟨r1439,hr1443,hF⟩:=of_bind hF
     obtain ⟨hc1444,hF⟩:=of_if hF
     obtain ⟨r1440,hr1445,hF⟩:=of_bind hF
     refine wp_regv_seq tok (orc:=orcL [(80,[⟨.pt false 4294967294 .unit,some ()⟩,⟨(.sl true 5 (.int .u8)),r1439⟩]),(90,[⟨.pt false 4294967294 .unit,some ()⟩,⟨(.sl true 5 (.int .u8)),r1440⟩])]) [((1,.val sh9 (some x0)),none,none),((3,.val (.sl true 5 (.int .u8)) v1429),none,some 10),((3,.val (.sl true 5 (.int .u8)) r1440),some 21,none),((4,.val iS v1213),none,none),((5,.val sh6 (some (gD x0.2 (tZ v1213) (iO,(([]:(List (Int × Int))),([]:(List (ByteArray × ByteArray)))))))),none,none),((6,.val sh3 (some v1430)),none,none),((7,.val iS v1431),none,none),((67,.val .bool (decide (v1431 < (List.length (gD x0.2 (tZ v1213) (iO,(([]:(List (Int × Int))),([]:(List (ByteArray × ByteArray)))))).2.1:Int)))),none,some 21),((70,.copy 3 []),some 0,some 10),((71,.addr 5 [.der,.snd,.fst]),some 1,some 21),((72,.val sh10 (gD x0.2 (tZ v1213) (iO,(([]:(List (Int × Int))),([]:(List (ByteArray × ByteArray)))))).2.1),some 2,some 21),((73,.val iS v1431),some 3,some 21),((74,.val sh11 (some (gD (gD x0.2 (tZ v1213) (iO,(([]:(List (Int × Int))),([]:(List (ByteArray × ByteArray)))))).2.1 (tZ v1431) (iO,iO)))),some 4,some 21),((75,.val (.pt false 0 iS) (some (gD (gD x0.2 (tZ v1213) (iO,(([]:(List (Int × Int))),([]:(List (ByteArray × ByteArray)))))).2.1 (tZ v1431) (iO,iO)).1)),some 5,some 21),((76,.val iS (gD (gD x0.2 (tZ v1213) (iO,(([]:(List (Int × Int))),([]:(List (ByteArray × ByteArray)))))).2.1 (tZ v1431) (iO,iO)).1),some 6,some 21),((77,.addr 6 [.der,.fst]),some 7,some 21),((78,.val iS v1430.1),some 8,some 21),((79,.val iS (w64 ((gD (gD x0.2 (tZ v1213) (iO,(([]:(List (Int × Int))),([]:(List (ByteArray × ByteArray)))))).2.1 (tZ v1431) (iO,iO)).1 - v1430.1))),some 9,some 21),((80,.val (.sl true 5 (.int .u8)) r1439),some 10,some 20),((81,.addr 5 [.der,.snd,.fst]),some 11,some 21),((82,.val sh10 (gD x0.2 (tZ v1213) (iO,(([]:(List (Int × Int))),([]:(List (ByteArray × ByteArray)))))).2.1),some 12,some 21),((83,.val iS v1431),some 13,some 21),((84,.val sh11 (some (gD (gD x0.2 (tZ v1213) (iO,(([]:(List (Int × Int))),([]:(List (ByteArray × ByteArray)))))).2.1 (tZ v1431) (iO,iO)))),some 14,some 21),((85,.val (.pt false 0 iS) (some (gD (gD x0.2 (tZ v1213) (iO,(([]:(List (Int × Int))),([]:(List (ByteArray × ByteArray)))))).2.1 (tZ v1431) (iO,iO)).2)),some 15,some 21),((86,.val iS (gD (gD x0.2 (tZ v1213) (iO,(([]:(List (Int × Int))),([]:(List (ByteArray × ByteArray)))))).2.1 (tZ v1431) (iO,iO)).2),some 16,some 21),((87,.addr 6 [.der,.snd]),some 17,some 21),((88,.val iS v1430.2),some 18,some 21),((89,.val iS (w64 ((gD (gD x0.2 (tZ v1213) (iO,(([]:(List (Int × Int))),([]:(List (ByteArray × ByteArray)))))).2.1 (tZ v1431) (iO,iO)).2 - v1430.2))),some 19,some 21),((90,.val (.sl true 5 (.int .u8)) r1440),some 20,some 21)] [] [0,1,3,11,139,2187,10379,141451,141455,141707,145547,403595,141471,141711,145551,403599,145803,403851,161931,407691,141503,141727,145807,403855,145567,161935,407695,403615,162187,407947,194699,424075,141567,141759,145599,403647,145823,162191,407951,403871,194703,407711,424079,194955,424331,260235,456843,141823,145663,403711,145855,403903,161983,407743,194959,407967,424335,194719,260239,456847,260491,457099,522379,142335,145919,403967,162047,407807,162239,407999,194751,424127,194975,260495,457103,260255,522383,456863,522635,1046667,143359,146431,404479,162303,408063,194815,424191,195007,424383,260287,456895,260511,522639,457119,522399,1046671,1046923,147455,405503,162815,408575,195071,424447,260351,456959,260543,457151,522431,522655,1046927,1046687,163839,409599,195583,424959,260607,457215,522495,522687,1046719,1046943,196607,425983,261119,457727,522751,1046783,1046975,262143,458751,523263,1047039,524287,1047551,1048575,2097151,4194303] 4194303 [(4,0,1),(10,1,1),(14,2,1),(20,3,1)] h (by kernel_rfl) (by kernel_rfl) (by kernel_rfl) (ac hc1442 (ac (c45 k v1429 (w64 ((gD (gD x0.2 (tZ v1213) (iO,(([]:(List (Int × Int))),([]:(List (ByteArray × ByteArray)))))).2.1 (tZ v1431) (iO,iO)).1 - v1430.1)) r1439 hr1443) (ac hc1444 (ac (c45 k r1439 (w64 ((gD (gD x0.2 (tZ v1213) (iO,(([]:(List (Int × Int))),([]:(List (ByteArray × ByteArray)))))).2.1 (tZ v1431) (iO,iO)).2 - v1430.2)) r1440 hr1445) an)))) (fun _ _ _ _ _ h => h) fun a w h => ?_
     obtain ⟨hc1441,hF⟩:=of_if hF
     refine zt [1,3,4,5,6,7] h (ac hc1441 an) fun a w h => ?_
     refine zt [1,3,4,5,6,7] h an fun a w h => ?_
     exact ⟨(r1440,(gD (gD x0.2 (tZ v1213) (iO,(([]:(List (Int × Int))),([]:(List (ByteArray × ByteArray)))))).2.1 (tZ v1431) (iO,iO)),(w64 (v1431 + (1:Int)))),hF,ar h [1,3,4,5,6,7]⟩
    ·refine wp_exit ?_
     obtain ⟨r1446,hr1447,hF⟩:=of_bind hF
     refine zd (orcL [(99,[⟨.pt false 4294967294 .unit,some ()⟩,⟨(.sl true 5 (.int .u8)),r1446⟩])]) [1,3,4] h (ac (c46 k v1429 (gD x0.2 (tZ v1213) (iO,(([]:(List (Int × Int))),([]:(List (ByteArray × ByteArray)))))).2.2 r1446 hr1447) an) fun a w h => ?_
     refine zt [1,3,4] h an fun a w h => ?_
     exact ⟨(r1446,(w64 (v1213 + (1:Int)))),hF,ar h [1,3,4]⟩
  ·refine wp_exit ?_
   refine zs [2,3] h an fun a w h => ?_
   cases hF
   exact wp_ret (ret_okR tok h rfl (by kernel_rfl)).1
def f24.l1283 (k:Nat) (v1119:(List (Int × ((List (Int × Int)) × (List (ByteArray × ByteArray)))))) (r1230:(Int × ((List Int) × (Int × Bool)))) (v1120:Int) (q672:(((List Int) × (Int × Bool)) × (List (Int × ((List (Int × Int)) × (List (ByteArray × ByteArray))))) × Int)→Option (((Int × (Int × Int)) × (List (Int × ((List (Int × Int)) × (List (ByteArray × ByteArray)))))) × Bool)):Nat → (((List Int) × (Int × Bool)) × (List (Int × Int)) × Int × Int × Int)→Option (((Int × (Int × Int)) × (List (Int × ((List (Int × Int)) × (List (ByteArray × ByteArray)))))) × Bool)
 | 0,_ => none
 | m1283+1,(v1319,v1320,v1321,v1322,v1323) => if (bif (decide (v1323 > (0:Int))) then (!v1319.2.2) else false) then ((f59 k v1319).bind fun r1329 => ((f59 k r1329.2).bind fun r1330 => (if ((List.length v1320+List.length [((IntKind.i64.wrap (v1321+r1329.1)),(IntKind.i64.wrap (v1322+r1330.1)))])*16≤140737488355328) then ((f24.l1283 k v1119 r1230 v1120 q672) m1283 (r1330.2,(List.append v1320 [((IntKind.i64.wrap (v1321+r1329.1)),(IntKind.i64.wrap (v1322+r1330.1)))]),(IntKind.i64.wrap (v1321+r1329.1)),(IntKind.i64.wrap (v1322+r1330.1)),(IntKind.i64.wrap (v1323 - (1:Int))))) else none))) else ((f60 k v1319).bind fun r1334 => (if ((List.length v1119+List.length [(r1230.1,(v1320,r1334.1))])*56≤140737488355328) then (q672 (r1334.2,(v1119 ++ [(r1230.1,(v1320,r1334.1))]),(IntKind.i64.wrap (v1120 - (1:Int))))) else none))
def f24.l672 (k:Nat) (r1:(Int × ((List Int) × (Int × Bool)))) (r2:(Int × ((List Int) × (Int × Bool)))) (r3:(Int × ((List Int) × (Int × Bool)))) (x0:(List Int)):Nat → (((List Int) × (Int × Bool)) × (List (Int × ((List (Int × Int)) × (List (ByteArray × ByteArray))))) × Int)→Option (((Int × (Int × Int)) × (List (Int × ((List (Int × Int)) × (List (ByteArray × ByteArray)))))) × Bool)
 | 0,_ => none
 | m672+1,(v1118,v1119,v1120) => if (bif (decide (v1120 > (0:Int))) then (!v1118.2.2) else false) then ((f58 k v1118).bind fun r1230 => ((f58 k r1230.2).bind fun r1231 => (f24.l1283 k v1119 r1230 v1120 ((f24.l672 k r1 r2 r3 x0) m672) k (r1231.2,([]:(List (Int × Int))),(0:Int),(0:Int),r1231.1)))) else ((if (v1118.2.2=false) then f16 k ((r1.1,(r2.1,r3.1)),v1119) else some default).bind fun r1339 => (if (bif v1118.2.2 then true else (!(ByteArray.toList (strOfNums r1339) == ByteArray.toList (strOfNums x0)))) then (some ((((0:Int),((0:Int),(0:Int))),([]:(List (Int × ((List (Int × Int)) × (List (ByteArray × ByteArray))))))),false)) else (some (((r1.1,(r2.1,r3.1)),v1119),true))))
def f24 (k:Nat) (x0:(List Int)):Option (((Int × (Int × Int)) × (List (Int × ((List (Int × Int)) × (List (ByteArray × ByteArray)))))) × Bool):=if (((decide (((List.length x0:Int):Int) < (4:Int)))=false) → (True ∧ ((0:Int) ≤ (4:Int))∧0 ≤ (Int.toNat (4:Int)) ∧ (Int.toNat (4:Int)) ≤ (List.length x0))) then (if (bif (decide (((List.length x0:Int):Int) < (4:Int))) then true else (!(ByteArray.toList (strOfNums (List.drop 0 (List.take (Int.toNat (4:Int)) x0))) == ByteArray.toList (⟨#[87,77,84,49]⟩:ByteArray)))) then (some ((((0:Int),((0:Int),(0:Int))),([]:(List (Int × ((List (Int × Int)) × (List (ByteArray × ByteArray))))))),false)) else ((f58 k (x0,((4:Int),false))).bind fun r1 => ((f58 k r1.2).bind fun r2 => ((f58 k r2.2).bind fun r3 => ((f58 k r3.2).bind fun r4 => (f24.l672 k r1 r2 r3 x0 k (r4.2,([]:(List (Int × ((List (Int × Int)) × (List (ByteArray × ByteArray)))))),r4.1))))))) else none
theorem c24 (k:Nat) (x0:(List Int)) (r:(((Int × (Int × Int)) × (List (Int × ((List (Int × Int)) × (List (ByteArray × ByteArray)))))) × Bool)) (hF:f24 k x0=some r):PCall Try.prog 24 [⟨(.sl false 5 (.int .u8)),x0⟩] [⟨sh14,r.1⟩,⟨.bool,r.2⟩]:=by
 refine pcall_intro Try.func24 rfl rfl (Nat.le_of_ble_eq_true rfl) ?_
 intro w0 Zi a w h
 rw [f24] at hF
 refine zs [0,2] h an fun a w h => ?_
 refine wp_seq ?_
 obtain ⟨hc1345,hF⟩:=of_if hF
 refine zs [0,2,18] h (ac hc1345 an) fun a w h => ?_
 refine zi h hF (fun hF => ?_) (fun hF => ?_)
 ·refine zs [2,3] h an fun a w h => ?_
  cases hF
  exact wp_ret (ret_okR tok h rfl (by kernel_rfl)).1
 ·refine wp_skip ?_
  refine zs [0,2,4] h an fun a w h => ?_
  refine zs [0,2,4,5] h an fun a w h => ?_
  obtain ⟨r1,hr1344,hF⟩:=of_bind hF
  refine zc (orcL [(25,[⟨.pt false 4294967295 (.pt true 97 (.st (.pair (.sl false 5 (.int .u8)) (.pair iS .bool)))),some (some r1.2)⟩,⟨iS,r1.1⟩])]) [0,2,4,5] h (ac (c58 k (x0,((4:Int),false)) r1 hr1344) an) fun a w h => ?_
  obtain ⟨r2,hr1343,hF⟩:=of_bind hF
  refine zc (orcL [(29,[⟨.pt false 4294967295 (.pt true 97 (.st (.pair (.sl false 5 (.int .u8)) (.pair iS .bool)))),some (some r2.2)⟩,⟨iS,r2.1⟩])]) [0,2,4,5] h (ac (c58 k r1.2 r2 hr1343) an) fun a w h => ?_
  obtain ⟨r3,hr1342,hF⟩:=of_bind hF
  refine zc (orcL [(33,[⟨.pt false 4294967295 (.pt true 97 (.st (.pair (.sl false 5 (.int .u8)) (.pair iS .bool)))),some (some r3.2)⟩,⟨iS,r3.1⟩])]) [0,2,4,5] h (ac (c58 k r2.2 r3 hr1342) an) fun a w h => ?_
  refine wp_seq ?_
  obtain ⟨r4,hr1341,hF⟩:=of_bind hF
  refine zc (orcL [(37,[⟨.pt false 4294967295 (.pt true 97 (.st (.pair (.sl false 5 (.int .u8)) (.pair iS .bool)))),some (some r4.2)⟩,⟨iS,r4.1⟩])]) [0,2,4,5,6] h (ac (c58 k r3.2 r4 hr1341) an) fun a w h => ?_
  refine wp_block ?_
  refine wp_loop_fuel (f24.l672 k r1 r2 r3 x0) (fun ((v1118,v1119,v1120):(((List Int) × (Int × Bool)) × (List (Int × ((List (Int × Int)) × (List (ByteArray × ByteArray))))) × Int)) => [(0,.val (.sl false 5 (.int .u8)) x0),(2,.val sh1 (some ((iO,(iO,iO)),([]:(List (Int × ((List (Int × Int)) × (List (ByteArray × ByteArray))))))))),(4,.val sh0 (some v1118)),(5,.val sh1 (some ((r1.1,(r2.1,r3.1)),v1119))),(6,.val iS v1120)]) (fun v h => by obtain ⟨v1118,v1119,v1120⟩:=v; rw [f24.l672] at h; cases h) ?_ hF (ar h [0,2,4,5,6])
  intro m672 v a w hF h
  obtain ⟨v1118,v1119,v1120⟩:=v
  rw [f24.l672] at hF
  refine wp_seq ?_
  refine zs [0,2,4,5,6,46] h an fun a w h => ?_
  refine zi h hF (fun hF => ?_) (fun hF => ?_)
  ·refine wp_skip ?_
   refine wp_seq <| wp_block ?_
   obtain ⟨r1230,hr1338,hF⟩:=of_bind hF
   refine zc (orcL [(50,[⟨.pt false 4294967295 (.pt true 97 (.st (.pair (.sl false 5 (.int .u8)) (.pair iS .bool)))),some (some r1230.2)⟩,⟨iS,r1230.1⟩])]) [0,2,4,5,6,7] h (ac (c58 k v1118 r1230 hr1338) an) fun a w h => ?_
   refine zs [0,2,4,5,6,7,8] h an fun a w h => ?_
   refine wp_seq ?_
   obtain ⟨r1231,hr1337,hF⟩:=of_bind hF
   refine zc (orcL [(54,[⟨.pt false 4294967295 (.pt true 97 (.st (.pair (.sl false 5 (.int .u8)) (.pair iS .bool)))),some (some r1231.2)⟩,⟨iS,r1231.1⟩])]) [0,2,4,5,6,7,8,9] h (ac (c58 k r1230.2 r1231 hr1337) an) fun a w h => ?_
   refine wp_block ?_
   refine wp_loop_fuel (f24.l1283 k v1119 r1230 v1120 ((f24.l672 k r1 r2 r3 x0) m672)) (fun ((v1319,v1320,v1321,v1322,v1323):(((List Int) × (Int × Bool)) × (List (Int × Int)) × Int × Int × Int)) => [(0,.val (.sl false 5 (.int .u8)) x0),(2,.val sh1 (some ((iO,(iO,iO)),([]:(List (Int × ((List (Int × Int)) × (List (ByteArray × ByteArray))))))))),(4,.val sh0 (some v1319)),(5,.val sh1 (some ((r1.1,(r2.1,r3.1)),v1119))),(6,.val iS v1120),(7,.val sh2 (some (r1230.1,(v1320,([]:(List (ByteArray × ByteArray))))))),(8,.val sh3 (some (v1321,v1322))),(9,.val iS v1323)]) (fun v h => by obtain ⟨v1319,v1320,v1321,v1322,v1323⟩:=v; rw [f24.l1283] at h; cases h) ?_ hF (ar h [0,2,4,5,6,7,8,9])
   intro m1283 v a w hF h
   obtain ⟨v1319,v1320,v1321,v1322,v1323⟩:=v
   rw [f24.l1283] at hF
   refine wp_seq ?_
   refine zs [0,2,4,5,6,7,8,9,63] h an fun a w h => ?_
   refine zi h hF (fun hF => ?_) (fun hF => ?_)
   ·refine wp_skip ?_
    refine wp_seq <| wp_block ?_
    obtain ⟨r1329,hr1333,hF⟩:=of_bind hF
    refine wp_regv_seq tok (orc:=orcL [(69,[⟨.pt false 4294967295 (.pt true 97 (.st (.pair (.sl false 5 (.int .u8)) (.pair iS .bool)))),some (some r1329.2)⟩,⟨iS,r1329.1⟩])]) [((0,.val (.sl false 5 (.int .u8)) x0),none,none),((2,.val sh1 (some ((iO,(iO,iO)),([]:(List (Int × ((List (Int × Int)) × (List (ByteArray × ByteArray))))))))),none,none),((4,.val sh0 (some v1319)),none,some 3),((4,.val sh0 (some r1329.2)),some 3,none),((5,.val sh1 (some ((r1.1,(r2.1,r3.1)),v1119))),none,none),((6,.val iS v1120),none,none),((7,.val sh2 (some (r1230.1,(v1320,([]:(List (ByteArray × ByteArray))))))),none,none),((8,.val sh3 (some (v1321,v1322))),none,some 6),((8,.val sh3 (some ((w64 (v1321+r1329.1)),v1322))),some 6,none),((9,.val iS v1323),none,none),((63,.val .bool (bif (decide (v1323 > iO)) then (!v1319.2.2) else false)),none,some 6),((66,.addr 8 [.der,.fst]),some 0,some 6),((67,.val iS v1321),some 1,some 6),((69,.val iS r1329.1),some 3,some 6),((70,.val iS (w64 (v1321+r1329.1))),some 4,some 6),((71,.addr 8 [.der,.fst]),some 5,some 6)] [(68,4,2,3)] [0,1,5,7,13,15,31,63,127] 127 [(3,0,1)] h (by kernel_rfl) (by kernel_rfl) (by kernel_rfl) (ac (c59 k v1319 r1329 hr1333) an) (fun _ _ _ _ _ h => h) fun a w h => ?_
    obtain ⟨r1330,hr1332,hF⟩:=of_bind hF
    refine wp_regv_seq tok (orc:=orcL [(75,[⟨.pt false 4294967295 (.pt true 97 (.st (.pair (.sl false 5 (.int .u8)) (.pair iS .bool)))),some (some r1330.2)⟩,⟨iS,r1330.1⟩])]) [((0,.val (.sl false 5 (.int .u8)) x0),none,none),((2,.val sh1 (some ((iO,(iO,iO)),([]:(List (Int × ((List (Int × Int)) × (List (ByteArray × ByteArray))))))))),none,none),((4,.val sh0 (some r1329.2)),none,some 3),((4,.val sh0 (some r1330.2)),some 3,none),((5,.val sh1 (some ((r1.1,(r2.1,r3.1)),v1119))),none,none),((6,.val iS v1120),none,none),((7,.val sh2 (some (r1230.1,(v1320,([]:(List (ByteArray × ByteArray))))))),none,none),((8,.val sh3 (some ((w64 (v1321+r1329.1)),v1322))),none,some 6),((8,.val sh3 (some ((w64 (v1321+r1329.1)),(w64 (v1322+r1330.1))))),some 6,none),((9,.val iS v1323),none,none),((72,.addr 8 [.der,.snd]),some 0,some 6),((73,.val iS v1322),some 1,some 6),((75,.val iS r1330.1),some 3,some 6),((76,.val iS (w64 (v1322+r1330.1))),some 4,some 6),((77,.addr 8 [.der,.snd]),some 5,some 6)] [(74,4,2,3)] [0,1,5,7,13,15,31,63,127] 127 [(3,0,1)] h (by kernel_rfl) (by kernel_rfl) (by kernel_rfl) (ac (c59 k r1329.2 r1330 hr1332) an) (fun _ _ _ _ _ h => h) fun a w h => ?_
    obtain ⟨hc1331,hF⟩:=of_if hF
    refine zd (orcL [(82,[⟨.pt false 4294967293 .unit,some ()⟩])]) [0,2,4,5,6,7,8,9] h (ac (PrefL.mk (l:=[[.der,.snd,.fst],[.der,.snd,.fst]]) (p:=[.der,.snd,.fst]) rfl) (ac hc1331 (ac (show ([.der,.snd,.fst]:Path)=[.der,.snd,.fst] from rfl) an))) fun a w h => ?_
    refine zt [0,2,4,5,6,7,8,9] h an fun a w h => ?_
    exact ⟨(r1330.2,(List.append v1320 [((w64 (v1321+r1329.1)),(w64 (v1322+r1330.1)))]),(w64 (v1321+r1329.1)),(w64 (v1322+r1330.1)),(w64 (v1323 - (1:Int)))),hF,ar h [0,2,4,5,6,7,8,9]⟩
   ·refine wp_exit ?_
    obtain ⟨r1334,hr1336,hF⟩:=of_bind hF
    refine zc (orcL [(85,[⟨.pt false 4294967295 (.pt true 97 (.st (.pair (.sl false 5 (.int .u8)) (.pair iS .bool)))),some (some r1334.2)⟩,⟨sh4,r1334.1⟩])]) [0,2,4,5,6,7] h (ac (c60 k v1319 r1334 hr1336) an) fun a w h => ?_
    obtain ⟨hc1335,hF⟩:=of_if hF
    refine wp_seqX (sxH_ok [1] (sxA_ok tok (orc:=o0) (spA:=[]) (sp:=[]))) h (by kernel_rfl) (ac hc1335 an) fun a w h => ?_
    refine zt [0,2,4,5,6] h an fun a w h => ?_
    exact ⟨(r1334.2,(v1119 ++ [(r1230.1,(v1320,r1334.1))]),(w64 (v1120 - (1:Int)))),hF,ar h [0,2,4,5,6]⟩
  ·refine wp_exit ?_
   refine wp_seq ?_
   obtain ⟨r1339,hr1340,hF⟩:=of_bind hF
   refine wp_regy_seq tok (orc:=orcL [(99,[⟨(.sl true 5 (.int .u8)),r1339⟩])]) (l:=[2,5,104]) ([],[],[],[]) 12 nw h (by kernel_rfl) (by kernel_rfl) (ac (fun (hg:(v1118.2.2=false)) => c16 k ((r1.1,(r2.1,r3.1)),v1119) r1339 (of_g hg hr1340)) an) fun a w h => ?_
   refine zi h hF (fun hF => ?_) (fun hF => ?_)
   ·refine zs [2,3] h an fun a w h => ?_
    cases hF
    exact wp_ret (ret_okR tok h rfl (by kernel_rfl)).1
   ·refine wp_skip ?_
    refine zs [2,3] h an fun a w h => ?_
    cases hF
    exact wp_ret (ret_okR tok h rfl (by kernel_rfl)).1
def f65 (k:Nat) (x0:(List Int)) (x1:(List Int)):Option Bool:=some (ByteArray.toList (strOfNums x0) == ByteArray.toList (strOfNums x1))
theorem c65 (k:Nat) (x0:(List Int)) (x1:(List Int)) (r:Bool) (hF:f65 k x0 x1=some r):PCall Try.prog 65 [⟨(.sl false 5 (.int .u8)),x0⟩,⟨(.sl false 5 (.int .u8)),x1⟩] [⟨.bool,r⟩]:=by
 refine pcall_intro Try.func65 rfl rfl (Nat.le_of_ble_eq_true rfl) ?_
 intro w0 Zi a w h
 rw [f65] at hF
 refine zs [0,1] h an fun a w h => ?_
 refine zs [4] h an fun a w h => ?_
 cases hF
 exact wp_ret (ret_okR tok h rfl (by kernel_rfl)).1
def f84 (k:Nat) (x0:(List Int)) (x1:(List Int)):Option Bool:=if (((decide (((List.length x0:Int):Int) ≥ (List.length x1:Int)))=true) → (True ∧ ((0:Int) ≤ (List.length x1:Int))∧0 ≤ (Int.toNat (List.length x1:Int)) ∧ (Int.toNat (List.length x1:Int)) ≤ (List.length x0))) then ((if ((decide (((List.length x0:Int):Int) ≥ (List.length x1:Int)))=true) then f65 k (List.drop 0 (List.take (Int.toNat (List.length x1:Int)) x0)) x1 else some default).bind fun r1 => (some (bif (decide (((List.length x0:Int):Int) ≥ (List.length x1:Int))) then r1 else false))) else none
theorem c84 (k:Nat) (x0:(List Int)) (x1:(List Int)) (r:Bool) (hF:f84 k x0 x1=some r):PCall Try.prog 84 [⟨(.sl false 5 (.int .u8)),x0⟩,⟨(.sl false 5 (.int .u8)),x1⟩] [⟨.bool,r⟩]:=by
 refine pcall_intro Try.func84 rfl rfl (Nat.le_of_ble_eq_true rfl) ?_
 intro w0 Zi a w h
 rw [f84] at hF
 refine zs [0,1] h an fun a w h => ?_
 obtain ⟨hc2,hF⟩:=of_if hF
 obtain ⟨r1,hr3,hF⟩:=of_bind hF
 refine zc (orcL [(16,[⟨.bool,r1⟩])]) [4] h (ac hc2 (ac (fun (hg:((decide (((List.length x0:Int):Int) ≥ (List.length x1:Int)))=true)) => c65 k (List.drop 0 (List.take (tZ (List.length x1:Int)) x0)) x1 r1 (of_g hg hr3)) an)) fun a w h => ?_
 cases hF
 exact wp_ret (ret_okR tok h rfl (by kernel_rfl)).1
def f61 (k:Nat) (x0:(List Int)) (x1:ByteArray):Option ((List Int) × Bool):=if (ByteArray.size x1≤140737488355328) then ((f84 k x0 (strNums x1)).bind fun r1 => (if (!r1) then (some (([]:(List Int)),true)) else (if (((0:Int) ≤ (ByteArray.size x1:Int))∧True ∧ (Int.toNat (ByteArray.size x1:Int)) ≤ (List.length x0) ∧ (List.length x0) ≤ (List.length x0)) then (some ((List.drop (Int.toNat (ByteArray.size x1:Int)) (List.take (List.length x0) x0)),false)) else none))) else none
theorem c61 (k:Nat) (x0:(List Int)) (x1:ByteArray) (r:((List Int) × Bool)) (hF:f61 k x0 x1=some r):PCall Try.prog 61 [⟨(.sl false 5 (.int .u8)),x0⟩,⟨.str,x1⟩] [⟨sh15,some r⟩]:=by
 refine pcall_intro Try.func61 rfl rfl (Nat.le_of_ble_eq_true rfl) ?_
 intro w0 Zi a w h
 rw [f61] at hF
 refine zs [0,1] h an fun a w h => ?_
 refine wp_seq ?_
 obtain ⟨hc3,hF⟩:=of_if hF
 obtain ⟨r1,hr4,hF⟩:=of_bind hF
 refine wp_seqX_seq (sxB_ok tok [(2,.toB)] (sxA_ok tok (orc:=orcL [(8,[⟨.bool,r1⟩])]) (spA:=[]) (sp:=[]))) h (by kernel_rfl) (ac hc3 (ac (c84 k x0 (strNums x1) r1 hr4) an)) fun a w h => ?_
 refine zi h hF (fun hF => ?_) (fun hF => ?_)
 ·refine wp_seqX_seq (sxB_ok tok [(0,(.lit ⟨(.st (.pair (.sl false 5 (.int .u8)) .bool)),(lO,true)⟩))] (sxA_ok tok (orc:=o0) (spA:=[]) (sp:=[]))) h (by kernel_rfl) (ac (lit_two (P:=Try.prog) (t:=104) (te:=5) (e:=(.int .u8)) (b:=true) (fun _ => by kernel_rfl)) an) fun a w h => ?_
  cases hF
  exact wp_ret (ret_okR tok h rfl (by kernel_rfl)).1
 ·refine wp_skip ?_
  obtain ⟨hc2,hF⟩:=of_if hF
  refine zs [4] h (ac hc2 an) fun a w h => ?_
  cases hF
  exact wp_ret (ret_okR tok h rfl (by kernel_rfl)).1
def f85 (k:Nat) (x0:((List Int) × Bool)):Option (Int × ((List Int) × Bool)):=if (((List.length x0.1:Int):Int) == (0:Int)) then (some ((0:Int),(x0.1,true))) else (if (0 ≤ (0:Int) ∧ (0:Int) < (List.length x0.1:Int)) then (if (((0:Int) ≤ (1:Int))∧True ∧ (Int.toNat (1:Int)) ≤ (List.length x0.1) ∧ (List.length x0.1) ≤ (List.length x0.1)) then (some ((List.getD x0.1 (Int.toNat (0:Int)) (0:Int)),((List.drop (Int.toNat (1:Int)) (List.take (List.length x0.1) x0.1)),x0.2))) else none) else none)
theorem c85 (k:Nat) (x0:((List Int) × Bool)) (r:(Int × ((List Int) × Bool))) (hF:f85 k x0=some r):PMut Try.prog 85 [⟨sh15,some x0⟩] [⟨(.int .u8),r.1⟩] (List.set [⟨sh15,some x0⟩] 0 ⟨sh15,some r.2⟩):=by
 refine pmutO_intro (j:=0) (fin:=⟨sh15,some r.2⟩) Try.func85 rfl rfl (Nat.le_of_ble_eq_true rfl) (Nat.le_of_ble_eq_true rfl) (by kernel_rfl) (by kernel_rfl) ?_
 intro w0 Zi f0 v0 hw a w h
 rw [f85] at hF
 refine wp_reg_seq tok (orc:=o0) (fz:=[]) (l:=[0]) (.inl rfl) h (by kernel_rfl) an fun a w h => ?_
 refine wp_seq ?_
 refine wp_reg_seq tok (orc:=o0) (fz:=[]) (l:=[0,9]) (.inl rfl) h (by kernel_rfl) an fun a w h => ?_
 refine zi h hF (fun hF => ?_) (fun hF => ?_)
 ·refine wp_reg_seq tok (orc:=o0) (fz:=[]) (l:=[0]) (.inl rfl) h (by kernel_rfl) an fun a w h => ?_
  refine wp_reg_seq tok (orc:=o0) (fz:=[]) (l:=[0,2]) (.inl rfl) h (by kernel_rfl) an fun a w h => ?_
  cases hF
  exact wp_ret (retO_ok tok h rfl (by kernel_rfl)).1
 ·refine wp_skip ?_
  obtain ⟨hc2,hF⟩:=of_if hF
  refine wp_reg_seq tok (orc:=o0) (fz:=[]) (l:=[0,3]) (.inl rfl) h (by kernel_rfl) (ac hc2 an) fun a w h => ?_
  obtain ⟨hc1,hF⟩:=of_if hF
  refine wp_reg_seq tok (orc:=o0) (fz:=[]) (l:=[0,3]) (.inl rfl) h (by kernel_rfl) (ac hc1 an) fun a w h => ?_
  refine wp_reg_seq tok (orc:=o0) (fz:=[]) (l:=[0,2]) (.inl rfl) h (by kernel_rfl) an fun a w h => ?_
  cases hF
  exact wp_ret (retO_ok tok h rfl (by kernel_rfl)).1
def f62.l32 (k:Nat):Nat → (((List Int) × Bool) × Int × Int)→Option (Int × ((List Int) × Bool))
 | 0,_ => none
 | m32+1,(v54,v55,v56) => if (decide (v56 < (8:Int))) then ((f85 k v54).bind fun r60 => (if ((0:Int) ≤ (IntKind.i64.wrap ((7:Int)*v56))) then (if (decide (r60.1 < (128:Int))) then (some ((Go.bits .or .i64 v55 (IntKind.i64.wrap ((IntKind.i64.wrap (Go.bits .and .u8 r60.1 (127:Int)))*2 ^ (min (Int.toNat (IntKind.i64.wrap ((7:Int)*v56))) IntKind.i64.bits)))),r60.2)) else ((f62.l32 k) m32 (r60.2,(Go.bits .or .i64 v55 (IntKind.i64.wrap ((IntKind.i64.wrap (Go.bits .and .u8 r60.1 (127:Int)))*2 ^ (min (Int.toNat (IntKind.i64.wrap ((7:Int)*v56))) IntKind.i64.bits)))),(IntKind.i64.wrap (v56 + (1:Int)))))) else none)) else (some ((0:Int),(v54.1,true)))
def f62 (k:Nat) (x0:((List Int) × Bool)):Option (Int × ((List Int) × Bool)):=f62.l32 k k (x0,(0:Int),(0:Int))
theorem c62 (k:Nat) (x0:((List Int) × Bool)) (r:(Int × ((List Int) × Bool))) (hF:f62 k x0=some r):PMut Try.prog 62 [⟨sh15,some x0⟩] [⟨iS,r.1⟩] (List.set [⟨sh15,some x0⟩] 0 ⟨sh15,some r.2⟩):=by
 refine pmutO_intro (j:=0) (fin:=⟨sh15,some r.2⟩) Try.func62 rfl rfl (Nat.le_of_ble_eq_true rfl) (Nat.le_of_ble_eq_true rfl) (by kernel_rfl) (by kernel_rfl) ?_
 intro w0 Zi f0 v0 hw a w h
 rw [f62] at hF
 refine wp_reg_seq tok (orc:=o0) (fz:=[]) (l:=[0]) (.inl rfl) h (by kernel_rfl) an fun a w h => ?_
 refine wp_reg_seq tok (orc:=o0) (fz:=[]) (l:=[0,3]) (.inl rfl) h (by kernel_rfl) an fun a w h => ?_
 refine wp_seq ?_
 refine wp_reg_seq tok (orc:=o0) (fz:=[]) (l:=[0,3,4]) (.inl rfl) h (by kernel_rfl) an fun a w h => ?_
 refine wp_block ?_
 refine wp_loop_fuel (f62.l32 k) (fun ((v54,v55,v56):(((List Int) × Bool) × Int × Int)) => [(0,.val sh15 (some v54)),(3,.val iS v55),(4,.val iS v56)]) (fun v h => by obtain ⟨v54,v55,v56⟩:=v; rw [f62.l32] at h; cases h) ?_ hF (h.arrive (fz:=[]) (l:=[0,3,4]) (.inl rfl) (by kernel_rfl))
 intro m32 v a w hF h
 obtain ⟨v54,v55,v56⟩:=v
 rw [f62.l32] at hF
 refine wp_seq ?_
 refine wp_reg_seq tok (orc:=o0) (fz:=[]) (l:=[0,3,4,7]) (.inl rfl) h (by kernel_rfl) an fun a w h => ?_
 refine zi h hF (fun hF => ?_) (fun hF => ?_)
 ·refine wp_skip ?_
  refine wp_seq <| wp_block ?_
  obtain ⟨r60,hr62,hF⟩:=of_bind hF
  refine wp_reg_seq tok (orc:=orcL [(11,[⟨.pt false 4294967295 (.pt true 104 (.st (.pair (.sl false 5 (.int .u8)) .bool))),some (some r60.2)⟩,⟨(.int .u8),r60.1⟩])]) (fz:=[]) (l:=[0,3,4,5]) (.inl rfl) h (by kernel_rfl) (ac (c85 k v54 r60 hr62) an) fun a w h => ?_
  obtain ⟨hc61,hF⟩:=of_if hF
  refine wp_reg_seq tok (orc:=o0) (fz:=[]) (l:=[0,3,4,5]) (.inl rfl) h (by kernel_rfl) (ac hc61 an) fun a w h => ?_
  refine wp_reg_seq tok (orc:=o0) (fz:=[]) (l:=[0,3,4,21]) (.inl rfl) h (by kernel_rfl) an fun a w h => ?_
  refine zi h hF (fun hF => ?_) (fun hF => ?_)
  ·refine wp_reg_seq tok (orc:=o0) (fz:=[]) (l:=[0,2]) (.inl rfl) h (by kernel_rfl) an fun a w h => ?_
   cases hF
   exact wp_ret (retO_ok tok h rfl (by kernel_rfl)).1
  ·refine wp_skip ?_
   refine wp_reg tok (orc:=o0) (fz:=[]) (l:=[0,3,4]) (.inl rfl) h (by kernel_rfl) an fun a w h => ?_
   exact ⟨(r60.2,(Go.bits .or .i64 v55 (w64 ((w64 (Go.bits .and .u8 r60.1 (127:Int)))*2 ^ (min (tZ (w64 ((7:Int)*v56))) IntKind.i64.bits)))),(w64 (v56 + (1:Int)))),hF,h.arrive (fz:=[]) (l:=[0,3,4]) (.inl rfl) (by kernel_rfl)⟩
 ·refine wp_exit ?_
  refine wp_reg_seq tok (orc:=o0) (fz:=[]) (l:=[0]) (.inl rfl) h (by kernel_rfl) an fun a w h => ?_
  refine wp_reg_seq tok (orc:=o0) (fz:=[]) (l:=[0,2]) (.inl rfl) h (by kernel_rfl) an fun a w h => ?_
  cases hF
  exact wp_ret (retO_ok tok h rfl (by kernel_rfl)).1
def f63 (k:Nat) (x0:((List Int) × Bool)):Option (Int × ((List Int) × Bool)):=(f62 k x0).bind fun r1 => (if (((2:Int):Int)≠0) then (if (((Int.tmod r1.1 (2:Int)):Int) == (1:Int)) then (if (((2:Int):Int)≠0) then (some ((IntKind.i64.wrap (Int.tdiv (IntKind.i64.wrap (0 - (IntKind.i64.wrap (r1.1 + (1:Int))))) (2:Int))),r1.2)) else none) else (if (((2:Int):Int)≠0) then (some ((IntKind.i64.wrap (Int.tdiv r1.1 (2:Int))),r1.2)) else none)) else none)
theorem c63 (k:Nat) (x0:((List Int) × Bool)) (r:(Int × ((List Int) × Bool))) (hF:f63 k x0=some r):PMut Try.prog 63 [⟨sh15,some x0⟩] [⟨iS,r.1⟩] (List.set [⟨sh15,some x0⟩] 0 ⟨sh15,some r.2⟩):=by
 refine pmutO_intro (j:=0) (fin:=⟨sh15,some r.2⟩) Try.func63 rfl rfl (Nat.le_of_ble_eq_true rfl) (Nat.le_of_ble_eq_true rfl) (by kernel_rfl) (by kernel_rfl) ?_
 intro w0 Zi f0 v0 hw a w h
 rw [f63] at hF
 refine wp_reg_seq tok (orc:=o0) (fz:=[]) (l:=[0]) (.inl rfl) h (by kernel_rfl) an fun a w h => ?_
 obtain ⟨r1,hr6,hF⟩:=of_bind hF
 refine wp_reg_seq tok (orc:=orcL [(5,[⟨.pt false 4294967295 (.pt true 104 (.st (.pair (.sl false 5 (.int .u8)) .bool))),some (some r1.2)⟩,⟨iS,r1.1⟩])]) (fz:=[]) (l:=[0,3]) (.inl rfl) h (by kernel_rfl) (ac (c62 k x0 r1 hr6) an) fun a w h => ?_
 refine wp_seq ?_
 obtain ⟨hc5,hF⟩:=of_if hF
 refine wp_reg_seq tok (orc:=o0) (fz:=[]) (l:=[0,3,8]) (.inl rfl) h (by kernel_rfl) (ac hc5 an) fun a w h => ?_
 refine zi h hF (fun hF => ?_) (fun hF => ?_)
 ·obtain ⟨hc3,hF⟩:=of_if hF
  refine wp_reg_seq tok (orc:=o0) (fz:=[]) (l:=[0,2]) (.inl rfl) h (by kernel_rfl) (ac hc3 an) fun a w h => ?_
  cases hF
  exact wp_ret (retO_ok tok h rfl (by kernel_rfl)).1
 ·refine wp_skip ?_
  obtain ⟨hc4,hF⟩:=of_if hF
  refine wp_reg_seq tok (orc:=o0) (fz:=[]) (l:=[0,2]) (.inl rfl) h (by kernel_rfl) (ac hc4 an) fun a w h => ?_
  cases hF
  exact wp_ret (retO_ok tok h rfl (by kernel_rfl)).1
def f86 (k:Nat) (x0:((List Int) × Bool)):Option (ByteArray × ((List Int) × Bool)):=(f62 k x0).bind fun r1 => (if (bif r1.2.2 then true else (decide (r1.1 > (List.length r1.2.1:Int)))) then (some ((⟨#[]⟩:ByteArray),(r1.2.1,true))) else (if (True ∧ ((0:Int)≤r1.1)∧0 ≤ (Int.toNat r1.1) ∧ (Int.toNat r1.1) ≤ (List.length r1.2.1)) then (if (((0:Int)≤r1.1)∧True ∧ (Int.toNat r1.1) ≤ (List.length r1.2.1) ∧ (List.length r1.2.1) ≤ (List.length r1.2.1)) then (some ((strOfNums (List.drop 0 (List.take (Int.toNat r1.1) r1.2.1))),((List.drop (Int.toNat r1.1) (List.take (List.length r1.2.1) r1.2.1)),r1.2.2))) else none) else none))
theorem c86 (k:Nat) (x0:((List Int) × Bool)) (r:(ByteArray × ((List Int) × Bool))) (hF:f86 k x0=some r):PMut Try.prog 86 [⟨sh15,some x0⟩] [⟨.str,r.1⟩] (List.set [⟨sh15,some x0⟩] 0 ⟨sh15,some r.2⟩):=by
 refine pmutO_intro (j:=0) (fin:=⟨sh15,some r.2⟩) Try.func86 rfl rfl (Nat.le_of_ble_eq_true rfl) (Nat.le_of_ble_eq_true rfl) (by kernel_rfl) (by kernel_rfl) ?_
 intro w0 Zi f0 v0 hw a w h
 rw [f86] at hF
 refine wp_reg_seq tok (orc:=o0) (fz:=[]) (l:=[0]) (.inl rfl) h (by kernel_rfl) an fun a w h => ?_
 obtain ⟨r1,hr4,hF⟩:=of_bind hF
 refine wp_reg_seq tok (orc:=orcL [(6,[⟨.pt false 4294967295 (.pt true 104 (.st (.pair (.sl false 5 (.int .u8)) .bool))),some (some r1.2)⟩,⟨iS,r1.1⟩])]) (fz:=[]) (l:=[0,3]) (.inl rfl) h (by kernel_rfl) (ac (c62 k x0 r1 hr4) an) fun a w h => ?_
 refine wp_seq ?_
 refine wp_reg_seq tok (orc:=o0) (fz:=[]) (l:=[0,3,19]) (.inl rfl) h (by kernel_rfl) an fun a w h => ?_
 refine zi h hF (fun hF => ?_) (fun hF => ?_)
 ·refine wp_reg_seq tok (orc:=o0) (fz:=[]) (l:=[0]) (.inl rfl) h (by kernel_rfl) an fun a w h => ?_
  refine wp_reg_seq tok (orc:=o0) (fz:=[]) (l:=[0,2]) (.inl rfl) h (by kernel_rfl) an fun a w h => ?_
  cases hF
  exact wp_ret (retO_ok tok h rfl (by kernel_rfl)).1
 ·refine wp_skip ?_
  obtain ⟨hc3,hF⟩:=of_if hF
  refine wp_reg_seq tok (orc:=o0) (fz:=[]) (l:=[0,3,4]) (.inl rfl) h (by kernel_rfl) (ac hc3 an) fun a w h => ?_
  obtain ⟨hc2,hF⟩:=of_if hF
  refine wp_reg_seq tok (orc:=o0) (fz:=[]) (l:=[0,4]) (.inl rfl) h (by kernel_rfl) (ac hc2 an) fun a w h => ?_
  refine wp_reg_seq tok (orc:=o0) (fz:=[]) (l:=[0,2]) (.inl rfl) h (by kernel_rfl) an fun a w h => ?_
  cases hF
  exact wp_ret (retO_ok tok h rfl (by kernel_rfl)).1
def f64.l45 (k:Nat) (r1:(Int × ((List Int) × Bool))):Nat → (((List Int) × Bool) × (List (ByteArray × ByteArray)) × Int)→Option ((List (ByteArray × ByteArray)) × ((List Int) × Bool))
 | 0,_ => none
 | m45+1,(v75,v76,v77) => if (bif (decide (v77 < r1.1)) then (!v75.2) else false) then ((f86 k v75).bind fun r83 => ((f86 k r83.2).bind fun r84 => (if ((List.length v76+List.length [(r83.1,r84.1)])*32≤140737488355328) then ((f64.l45 k r1) m45 (r84.2,(v76 ++ [(r83.1,r84.1)]),(IntKind.i64.wrap (v77 + (1:Int))))) else none))) else (some (v76,v75))
def f64 (k:Nat) (x0:((List Int) × Bool)):Option ((List (ByteArray × ByteArray)) × ((List Int) × Bool)):=(f62 k x0).bind fun r1 => (f64.l45 k r1 k (r1.2,([]:(List (ByteArray × ByteArray))),(0:Int)))
theorem c64 (k:Nat) (x0:((List Int) × Bool)) (r:((List (ByteArray × ByteArray)) × ((List Int) × Bool))) (hF:f64 k x0=some r):PMut Try.prog 64 [⟨sh15,some x0⟩] [⟨sh4,r.1⟩] (List.set [⟨sh15,some x0⟩] 0 ⟨sh15,some r.2⟩):=by
 refine pmutO_intro (j:=0) (fin:=⟨sh15,some r.2⟩) Try.func64 rfl rfl (Nat.le_of_ble_eq_true rfl) (Nat.le_of_ble_eq_true rfl) (by kernel_rfl) (by kernel_rfl) ?_
 intro w0 Zi f0 v0 hw a w h
 rw [f64] at hF
 refine wp_reg_seq tok (orc:=o0) (fz:=[]) (l:=[0]) (.inl rfl) h (by kernel_rfl) an fun a w h => ?_
 obtain ⟨r1,hr88,hF⟩:=of_bind hF
 refine wp_reg_seq tok (orc:=orcL [(7,[⟨.pt false 4294967295 (.pt true 104 (.st (.pair (.sl false 5 (.int .u8)) .bool))),some (some r1.2)⟩,⟨iS,r1.1⟩])]) (fz:=[]) (l:=[0,3]) (.inl rfl) h (by kernel_rfl) (ac (c62 k x0 r1 hr88) an) fun a w h => ?_
 refine wp_reg_seq tok (orc:=o0) (fz:=[]) (l:=[0,3,4]) (.inl rfl) h (by kernel_rfl) an fun a w h => ?_
 refine wp_seq ?_
 refine wp_reg_seq tok (orc:=o0) (fz:=[]) (l:=[0,3,4,5]) (.inl rfl) h (by kernel_rfl) an fun a w h => ?_
 refine wp_block ?_
 refine wp_loop_fuel (f64.l45 k r1) (fun ((v75,v76,v77):(((List Int) × Bool) × (List (ByteArray × ByteArray)) × Int)) => [(0,.val sh15 (some v75)),(3,.val iS r1.1),(4,.val sh4 v76),(5,.val iS v77)]) (fun v h => by obtain ⟨v75,v76,v77⟩:=v; rw [f64.l45] at h; cases h) ?_ hF (h.arrive (fz:=[]) (l:=[0,3,4,5]) (.inl rfl) (by kernel_rfl))
 intro m45 v a w hF h
 obtain ⟨v75,v76,v77⟩:=v
 rw [f64.l45] at hF
 refine wp_seq ?_
 refine wp_reg_seq tok (orc:=o0) (fz:=[]) (l:=[0,3,4,5,17]) (.inl rfl) h (by kernel_rfl) an fun a w h => ?_
 refine zi h hF (fun hF => ?_) (fun hF => ?_)
 ·refine wp_skip ?_
  refine wp_seq <| wp_block ?_
  obtain ⟨r83,hr85,hF⟩:=of_bind hF
  obtain ⟨r84,hr86,hF⟩:=of_bind hF
  obtain ⟨hc87,hF⟩:=of_if hF
  refine wp_reg tok (orc:=orcL [(22,[⟨.pt false 4294967295 (.pt true 104 (.st (.pair (.sl false 5 (.int .u8)) .bool))),some (some r83.2)⟩,⟨.str,r83.1⟩]),(24,[⟨.pt false 4294967295 (.pt true 104 (.st (.pair (.sl false 5 (.int .u8)) .bool))),some (some r84.2)⟩,⟨.str,r84.1⟩])]) (fz:=[]) (l:=[0,3,4,5]) (.inl rfl) h (by kernel_rfl) (ac (c86 k v75 r83 hr85) (ac (c86 k r83.2 r84 hr86) (ac hc87 an))) fun a w h => ?_
  refine wp_reg tok (orc:=o0) (fz:=[]) (l:=[0,3,4,5]) (.inl rfl) h (by kernel_rfl) an fun a w h => ?_
  exact ⟨(r84.2,(v76 ++ [(r83.1,r84.1)]),(w64 (v77 + (1:Int)))),hF,h.arrive (fz:=[]) (l:=[0,3,4,5]) (.inl rfl) (by kernel_rfl)⟩
 ·refine wp_exit ?_
  refine wp_reg_seq tok (orc:=o0) (fz:=[]) (l:=[0,2,4]) (.inl rfl) h (by kernel_rfl) an fun a w h => ?_
  cases hF
  exact wp_ret (retO_ok tok h rfl (by kernel_rfl)).1
def f49 (k:Nat) (x0:(Int × (Int × Int))):Option Bool:=if (bif (decide (x0.1 < (0:Int))) then true else (decide (x0.1 > (10:Int)))) then (some false) else (if ((0:Int)≤x0.1) then (some (bif (bif (bif (decide (x0.2.1 ≥ (0:Int))) then (decide (x0.2.1 < (IntKind.i64.wrap ((1:Int)*2 ^ (min (Int.toNat x0.1) IntKind.i64.bits))))) else false) then (decide (x0.2.2 ≥ (0:Int))) else false) then (decide (x0.2.2 < (IntKind.i64.wrap ((1:Int)*2 ^ (min (Int.toNat x0.1) IntKind.i64.bits))))) else false)) else none)
theorem c49 (k:Nat) (x0:(Int × (Int × Int))) (r:Bool) (hF:f49 k x0=some r):PCall Try.prog 49 [⟨sh5,x0⟩] [⟨.bool,r⟩]:=by
 refine pcall_intro Try.func49 rfl rfl (Nat.le_of_ble_eq_true rfl) ?_
 intro w0 Zi a w h
 rw [f49] at hF
 refine zs [1] h an fun a w h => ?_
 refine wp_seq ?_
 refine zs [1,11] h an fun a w h => ?_
 refine zi h hF (fun hF => ?_) (fun hF => ?_)
 ·refine zs [2] h an fun a w h => ?_
  cases hF
  exact wp_ret (ret_okR tok h rfl (by kernel_rfl)).1
 ·refine wp_skip ?_
  obtain ⟨hc1,hF⟩:=of_if hF
  refine zs [1,3] h (ac hc1 an) fun a w h => ?_
  refine zs [2] h an fun a w h => ?_
  cases hF
  exact wp_ret (ret_okR tok h rfl (by kernel_rfl)).1
def f50.l16 (k:Nat):Nat → (((List Int) × Unit) × Int)→Option ((List Int) × Unit)
 | 0,_ => none
 | m16+1,(v27,v28) => if (decide (v28 ≥ (128:Int))) then (if ((List.length v27.1+List.length [(Go.bits .or .u8 (IntKind.u8.wrap v28) (128:Int))])*1≤140737488355328) then (if ((0:Int) ≤ (7:Int)) then ((f50.l16 k) m16 (((List.append v27.1 [(Go.bits .or .u8 (IntKind.u8.wrap v28) (128:Int))]),v27.2),(Int.fdiv v28 (2 ^ (min (Int.toNat (7:Int)) IntKind.u64.bits))))) else none) else none) else (if ((List.length v27.1+List.length [(IntKind.u8.wrap v28)])*1≤140737488355328) then (some ((List.append v27.1 [(IntKind.u8.wrap v28)]),v27.2)) else none)
def f50 (k:Nat) (x0:((List Int) × Unit)) (x1:Int):Option ((List Int) × Unit):=f50.l16 k k (x0,(IntKind.u64.wrap x1))
theorem c50 (k:Nat) (x0:((List Int) × Unit)) (x1:Int) (r:((List Int) × Unit)) (hF:f50 k x0 x1=some r):PMut Try.prog 50 [⟨sh16,some x0⟩,⟨iS,x1⟩] [] (List.set [⟨sh16,some x0⟩,⟨iS,x1⟩] 0 ⟨sh16,some r⟩):=by
 refine pmut_intro (j:=0) (fin:=⟨sh16,some r⟩) Try.func50 rfl rfl (Nat.le_of_ble_eq_true rfl) (Nat.le_of_ble_eq_true rfl) (by kernel_rfl) ?_
 intro w0 Zi f0 v0 a w h
 rw [f50] at hF
 refine wp_reg_seq tok (orc:=o0) (fz:=[]) (l:=[0,4]) (.inl rfl) h (by kernel_rfl) an fun a w h => ?_
 refine wp_seq <| wp_block ?_
 refine wp_loop_fuel (f50.l16 k) (fun ((v27,v28):(((List Int) × Unit) × Int)) => [(0,.val sh16 (some v27)),(4,.val (.int .u64) v28)]) (fun v h => by obtain ⟨v27,v28⟩:=v; rw [f50.l16] at h; cases h) ?_ hF (h.arrive (fz:=[]) (l:=[0,4]) (.inl rfl) (by kernel_rfl))
 intro m16 v a w hF h
 obtain ⟨v27,v28⟩:=v
 rw [f50.l16] at hF
 refine wp_seq ?_
 refine wp_reg_seq tok (orc:=o0) (fz:=[]) (l:=[0,4,8]) (.inl rfl) h (by kernel_rfl) an fun a w h => ?_
 refine zi h hF (fun hF => ?_) (fun hF => ?_)
 ·refine wp_skip ?_
  refine wp_block ?_
  obtain ⟨hc30,hF⟩:=of_if hF
  refine wp_reg_seq tok (orc:=orcL [(18,[⟨.pt false 4294967293 .unit,some ()⟩])]) (fz:=[]) (l:=[0,4]) (.inl rfl) h (by kernel_rfl) (ac (PrefL.mk (l:=[[],[],[],[.der,.fst],[.der,.fst]]) (p:=[.der,.fst]) rfl) (ac hc30 (ac (show ([.der,.fst]:Path)=[.der,.fst] from rfl) an))) fun a w h => ?_
  obtain ⟨hc29,hF⟩:=of_if hF
  refine wp_reg tok (orc:=o0) (fz:=[]) (l:=[0,4]) (.inl rfl) h (by kernel_rfl) (ac hc29 an) fun a w h => ?_
  exact ⟨(((List.append v27.1 [(Go.bits .or .u8 (IntKind.u8.wrap v28) (128:Int))]),v27.2),(Int.fdiv v28 (2 ^ (min (tZ (7:Int)) IntKind.u64.bits)))),hF,h.arrive (fz:=[]) (l:=[0,4]) (.inl rfl) (by kernel_rfl)⟩
 ·refine wp_exit ?_
  obtain ⟨hc31,hF⟩:=of_if hF
  refine wp_reg tok (orc:=orcL [(31,[⟨.pt false 4294967293 .unit,some ()⟩])]) (fz:=[]) (l:=[0]) (.inl rfl) h (by kernel_rfl) (ac (PrefL.mk (l:=[[],[],[],[.der,.fst],[.der,.fst]]) (p:=[.der,.fst]) rfl) (ac hc31 (ac (show ([.der,.fst]:Path)=[.der,.fst] from rfl) an))) fun a w h => ?_
  cases hF
  exact (retM_ok tok h rfl (by kernel_rfl) (by kernel_rfl)).2
def f51 (k:Nat) (x0:Int):Option Bool:=some (bif (decide (x0 ≥ (1:Int))) then (decide (x0 ≤ (1000000000:Int))) else false)
theorem c51 (k:Nat) (x0:Int) (r:Bool) (hF:f51 k x0=some r):PCall Try.prog 51 [⟨iS,x0⟩] [⟨.bool,r⟩]:=by
 refine pcall_intro Try.func51 rfl rfl (Nat.le_of_ble_eq_true rfl) ?_
 intro w0 Zi a w h
 rw [f51] at hF
 refine zs [0] h an fun a w h => ?_
 refine zs [2] h an fun a w h => ?_
 cases hF
 exact wp_ret (ret_okR tok h rfl (by kernel_rfl)).1
def f80.l12 (k:Nat) (x0:ByteArray):Nat→Int→Option Bool
 | 0,_ => none
 | m12+1,v20 => if (decide (v20 < (ByteArray.size x0:Int))) then (if ((0:Int)≤v20∧v20 < (ByteArray.size x0:Int)) then (if (!(bif (bif (bif (bif (decide (((byteAt x0 v20):Int) ≥ (97:Int))) then (decide (((byteAt x0 v20):Int) ≤ (122:Int))) else false) then true else (bif (decide (((byteAt x0 v20):Int) ≥ (48:Int))) then (decide (((byteAt x0 v20):Int) ≤ (57:Int))) else false)) then true else (((byteAt x0 v20):Int) == (58:Int))) then true else (((byteAt x0 v20):Int) == (95:Int)))) then (some false) else ((f80.l12 k x0) m12 (IntKind.i64.wrap (v20 + (1:Int))))) else none) else (some true)
def f80 (k:Nat) (x0:ByteArray):Option Bool:=if (bif (decide (((ByteArray.size x0:Int):Int) < (1:Int))) then true else (decide (((ByteArray.size x0:Int):Int) > (40:Int)))) then (some false) else (f80.l12 k x0 k (0:Int))
theorem c80 (k:Nat) (x0:ByteArray) (r:Bool) (hF:f80 k x0=some r):PCall Try.prog 80 [⟨.str,x0⟩] [⟨.bool,r⟩]:=by
 refine pcall_intro Try.func80 rfl rfl (Nat.le_of_ble_eq_true rfl) ?_
 intro w0 Zi a w h
 rw [f80] at hF
 refine zs [0] h an fun a w h => ?_
 refine wp_seq ?_
 refine zs [0,12] h an fun a w h => ?_
 refine zi h hF (fun hF => ?_) (fun hF => ?_)
 ·refine zs [2] h an fun a w h => ?_
  cases hF
  exact wp_ret (ret_okR tok h rfl (by kernel_rfl)).1
 ·refine wp_skip ?_
  refine wp_seq ?_
  refine zs [0,3] h an fun a w h => ?_
  refine wp_block ?_
  refine wp_loop_fuel (f80.l12 k x0) (fun v20 => [(0,.val .str x0),(3,.val iS v20)]) (fun v h => by rw [f80.l12] at h; cases h) ?_ hF (ar h [0,3])
  intro m12 v20 a w hF h
  rw [f80.l12] at hF
  refine wp_seq ?_
  refine zs [0,3,16] h an fun a w h => ?_
  refine zi h hF (fun hF => ?_) (fun hF => ?_)
  ·refine wp_skip ?_
   refine wp_seq <| wp_block ?_
   obtain ⟨hc22,hF⟩:=of_if hF
   refine zs [0,3,4] h (ac hc22 an) fun a w h => ?_
   refine zs [0,3,44] h an fun a w h => ?_
   refine zi h hF (fun hF => ?_) (fun hF => ?_)
   ·refine zs [2] h an fun a w h => ?_
    cases hF
    exact wp_ret (ret_okR tok h rfl (by kernel_rfl)).1
   ·refine wp_skip ?_
    refine zt [0,3] h an fun a w h => ?_
    exact ⟨(w64 (v20 + (1:Int))),hF,ar h [0,3]⟩
  ·refine wp_exit ?_
   refine zs [2] h an fun a w h => ?_
   cases hF
   exact wp_ret (ret_okR tok h rfl (by kernel_rfl)).1
def f52.l266 (k:Nat) (x0:(List (ByteArray × ByteArray))) (v240:Int) (q144:Int→Option Bool):Nat→Int→Option Bool
 | 0,_ => none
 | m266+1,v278 => if (decide (v278 < (ByteArray.size (List.getD x0 (Int.toNat v240) ((⟨#[]⟩:ByteArray),(⟨#[]⟩:ByteArray))).2:Int))) then (if ((0:Int)≤v278∧v278 < (ByteArray.size (List.getD x0 (Int.toNat v240) ((⟨#[]⟩:ByteArray),(⟨#[]⟩:ByteArray))).2:Int)) then (if (((decide (((byteAt (List.getD x0 (Int.toNat v240) ((⟨#[]⟩:ByteArray),(⟨#[]⟩:ByteArray))).2 v278):Int) < (32:Int)))=false) → ((0:Int)≤v278∧v278 < (ByteArray.size (List.getD x0 (Int.toNat v240) ((⟨#[]⟩:ByteArray),(⟨#[]⟩:ByteArray))).2:Int))) then (if (bif (decide (((byteAt (List.getD x0 (Int.toNat v240) ((⟨#[]⟩:ByteArray),(⟨#[]⟩:ByteArray))).2 v278):Int) < (32:Int))) then true else (decide (((byteAt (List.getD x0 (Int.toNat v240) ((⟨#[]⟩:ByteArray),(⟨#[]⟩:ByteArray))).2 v278):Int) > (126:Int)))) then (some false) else ((f52.l266 k x0 v240 q144) m266 (IntKind.i64.wrap (v278 + (1:Int))))) else none) else none) else (q144 (IntKind.i64.wrap (v240 + (1:Int))))
def f52.l144 (k:Nat) (x0:(List (ByteArray × ByteArray))):Nat→Int→Option Bool
 | 0,_ => none
 | m144+1,v240 => if (decide (v240 < (List.length x0:Int))) then (if (0≤v240∧v240 < (List.length x0:Int)) then ((f80 k (List.getD x0 (Int.toNat v240) ((⟨#[]⟩:ByteArray),(⟨#[]⟩:ByteArray))).1).bind fun r264 => (if ((((bif (bif (!r264) then true else (decide (((ByteArray.size (List.getD x0 (Int.toNat v240) ((⟨#[]⟩:ByteArray),(⟨#[]⟩:ByteArray))).2:Int):Int) < (1:Int)))) then true else (decide (((ByteArray.size (List.getD x0 (Int.toNat v240) ((⟨#[]⟩:ByteArray),(⟨#[]⟩:ByteArray))).2:Int):Int) > (100:Int))))=false) ∧ ((decide (v240 > (0:Int)))=true)) → (0 ≤ (IntKind.i64.wrap (v240 - (1:Int))) ∧ (IntKind.i64.wrap (v240 - (1:Int))) < (List.length x0:Int))) then ((some ((bif (bif (bif (!r264) then true else (decide (((ByteArray.size (List.getD x0 (Int.toNat v240) ((⟨#[]⟩:ByteArray),(⟨#[]⟩:ByteArray))).2:Int):Int) < (1:Int)))) then true else (decide (((ByteArray.size (List.getD x0 (Int.toNat v240) ((⟨#[]⟩:ByteArray),(⟨#[]⟩:ByteArray))).2:Int):Int) > (100:Int)))) then true else (bif (decide (v240 > (0:Int))) then (!(Op.bytesLess (ByteArray.toList (List.getD x0 (Int.toNat (IntKind.i64.wrap (v240 - (1:Int)))) ((⟨#[]⟩:ByteArray),(⟨#[]⟩:ByteArray))).1) (ByteArray.toList (List.getD x0 (Int.toNat v240) ((⟨#[]⟩:ByteArray),(⟨#[]⟩:ByteArray))).1))) else false)):Bool)).bind fun v265 => (if v265 then (some false) else (f52.l266 k x0 v240 ((f52.l144 k x0) m144) k (0:Int)))) else none)) else none) else (some true)
def f52 (k:Nat) (x0:(List (ByteArray × ByteArray))):Option Bool:=if (decide (((List.length x0:Int):Int) > (30:Int))) then (some false) else (f52.l144 k x0 k (0:Int))
theorem c52 (k:Nat) (x0:(List (ByteArray × ByteArray))) (r:Bool) (hF:f52 k x0=some r):PCall Try.prog 52 [⟨sh7,x0⟩] [⟨.bool,r⟩]:=by
 refine pcall_intro Try.func52 rfl rfl (Nat.le_of_ble_eq_true rfl) ?_
 intro w0 Zi a w h
 rw [f52] at hF
 refine zs [0] h an fun a w h => ?_
 refine wp_seq ?_
 refine zs [0,8] h an fun a w h => ?_
 refine zi h hF (fun hF => ?_) (fun hF => ?_)
 ·refine zs [2] h an fun a w h => ?_
  cases hF
  exact wp_ret (ret_okR tok h rfl (by kernel_rfl)).1
 ·refine wp_skip ?_
  refine wp_seq ?_
  refine zs [0,9,10,11] h an fun a w h => ?_
  refine wp_block ?_
  refine wp_loop_fuel (f52.l144 k x0) (fun v240 => [(0,.val sh7 x0),(9,.val sh7 x0),(10,.val iS (List.length x0:Int)),(11,.val iS v240)]) (fun v h => by rw [f52.l144] at h; cases h) ?_ hF (ar h [0,9,10,11])
  intro m144 v240 a w hF h
  rw [f52.l144] at hF
  refine zs [0,9,10,11,12] h an fun a w h => ?_
  refine wp_seq <| zi h hF (fun hF => ?_) (fun hF => ?_)
  ·refine wp_skip ?_
   refine wp_seq <| wp_block ?_
   obtain ⟨hc286,hF⟩:=of_if hF
   refine zs [0,3,4,9,10,11] h (ac hc286 an) fun a w h => ?_
   refine wp_seq ?_
   obtain ⟨r264,hr284,hF⟩:=of_bind hF
   obtain ⟨hc285,hF⟩:=of_if hF
   refine wp_regy_seq tok (orc:=orcL [(18,[⟨.bool,r264⟩])]) (l:=[0,4,9,10,11,46]) ([],[],[],[]) 31 nw h (by kernel_rfl) (by kernel_rfl) (ac (c80 k (gD x0 (tZ v240) ((⟨#[]⟩:ByteArray),(⟨#[]⟩:ByteArray))).1 r264 hr284) (ac hc285 an)) fun a w h => ?_
   obtain ⟨v265,hv283,hF⟩:=of_bind hF
   replace h:=h.cast (S':=[(0,.val sh7 x0),(4,.val sh17 (some (gD x0 (tZ v240) ((⟨#[]⟩:ByteArray),(⟨#[]⟩:ByteArray))))),(9,.val sh7 x0),(10,.val iS (List.length x0:Int)),(11,.val iS v240),(46,.val .bool v265)]) (by cases hv283; kernel_rfl)
   refine zi h hF (fun hF => ?_) (fun hF => ?_)
   ·refine zs [2] h an fun a w h => ?_
    cases hF
    exact wp_ret (ret_okR tok h rfl (by kernel_rfl)).1
   ·refine wp_skip ?_
    refine zs [0,4,5,9,10,11] h an fun a w h => ?_
    refine wp_block ?_
    refine wp_loop_fuel (f52.l266 k x0 v240 ((f52.l144 k x0) m144)) (fun v278 => [(0,.val sh7 x0),(4,.val sh17 (some (gD x0 (tZ v240) ((⟨#[]⟩:ByteArray),(⟨#[]⟩:ByteArray))))),(5,.val iS v278),(9,.val sh7 x0),(10,.val iS (List.length x0:Int)),(11,.val iS v240)]) (fun v h => by rw [f52.l266] at h; cases h) ?_ hF (ar h [0,4,5,9,10,11])
    intro m266 v278 a w hF h
    rw [f52.l266] at hF
    refine wp_seq ?_
    refine zs [0,4,5,9,10,11,51] h an fun a w h => ?_
    refine zi h hF (fun hF => ?_) (fun hF => ?_)
    ·refine wp_skip ?_
     refine wp_seq <| wp_block ?_
     obtain ⟨hc281,hF⟩:=of_if hF
     obtain ⟨hc282,hF⟩:=of_if hF
     refine zs [0,4,5,9,10,11,65] h (ac hc281 (ac hc282 an)) fun a w h => ?_
     refine zi h hF (fun hF => ?_) (fun hF => ?_)
     ·refine zs [2] h an fun a w h => ?_
      cases hF
      exact wp_ret (ret_okR tok h rfl (by kernel_rfl)).1
     ·refine wp_skip ?_
      refine zt [0,4,5,9,10,11] h an fun a w h => ?_
      exact ⟨(w64 (v278 + (1:Int))),hF,ar h [0,4,5,9,10,11]⟩
    ·refine wp_exit ?_
     refine zt [0,9,10,11] h an fun a w h => ?_
     exact ⟨(w64 (v240 + (1:Int))),hF,ar h [0,9,10,11]⟩
  ·refine wp_exit ?_
   refine zs [2] h an fun a w h => ?_
   cases hF
   exact wp_ret (ret_okR tok h rfl (by kernel_rfl)).1
def f53 (k:Nat) (x0:((List Int) × Unit)) (x1:Int):Option ((List Int) × Unit):=if (decide (x1 < (0:Int))) then ((f50 k x0 (IntKind.i64.wrap ((IntKind.i64.wrap ((-2:Int)*x1)) - (1:Int)))).bind fun r1 => (some r1)) else ((f50 k x0 (IntKind.i64.wrap ((2:Int)*x1))).bind fun r3 => (some r3))
theorem c53 (k:Nat) (x0:((List Int) × Unit)) (x1:Int) (r:((List Int) × Unit)) (hF:f53 k x0 x1=some r):PMut Try.prog 53 [⟨sh16,some x0⟩,⟨iS,x1⟩] [] (List.set [⟨sh16,some x0⟩,⟨iS,x1⟩] 0 ⟨sh16,some r⟩):=by
 refine pmut_intro (j:=0) (fin:=⟨sh16,some r⟩) Try.func53 rfl rfl (Nat.le_of_ble_eq_true rfl) (Nat.le_of_ble_eq_true rfl) (by kernel_rfl) ?_
 intro w0 Zi f0 v0 a w h
 rw [f53] at hF
 refine wp_reg_seq tok (orc:=o0) (fz:=[]) (l:=[0,1,5]) (.inl rfl) h (by kernel_rfl) an fun a w h => ?_
 refine zi h hF (fun hF => ?_) (fun hF => ?_)
 ·obtain ⟨r1,hr2,hF⟩:=of_bind hF
  refine wp_reg tok (orc:=orcL [(10,[⟨.pt false 4294967295 (.pt true 87 (.st (.pair (.sl true 5 (.int .u8)) .unit))),some (some r1)⟩])]) (fz:=[]) (l:=[0]) (.inl rfl) h (by kernel_rfl) (ac (c50 k x0 (w64 ((w64 ((-2:Int)*x1)) - (1:Int))) r1 hr2) an) fun a w h => ?_
  cases hF
  exact (retM_ok tok h rfl (by kernel_rfl) (by kernel_rfl)).2
 ·obtain ⟨r3,hr4,hF⟩:=of_bind hF
  refine wp_reg tok (orc:=orcL [(14,[⟨.pt false 4294967295 (.pt true 87 (.st (.pair (.sl true 5 (.int .u8)) .unit))),some (some r3)⟩])]) (fz:=[]) (l:=[0]) (.inl rfl) h (by kernel_rfl) (ac (c50 k x0 (w64 ((2:Int)*x1)) r3 hr4) an) fun a w h => ?_
  cases hF
  exact (retM_ok tok h rfl (by kernel_rfl) (by kernel_rfl)).2
def f54.l2 (k:Nat) (x1:(List (ByteArray × ByteArray))):Nat → (((List Int) × Unit) × Int)→Option ((List Int) × Unit)
 | 0,_ => none
 | m2+1,(v37,v38) => if (decide (v38 < (List.length x1:Int))) then (if (0≤v38∧v38 < (List.length x1:Int)) then ((f50 k v37 (ByteArray.size (List.getD x1 (Int.toNat v38) ((⟨#[]⟩:ByteArray),(⟨#[]⟩:ByteArray))).1:Int)).bind fun r46 => (if (List.length r46.1+ByteArray.size (List.getD x1 (Int.toNat v38) ((⟨#[]⟩:ByteArray),(⟨#[]⟩:ByteArray))).1≤140737488355328) then ((f50 k ((List.append r46.1 (strNums (List.getD x1 (Int.toNat v38) ((⟨#[]⟩:ByteArray),(⟨#[]⟩:ByteArray))).1)),r46.2) (ByteArray.size (List.getD x1 (Int.toNat v38) ((⟨#[]⟩:ByteArray),(⟨#[]⟩:ByteArray))).2:Int)).bind fun r47 => (if (List.length r47.1+ByteArray.size (List.getD x1 (Int.toNat v38) ((⟨#[]⟩:ByteArray),(⟨#[]⟩:ByteArray))).2≤140737488355328) then ((f54.l2 k x1) m2 (((List.append r47.1 (strNums (List.getD x1 (Int.toNat v38) ((⟨#[]⟩:ByteArray),(⟨#[]⟩:ByteArray))).2)),r47.2),(IntKind.i64.wrap (v38 + (1:Int))))) else none)) else none)) else none) else (some v37)
def f54 (k:Nat) (x0:((List Int) × Unit)) (x1:(List (ByteArray × ByteArray))):Option ((List Int) × Unit):=(f50 k x0 (List.length x1:Int)).bind fun r1 => (f54.l2 k x1 k (r1,(0:Int)))
theorem c54 (k:Nat) (x0:((List Int) × Unit)) (x1:(List (ByteArray × ByteArray))) (r:((List Int) × Unit)) (hF:f54 k x0 x1=some r):PMut Try.prog 54 [⟨sh16,some x0⟩,⟨sh7,x1⟩] [] (List.set [⟨sh16,some x0⟩,⟨sh7,x1⟩] 0 ⟨sh16,some r⟩):=by
 refine pmut_intro (j:=0) (fin:=⟨sh16,some r⟩) Try.func54 rfl rfl (Nat.le_of_ble_eq_true rfl) (Nat.le_of_ble_eq_true rfl) (by kernel_rfl) ?_
 intro w0 Zi f0 v0 a w h
 rw [f54] at hF
 obtain ⟨r1,hr53,hF⟩:=of_bind hF
 refine wp_reg_seq tok (orc:=orcL [(9,[⟨.pt false 4294967295 (.pt true 87 (.st (.pair (.sl true 5 (.int .u8)) .unit))),some (some r1)⟩])]) (fz:=[]) (l:=[0,1]) (.inl rfl) h (by kernel_rfl) (ac (c50 k x0 (List.length x1:Int) r1 hr53) an) fun a w h => ?_
 refine wp_reg_seq tok (orc:=o0) (fz:=[]) (l:=[0,10,11,12]) (.inl rfl) h (by kernel_rfl) an fun a w h => ?_
 refine wp_block ?_
 refine wp_loop_fuel (f54.l2 k x1) (fun ((v37,v38):(((List Int) × Unit) × Int)) => [(0,.val sh16 (some v37)),(10,.val sh7 x1),(11,.val iS (List.length x1:Int)),(12,.val iS v38)]) (fun v h => by obtain ⟨v37,v38⟩:=v; rw [f54.l2] at h; cases h) ?_ hF (h.arrive (fz:=[]) (l:=[0,10,11,12]) (.inl rfl) (by kernel_rfl))
 intro m2 v a w hF h
 obtain ⟨v37,v38⟩:=v
 rw [f54.l2] at hF
 refine wp_reg_seq tok (orc:=o0) (fz:=[]) (l:=[0,10,11,12,13]) (.inl rfl) h (by kernel_rfl) an fun a w h => ?_
 refine wp_seq <| zi h hF (fun hF => ?_) (fun hF => ?_)
 ·refine wp_skip ?_
  refine wp_seq <| wp_block ?_
  obtain ⟨hc52,hF⟩:=of_if hF
  refine wp_reg_seq tok (orc:=o0) (fz:=[]) (l:=[0,5,10,11,12]) (.inl rfl) h (by kernel_rfl) (ac hc52 an) fun a w h => ?_
  obtain ⟨r46,hr51,hF⟩:=of_bind hF
  refine wp_reg_seq tok (orc:=orcL [(20,[⟨.pt false 4294967295 (.pt true 87 (.st (.pair (.sl true 5 (.int .u8)) .unit))),some (some r46)⟩])]) (fz:=[]) (l:=[0,5,10,11,12]) (.inl rfl) h (by kernel_rfl) (ac (c50 k v37 (ByteArray.size (gD x1 (tZ v38) ((⟨#[]⟩:ByteArray),(⟨#[]⟩:ByteArray))).1:Int) r46 hr51) an) fun a w h => ?_
  obtain ⟨hc50,hF⟩:=of_if hF
  refine wp_regX_seq (sxB_ok tok [(7,.appg)] (sxA_ok tok (orc:=o0) (spA:=[]) (sp:=[]))) [((0,.val sh16 (some r46)),none,some 10),((0,.val sh16 (some ((List.append r46.1 (strNums (gD x1 (tZ v38) ((⟨#[]⟩:ByteArray),(⟨#[]⟩:ByteArray))).1)),r46.2))),some 10,none),((5,.val sh17 (some (gD x1 (tZ v38) ((⟨#[]⟩:ByteArray),(⟨#[]⟩:ByteArray))))),none,none),((10,.val sh7 x1),none,none),((11,.val iS (List.length x1:Int)),none,none),((12,.val iS v38),none,none),((24,.addr 0 [.der,.fst]),some 3,some 10),((25,.copy 0 [.der,.fst]),some 4,some 10),((26,.addr 5 [.der,.fst]),some 5,none),((27,.val .str (gD x1 (tZ v38) ((⟨#[]⟩:ByteArray),(⟨#[]⟩:ByteArray))).1),some 6,none),((28,.grown 0 [.der,.fst] ⟨(.sl true 5 (.int .u8)),(List.append r46.1 (strNums (gD x1 (tZ v38) ((⟨#[]⟩:ByteArray),(⟨#[]⟩:ByteArray))).1))⟩),some 7,some 10),((30,.addr 0 [.der,.fst]),some 9,some 10)] [(21,0,0,10),(22,0,1,10),(23,0,2,10),(29,0,8,10)] [0,1,3,35,39,99,47,103,63,111,127,255,511,1023,2047] 2047 [(7,0,1),(10,1,1)] h (by kernel_rfl) (by kernel_rfl) (by kernel_rfl) (ac hc50 (ac (show ([.der,.fst]:Path)=[.der,.fst] from rfl) an)) (fun _ _ _ _ _ h => h) fun a w h => ?_
  obtain ⟨r47,hr49,hF⟩:=of_bind hF
  refine wp_reg_seq tok (orc:=orcL [(35,[⟨.pt false 4294967295 (.pt true 87 (.st (.pair (.sl true 5 (.int .u8)) .unit))),some (some r47)⟩])]) (fz:=[]) (l:=[0,5,10,11,12]) (.inl rfl) h (by kernel_rfl) (ac (c50 k ((List.append r46.1 (strNums (gD x1 (tZ v38) ((⟨#[]⟩:ByteArray),(⟨#[]⟩:ByteArray))).1)),r46.2) (ByteArray.size (gD x1 (tZ v38) ((⟨#[]⟩:ByteArray),(⟨#[]⟩:ByteArray))).2:Int) r47 hr49) an) fun a w h => ?_
  obtain ⟨hc48,hF⟩:=of_if hF
  refine wp_regX (sxB_ok tok [(7,.appg)] (sxA_ok tok (orc:=o0) (spA:=[]) (sp:=[]))) [((0,.val sh16 (some r47)),none,some 10),((0,.val sh16 (some ((List.append r47.1 (strNums (gD x1 (tZ v38) ((⟨#[]⟩:ByteArray),(⟨#[]⟩:ByteArray))).2)),r47.2))),some 10,none),((5,.val sh17 (some (gD x1 (tZ v38) ((⟨#[]⟩:ByteArray),(⟨#[]⟩:ByteArray))))),none,none),((10,.val sh7 x1),none,none),((11,.val iS (List.length x1:Int)),none,none),((12,.val iS v38),none,none),((39,.addr 0 [.der,.fst]),some 3,some 10),((40,.copy 0 [.der,.fst]),some 4,some 10),((41,.addr 5 [.der,.snd]),some 5,none),((42,.val .str (gD x1 (tZ v38) ((⟨#[]⟩:ByteArray),(⟨#[]⟩:ByteArray))).2),some 6,none),((43,.grown 0 [.der,.fst] ⟨(.sl true 5 (.int .u8)),(List.append r47.1 (strNums (gD x1 (tZ v38) ((⟨#[]⟩:ByteArray),(⟨#[]⟩:ByteArray))).2))⟩),some 7,some 10),((45,.addr 0 [.der,.fst]),some 9,some 10)] [(36,0,0,10),(37,0,1,10),(38,0,2,10),(44,0,8,10)] [0,1,3,35,39,99,47,103,63,111,127,255,511,1023,2047] 2047 [(7,0,1),(10,1,1)] h (by kernel_rfl) (by kernel_rfl) (by kernel_rfl) (ac hc48 (ac (show ([.der,.fst]:Path)=[.der,.fst] from rfl) an)) (fun _ _ _ _ _ h => h) fun a w h => ?_
  refine wp_reg tok (orc:=o0) (fz:=[]) (l:=[0,10,11,12]) (.inl rfl) h (by kernel_rfl) an fun a w h => ?_
  exact ⟨(((List.append r47.1 (strNums (gD x1 (tZ v38) ((⟨#[]⟩:ByteArray),(⟨#[]⟩:ByteArray))).2)),r47.2),(w64 (v38 + (1:Int)))),hF,h.arrive (fz:=[]) (l:=[0,10,11,12]) (.inl rfl) (by kernel_rfl)⟩
 ·refine wp_exit ?_
  cases hF
  exact (retM_ok tok h rfl (by kernel_rfl) (by kernel_rfl)).2
def f18.l1414 (k:Nat) (x0:((Int × (Int × Int)) × (List (Int × ((List (Int × Int)) × (List (ByteArray × ByteArray))))))) (v1233:Int) (q741:(((List Int) × Unit) × Int)→Option (List Int)):Nat → (((List Int) × Unit) × (Int × Int) × Int)→Option (List Int)
 | 0,_ => none
 | m1414+1,(v1452,v1453,v1454) => if (decide (v1454 < (List.length (List.getD x0.2 (Int.toNat v1233) ((0:Int),(([]:(List (Int × Int))),([]:(List (ByteArray × ByteArray)))))).2.1:Int))) then (if (0≤v1454∧v1454 < (List.length (List.getD x0.2 (Int.toNat v1233) ((0:Int),(([]:(List (Int × Int))),([]:(List (ByteArray × ByteArray)))))).2.1:Int)) then ((some ((bif (bif (bif (decide (((List.getD (List.getD x0.2 (Int.toNat v1233) ((0:Int),(([]:(List (Int × Int))),([]:(List (ByteArray × ByteArray)))))).2.1 (Int.toNat v1454) ((0:Int),(0:Int))).1:Int) < (0:Int))) then true else (decide (((List.getD (List.getD x0.2 (Int.toNat v1233) ((0:Int),(([]:(List (Int × Int))),([]:(List (ByteArray × ByteArray)))))).2.1 (Int.toNat v1454) ((0:Int),(0:Int))).1:Int) > (4096:Int)))) then true else (decide (((List.getD (List.getD x0.2 (Int.toNat v1233) ((0:Int),(([]:(List (Int × Int))),([]:(List (ByteArray × ByteArray)))))).2.1 (Int.toNat v1454) ((0:Int),(0:Int))).2:Int) < (0:Int)))) then true else (decide (((List.getD (List.getD x0.2 (Int.toNat v1233) ((0:Int),(([]:(List (Int × Int))),([]:(List (ByteArray × ByteArray)))))).2.1 (Int.toNat v1454) ((0:Int),(0:Int))).2:Int) > (4096:Int)))):Bool)).bind fun v1462 => (if v1462 then (some ([]:(List Int))) else ((f53 k v1452 (IntKind.i64.wrap ((List.getD (List.getD x0.2 (Int.toNat v1233) ((0:Int),(([]:(List (Int × Int))),([]:(List (ByteArray × ByteArray)))))).2.1 (Int.toNat v1454) ((0:Int),(0:Int))).1 - v1453.1))).bind fun r1463 => ((f53 k r1463 (IntKind.i64.wrap ((List.getD (List.getD x0.2 (Int.toNat v1233) ((0:Int),(([]:(List (Int × Int))),([]:(List (ByteArray × ByteArray)))))).2.1 (Int.toNat v1454) ((0:Int),(0:Int))).2 - v1453.2))).bind fun r1464 => ((f18.l1414 k x0 v1233 q741) m1414 (r1464,(List.getD (List.getD x0.2 (Int.toNat v1233) ((0:Int),(([]:(List (Int × Int))),([]:(List (ByteArray × ByteArray)))))).2.1 (Int.toNat v1454) ((0:Int),(0:Int))),(IntKind.i64.wrap (v1454 + (1:Int))))))))) else none) else ((f54 k v1452 (List.getD x0.2 (Int.toNat v1233) ((0:Int),(([]:(List (Int × Int))),([]:(List (ByteArray × ByteArray)))))).2.2).bind fun r1469 => (q741 (r1469,(IntKind.i64.wrap (v1233 + (1:Int))))))
def f18.l741 (k:Nat) (x0:((Int × (Int × Int)) × (List (Int × ((List (Int × Int)) × (List (ByteArray × ByteArray))))))):Nat → (((List Int) × Unit) × Int)→Option (List Int)
 | 0,_ => none
 | m741+1,(v1232,v1233) => if (decide (v1233 < (List.length x0.2:Int))) then (if (0≤v1233∧v1233 < (List.length x0.2:Int)) then ((f51 k (List.getD x0.2 (Int.toNat v1233) ((0:Int),(([]:(List (Int × Int))),([]:(List (ByteArray × ByteArray)))))).1).bind fun r1355 => ((if ((bif (!r1355) then true else (decide (((List.length (List.getD x0.2 (Int.toNat v1233) ((0:Int),(([]:(List (Int × Int))),([]:(List (ByteArray × ByteArray)))))).2.1:Int):Int) > (2000:Int))))=false) then f52 k (List.getD x0.2 (Int.toNat v1233) ((0:Int),(([]:(List (Int × Int))),([]:(List (ByteArray × ByteArray)))))).2.2 else some default).bind fun r1356 => (if (bif (bif (!r1355) then true else (decide (((List.length (List.getD x0.2 (Int.toNat v1233) ((0:Int),(([]:(List (Int × Int))),([]:(List (ByteArray × ByteArray)))))).2.1:Int):Int) > (2000:Int)))) then true else (!r1356)) then (some ([]:(List Int))) else ((f50 k v1232 (List.getD x0.2 (Int.toNat v1233) ((0:Int),(([]:(List (Int × Int))),([]:(List (ByteArray × ByteArray)))))).1).bind fun r1357 => ((f50 k r1357 (List.length (List.getD x0.2 (Int.toNat v1233) ((0:Int),(([]:(List (Int × Int))),([]:(List (ByteArray × ByteArray)))))).2.1:Int)).bind fun r1358 => (f18.l1414 k x0 v1233 ((f18.l741 k x0) m741) k (r1358,((0:Int),(0:Int)),(0:Int)))))))) else none) else (some v1232.1)
def f18 (k:Nat) (x0:((Int × (Int × Int)) × (List (Int × ((List (Int × Int)) × (List (ByteArray × ByteArray))))))):Option (List Int):=(f49 k x0.1).bind fun r1 => (if (bif (!r1) then true else (decide (((List.length x0.2:Int):Int) > (2000:Int)))) then (some ([]:(List Int))) else (if (0 < List.length [(87:Int),(77:Int),(84:Int),(49:Int)]) then ((f50 k ([(87:Int),(77:Int),(84:Int),(49:Int)],()) x0.1.1).bind fun r2 => ((f50 k r2 x0.1.2.1).bind fun r3 => ((f50 k r3 x0.1.2.2).bind fun r4 => ((f50 k r4 (List.length x0.2:Int)).bind fun r5 => (f18.l741 k x0 k (r5,(0:Int))))))) else none))
theorem c18 (k:Nat) (x0:((Int × (Int × Int)) × (List (Int × ((List (Int × Int)) × (List (ByteArray × ByteArray))))))) (r:(List Int)) (hF:f18 k x0=some r):PCall Try.prog 18 [⟨sh13,x0⟩] [⟨(.sl true 5 (.int .u8)),r⟩]:=by
 refine pcall_intro Try.func18 rfl rfl (Nat.le_of_ble_eq_true rfl) ?_
 intro w0 Zi a w h
 rw [f18] at hF
 refine zs [1] h an fun a w h => ?_
 refine wp_seq ?_
 obtain ⟨r1,hr1481,hF⟩:=of_bind hF
 refine zc (orcL [(11,[⟨.bool,r1⟩])]) [1,18] h (ac (c49 k x0.1 r1 hr1481) an) fun a w h => ?_
 refine zi h hF (fun hF => ?_) (fun hF => ?_)
 ·refine zs [2] h an fun a w h => ?_
  cases hF
  exact wp_ret (ret_okR tok h rfl (by kernel_rfl)).1
 ·refine wp_skip ?_
  obtain ⟨hc1480,hF⟩:=of_if hF
  refine wp_seqX_seq (sxB_ok tok [(1,.conv)] (sxA_ok tok (orc:=o0) (spA:=[]) (sp:=[]))) h (by kernel_rfl) (ac hc1480 an) fun a w h => ?_
  obtain ⟨r2,hr1479,hF⟩:=of_bind hF
  refine zc (orcL [(27,[⟨.pt false 4294967295 (.pt true 87 (.st (.pair (.sl true 5 (.int .u8)) .unit))),some (some r2)⟩])]) [1,3] h (ac (c50 k ([(87:Int),(77:Int),(84:Int),(49:Int)],()) x0.1.1 r2 hr1479) an) fun a w h => ?_
  obtain ⟨r3,hr1478,hF⟩:=of_bind hF
  refine zc (orcL [(32,[⟨.pt false 4294967295 (.pt true 87 (.st (.pair (.sl true 5 (.int .u8)) .unit))),some (some r3)⟩])]) [1,3] h (ac (c50 k r2 x0.1.2.1 r3 hr1478) an) fun a w h => ?_
  obtain ⟨r4,hr1477,hF⟩:=of_bind hF
  refine zc (orcL [(37,[⟨.pt false 4294967295 (.pt true 87 (.st (.pair (.sl true 5 (.int .u8)) .unit))),some (some r4)⟩])]) [1,3] h (ac (c50 k r3 x0.1.2.2 r4 hr1477) an) fun a w h => ?_
  obtain ⟨r5,hr1476,hF⟩:=of_bind hF
  refine zc (orcL [(42,[⟨.pt false 4294967295 (.pt true 87 (.st (.pair (.sl true 5 (.int .u8)) .unit))),some (some r5)⟩])]) [1,3] h (ac (c50 k r4 (List.length x0.2:Int) r5 hr1476) an) fun a w h => ?_
  refine wp_seq ?_
  refine zs [3,44,45,46] h an fun a w h => ?_
  refine wp_block ?_
  refine wp_loop_fuel (f18.l741 k x0) (fun ((v1232,v1233):(((List Int) × Unit) × Int)) => [(3,.val sh16 (some v1232)),(44,.val sh18 x0.2),(45,.val iS (List.length x0.2:Int)),(46,.val iS v1233)]) (fun v h => by obtain ⟨v1232,v1233⟩:=v; rw [f18.l741] at h; cases h) ?_ hF (ar h [3,44,45,46])
  intro m741 v a w hF h
  obtain ⟨v1232,v1233⟩:=v
  rw [f18.l741] at hF
  refine zs [3,44,45,46,47] h an fun a w h => ?_
  refine wp_seq <| zi h hF (fun hF => ?_) (fun hF => ?_)
  ·refine wp_skip ?_
   refine wp_seq <| wp_block ?_
   obtain ⟨hc1475,hF⟩:=of_if hF
   refine zs [3,5,44,45,46] h (ac hc1475 an) fun a w h => ?_
   refine wp_seq ?_
   obtain ⟨r1355,hr1473,hF⟩:=of_bind hF
   obtain ⟨r1356,hr1474,hF⟩:=of_bind hF
   refine zc (orcL [(52,[⟨.bool,r1355⟩]),(63,[⟨.bool,r1356⟩])]) [3,5,44,45,46,65] h (ac (c51 k (gD x0.2 (tZ v1233) (iO,(([]:(List (Int × Int))),([]:(List (ByteArray × ByteArray)))))).1 r1355 hr1473) (ac (fun (hg:((bif (!r1355) then true else (decide (((List.length (gD x0.2 (tZ v1233) (iO,(([]:(List (Int × Int))),([]:(List (ByteArray × ByteArray)))))).2.1:Int):Int) > (2000:Int))))=false)) => c52 k (gD x0.2 (tZ v1233) (iO,(([]:(List (Int × Int))),([]:(List (ByteArray × ByteArray)))))).2.2 r1356 (of_g hg hr1474)) an)) fun a w h => ?_
   refine zi h hF (fun hF => ?_) (fun hF => ?_)
   ·refine zs [2] h an fun a w h => ?_
    cases hF
    exact wp_ret (ret_okR tok h rfl (by kernel_rfl)).1
   ·refine wp_skip ?_
    obtain ⟨r1357,hr1472,hF⟩:=of_bind hF
    refine zc (orcL [(69,[⟨.pt false 4294967295 (.pt true 87 (.st (.pair (.sl true 5 (.int .u8)) .unit))),some (some r1357)⟩])]) [3,5,44,45,46] h (ac (c50 k v1232 (gD x0.2 (tZ v1233) (iO,(([]:(List (Int × Int))),([]:(List (ByteArray × ByteArray)))))).1 r1357 hr1472) an) fun a w h => ?_
    obtain ⟨r1358,hr1471,hF⟩:=of_bind hF
    refine zc (orcL [(74,[⟨.pt false 4294967295 (.pt true 87 (.st (.pair (.sl true 5 (.int .u8)) .unit))),some (some r1358)⟩])]) [3,5,44,45,46] h (ac (c50 k r1357 (List.length (gD x0.2 (tZ v1233) (iO,(([]:(List (Int × Int))),([]:(List (ByteArray × ByteArray)))))).2.1:Int) r1358 hr1471) an) fun a w h => ?_
    refine zs [3,5,6,44,45,46] h an fun a w h => ?_
    refine wp_seq ?_
    refine zs [3,5,6,44,45,46,76,77,78] h an fun a w h => ?_
    refine wp_block ?_
    refine wp_loop_fuel (f18.l1414 k x0 v1233 ((f18.l741 k x0) m741)) (fun ((v1452,v1453,v1454):(((List Int) × Unit) × (Int × Int) × Int)) => [(3,.val sh16 (some v1452)),(5,.val sh6 (some (gD x0.2 (tZ v1233) (iO,(([]:(List (Int × Int))),([]:(List (ByteArray × ByteArray)))))))),(6,.val sh3 (some v1453)),(44,.val sh18 x0.2),(45,.val iS (List.length x0.2:Int)),(46,.val iS v1233),(76,.val sh10 (gD x0.2 (tZ v1233) (iO,(([]:(List (Int × Int))),([]:(List (ByteArray × ByteArray)))))).2.1),(77,.val iS (List.length (gD x0.2 (tZ v1233) (iO,(([]:(List (Int × Int))),([]:(List (ByteArray × ByteArray)))))).2.1:Int)),(78,.val iS v1454)]) (fun v h => by obtain ⟨v1452,v1453,v1454⟩:=v; rw [f18.l1414] at h; cases h) ?_ hF (ar h [3,5,6,44,45,46,76,77,78])
    intro m1414 v a w hF h
    obtain ⟨v1452,v1453,v1454⟩:=v
    rw [f18.l1414] at hF
    refine zs [3,5,6,44,45,46,76,77,78,79] h an fun a w h => ?_
    refine wp_seq <| zi h hF (fun hF => ?_) (fun hF => ?_)
    ·refine wp_skip ?_
     refine wp_seq <| wp_block ?_
     obtain ⟨hc1468,hF⟩:=of_if hF
     refine zs [3,5,6,8,44,45,46,76,77,78] h (ac hc1468 an) fun a w h => ?_
     refine wp_seq ?_
     refine zs [3,5,6,8,44,45,46,76,77,78,99] h an fun a w h => ?_
     obtain ⟨v1462,hv1467,hF⟩:=of_bind hF
     replace h:=h.cast (S':=[(3,.val sh16 (some v1452)),(5,.val sh6 (some (gD x0.2 (tZ v1233) (iO,(([]:(List (Int × Int))),([]:(List (ByteArray × ByteArray)))))))),(6,.val sh3 (some v1453)),(8,.val sh3 (some (gD (gD x0.2 (tZ v1233) (iO,(([]:(List (Int × Int))),([]:(List (ByteArray × ByteArray)))))).2.1 (tZ v1454) (iO,iO)))),(44,.val sh18 x0.2),(45,.val iS (List.length x0.2:Int)),(46,.val iS v1233),(76,.val sh10 (gD x0.2 (tZ v1233) (iO,(([]:(List (Int × Int))),([]:(List (ByteArray × ByteArray)))))).2.1),(77,.val iS (List.length (gD x0.2 (tZ v1233) (iO,(([]:(List (Int × Int))),([]:(List (ByteArray × ByteArray)))))).2.1:Int)),(78,.val iS v1454),(99,.val .bool v1462)]) (by cases hv1467; kernel_rfl)
     refine zi h hF (fun hF => ?_) (fun hF => ?_)
     ·refine zs [2] h an fun a w h => ?_
      cases hF
      exact wp_ret (ret_okR tok h rfl (by kernel_rfl)).1
     ·refine wp_skip ?_
      obtain ⟨r1463,hr1466,hF⟩:=of_bind hF
      refine zc (orcL [(106,[⟨.pt false 4294967295 (.pt true 87 (.st (.pair (.sl true 5 (.int .u8)) .unit))),some (some r1463)⟩])]) [3,5,6,8,44,45,46,76,77,78] h (ac (c53 k v1452 (w64 ((gD (gD x0.2 (tZ v1233) (iO,(([]:(List (Int × Int))),([]:(List (ByteArray × ByteArray)))))).2.1 (tZ v1454) (iO,iO)).1 - v1453.1)) r1463 hr1466) an) fun a w h => ?_
      obtain ⟨r1464,hr1465,hF⟩:=of_bind hF
      refine zc (orcL [(113,[⟨.pt false 4294967295 (.pt true 87 (.st (.pair (.sl true 5 (.int .u8)) .unit))),some (some r1464)⟩])]) [3,5,6,8,44,45,46,76,77,78] h (ac (c53 k r1463 (w64 ((gD (gD x0.2 (tZ v1233) (iO,(([]:(List (Int × Int))),([]:(List (ByteArray × ByteArray)))))).2.1 (tZ v1454) (iO,iO)).2 - v1453.2)) r1464 hr1465) an) fun a w h => ?_
      refine zt [3,5,6,44,45,46,76,77,78] h an fun a w h => ?_
      refine zt [3,5,6,44,45,46,76,77,78] h an fun a w h => ?_
      exact ⟨(r1464,(gD (gD x0.2 (tZ v1233) (iO,(([]:(List (Int × Int))),([]:(List (ByteArray × ByteArray)))))).2.1 (tZ v1454) (iO,iO)),(w64 (v1454 + (1:Int)))),hF,ar h [3,5,6,44,45,46,76,77,78]⟩
    ·refine wp_exit ?_
     obtain ⟨r1469,hr1470,hF⟩:=of_bind hF
     refine zd (orcL [(119,[⟨.pt false 4294967295 (.pt true 87 (.st (.pair (.sl true 5 (.int .u8)) .unit))),some (some r1469)⟩])]) [3,44,45,46] h (ac (c54 k v1452 (gD x0.2 (tZ v1233) (iO,(([]:(List (Int × Int))),([]:(List (ByteArray × ByteArray)))))).2.2 r1469 hr1470) an) fun a w h => ?_
     refine zt [3,44,45,46] h an fun a w h => ?_
     exact ⟨(r1469,(w64 (v1233 + (1:Int)))),hF,ar h [3,44,45,46]⟩
  ·refine wp_exit ?_
   refine zs [2,3] h an fun a w h => ?_
   cases hF
   exact wp_ret (ret_okR tok h rfl (by kernel_rfl)).1
def f26.l1284 (k:Nat) (r1232:(Int × ((List Int) × Bool))) (v1120:(List (Int × ((List (Int × Int)) × (List (ByteArray × ByteArray)))))) (r1231:(Int × ((List Int) × Bool))) (v1121:Int) (q673:(((List Int) × Bool) × (List (Int × ((List (Int × Int)) × (List (ByteArray × ByteArray))))) × Int)→Option (((Int × (Int × Int)) × (List (Int × ((List (Int × Int)) × (List (ByteArray × ByteArray)))))) × Bool)):Nat → (((List Int) × Bool) × (List (Int × Int)) × Int × Int × Int)→Option (((Int × (Int × Int)) × (List (Int × ((List (Int × Int)) × (List (ByteArray × ByteArray)))))) × Bool)
 | 0,_ => none
 | m1284+1,(v1320,v1321,v1322,v1323,v1324) => if (bif (decide (v1324 < r1232.1)) then (!v1320.2) else false) then ((f63 k v1320).bind fun r1330 => ((f63 k r1330.2).bind fun r1331 => (if ((List.length v1321+List.length [((IntKind.i64.wrap (v1322+r1330.1)),(IntKind.i64.wrap (v1323+r1331.1)))])*16≤140737488355328) then ((f26.l1284 k r1232 v1120 r1231 v1121 q673) m1284 (r1331.2,(List.append v1321 [((IntKind.i64.wrap (v1322+r1330.1)),(IntKind.i64.wrap (v1323+r1331.1)))]),(IntKind.i64.wrap (v1322+r1330.1)),(IntKind.i64.wrap (v1323+r1331.1)),(IntKind.i64.wrap (v1324 + (1:Int))))) else none))) else ((f64 k v1320).bind fun r1335 => (if ((List.length v1120+List.length [(r1231.1,(v1321,r1335.1))])*56≤140737488355328) then (q673 (r1335.2,(v1120 ++ [(r1231.1,(v1321,r1335.1))]),(IntKind.i64.wrap (v1121 + (1:Int))))) else none))
def f26.l673 (k:Nat) (r5:(Int × ((List Int) × Bool))) (r2:(Int × ((List Int) × Bool))) (r3:(Int × ((List Int) × Bool))) (r4:(Int × ((List Int) × Bool))) (x0:(List Int)):Nat → (((List Int) × Bool) × (List (Int × ((List (Int × Int)) × (List (ByteArray × ByteArray))))) × Int)→Option (((Int × (Int × Int)) × (List (Int × ((List (Int × Int)) × (List (ByteArray × ByteArray)))))) × Bool)
 | 0,_ => none
 | m673+1,(v1119,v1120,v1121) => if (bif (decide (v1121 < r5.1)) then (!v1119.2) else false) then ((f62 k v1119).bind fun r1231 => ((f62 k r1231.2).bind fun r1232 => (f26.l1284 k r1232 v1120 r1231 v1121 ((f26.l673 k r5 r2 r3 r4 x0) m673) k (r1232.2,([]:(List (Int × Int))),(0:Int),(0:Int),(0:Int))))) else ((if ((bif v1119.2 then true else (decide (((List.length v1119.1:Int):Int) > (0:Int))))=false) then f18 k ((r2.1,(r3.1,r4.1)),v1120) else some default).bind fun r1340 => ((if ((bif v1119.2 then true else (decide (((List.length v1119.1:Int):Int) > (0:Int))))=false) then f65 k r1340 x0 else some default).bind fun r1341 => (if (bif (bif v1119.2 then true else (decide (((List.length v1119.1:Int):Int) > (0:Int)))) then true else (!r1341)) then (some ((((0:Int),((0:Int),(0:Int))),([]:(List (Int × ((List (Int × Int)) × (List (ByteArray × ByteArray))))))),false)) else (some (((r2.1,(r3.1,r4.1)),v1120),true)))))
def f26 (k:Nat) (x0:(List Int)):Option (((Int × (Int × Int)) × (List (Int × ((List (Int × Int)) × (List (ByteArray × ByteArray)))))) × Bool):=(f61 k x0 (⟨#[87,77,84,49]⟩:ByteArray)).bind fun r1 => ((f62 k r1).bind fun r2 => ((f62 k r2.2).bind fun r3 => ((f62 k r3.2).bind fun r4 => ((f62 k r4.2).bind fun r5 => (f26.l673 k r5 r2 r3 r4 x0 k (r5.2,([]:(List (Int × ((List (Int × Int)) × (List (ByteArray × ByteArray)))))),(0:Int)))))))
theorem c26 (k:Nat) (x0:(List Int)) (r:(((Int × (Int × Int)) × (List (Int × ((List (Int × Int)) × (List (ByteArray × ByteArray)))))) × Bool)) (hF:f26 k x0=some r):PCall Try.prog 26 [⟨(.sl false 5 (.int .u8)),x0⟩] [⟨sh14,r.1⟩,⟨.bool,r.2⟩]:=by
 refine pcall_intro Try.func26 rfl rfl (Nat.le_of_ble_eq_true rfl) ?_
 intro w0 Zi a w h
 rw [f26] at hF
 refine zs [0,2] h an fun a w h => ?_
 obtain ⟨r1,hr1348,hF⟩:=of_bind hF
 refine zc (orcL [(13,[⟨sh15,some r1⟩])]) [0,2,4] h (ac (c61 k x0 (⟨#[87,77,84,49]⟩:ByteArray) r1 hr1348) an) fun a w h => ?_
 refine zs [0,2,4,5] h an fun a w h => ?_
 obtain ⟨r2,hr1345,hF⟩:=of_bind hF
 obtain ⟨r3,hr1346,hF⟩:=of_bind hF
 obtain ⟨r4,hr1347,hF⟩:=of_bind hF
 refine zc (orcL [(15,[⟨.pt false 4294967295 (.pt true 104 (.st (.pair (.sl false 5 (.int .u8)) .bool))),some (some r2.2)⟩,⟨iS,r2.1⟩]),(17,[⟨.pt false 4294967295 (.pt true 104 (.st (.pair (.sl false 5 (.int .u8)) .bool))),some (some r3.2)⟩,⟨iS,r3.1⟩]),(19,[⟨.pt false 4294967295 (.pt true 104 (.st (.pair (.sl false 5 (.int .u8)) .bool))),some (some r4.2)⟩,⟨iS,r4.1⟩])]) [0,2,4,5] h (ac (c62 k r1 r2 hr1345) (ac (c62 k r2.2 r3 hr1346) (ac (c62 k r3.2 r4 hr1347) an))) fun a w h => ?_
 obtain ⟨r5,hr1344,hF⟩:=of_bind hF
 refine zc (orcL [(23,[⟨.pt false 4294967295 (.pt true 104 (.st (.pair (.sl false 5 (.int .u8)) .bool))),some (some r5.2)⟩,⟨iS,r5.1⟩])]) [0,2,4,5,6] h (ac (c62 k r4.2 r5 hr1344) an) fun a w h => ?_
 refine wp_seq ?_
 refine zs [0,2,4,5,6,7] h an fun a w h => ?_
 refine wp_block ?_
 refine wp_loop_fuel (f26.l673 k r5 r2 r3 r4 x0) (fun ((v1119,v1120,v1121):(((List Int) × Bool) × (List (Int × ((List (Int × Int)) × (List (ByteArray × ByteArray))))) × Int)) => [(0,.val (.sl false 5 (.int .u8)) x0),(2,.val sh1 (some ((iO,(iO,iO)),([]:(List (Int × ((List (Int × Int)) × (List (ByteArray × ByteArray))))))))),(4,.val sh15 (some v1119)),(5,.val sh1 (some ((r2.1,(r3.1,r4.1)),v1120))),(6,.val iS r5.1),(7,.val iS v1121)]) (fun v h => by obtain ⟨v1119,v1120,v1121⟩:=v; rw [f26.l673] at h; cases h) ?_ hF (ar h [0,2,4,5,6,7])
 intro m673 v a w hF h
 obtain ⟨v1119,v1120,v1121⟩:=v
 rw [f26.l673] at hF
 refine wp_seq ?_
 refine zs [0,2,4,5,6,7,33] h an fun a w h => ?_
 refine zi h hF (fun hF => ?_) (fun hF => ?_)
 ·refine wp_skip ?_
  refine wp_seq <| wp_block ?_
  refine zs [0,2,4,5,6,7,8] h an fun a w h => ?_
  obtain ⟨r1231,hr1339,hF⟩:=of_bind hF
  refine zc (orcL [(37,[⟨.pt false 4294967295 (.pt true 104 (.st (.pair (.sl false 5 (.int .u8)) .bool))),some (some r1231.2)⟩,⟨iS,r1231.1⟩])]) [0,2,4,5,6,7,8] h (ac (c62 k v1119 r1231 hr1339) an) fun a w h => ?_
  obtain ⟨r1232,hr1338,hF⟩:=of_bind hF
  refine zc (orcL [(40,[⟨.pt false 4294967295 (.pt true 104 (.st (.pair (.sl false 5 (.int .u8)) .bool))),some (some r1232.2)⟩,⟨iS,r1232.1⟩])]) [0,2,4,5,6,7,8,9] h (ac (c62 k r1231.2 r1232 hr1338) an) fun a w h => ?_
  refine zs [0,2,4,5,6,7,8,9,10] h an fun a w h => ?_
  refine wp_seq ?_
  refine zs [0,2,4,5,6,7,8,9,10,11] h an fun a w h => ?_
  refine wp_block ?_
  refine wp_loop_fuel (f26.l1284 k r1232 v1120 r1231 v1121 ((f26.l673 k r5 r2 r3 r4 x0) m673)) (fun ((v1320,v1321,v1322,v1323,v1324):(((List Int) × Bool) × (List (Int × Int)) × Int × Int × Int)) => [(0,.val (.sl false 5 (.int .u8)) x0),(2,.val sh1 (some ((iO,(iO,iO)),([]:(List (Int × ((List (Int × Int)) × (List (ByteArray × ByteArray))))))))),(4,.val sh15 (some v1320)),(5,.val sh1 (some ((r2.1,(r3.1,r4.1)),v1120))),(6,.val iS r5.1),(7,.val iS v1121),(8,.val sh2 (some (r1231.1,(v1321,([]:(List (ByteArray × ByteArray))))))),(9,.val iS r1232.1),(10,.val sh3 (some (v1322,v1323))),(11,.val iS v1324)]) (fun v h => by obtain ⟨v1320,v1321,v1322,v1323,v1324⟩:=v; rw [f26.l1284] at h; cases h) ?_ hF (ar h [0,2,4,5,6,7,8,9,10,11])
  intro m1284 v a w hF h
  obtain ⟨v1320,v1321,v1322,v1323,v1324⟩:=v
  rw [f26.l1284] at hF
  refine wp_seq ?_
  refine zs [0,2,4,5,6,7,8,9,10,11,50] h an fun a w h => ?_
  refine zi h hF (fun hF => ?_) (fun hF => ?_)
  ·refine wp_skip ?_
   refine wp_seq <| wp_block ?_
   obtain ⟨r1330,hr1334,hF⟩:=of_bind hF
   refine wp_regv_seq tok (orc:=orcL [(56,[⟨.pt false 4294967295 (.pt true 104 (.st (.pair (.sl false 5 (.int .u8)) .bool))),some (some r1330.2)⟩,⟨iS,r1330.1⟩])]) [((0,.val (.sl false 5 (.int .u8)) x0),none,none),((2,.val sh1 (some ((iO,(iO,iO)),([]:(List (Int × ((List (Int × Int)) × (List (ByteArray × ByteArray))))))))),none,none),((4,.val sh15 (some v1320)),none,some 3),((4,.val sh15 (some r1330.2)),some 3,none),((5,.val sh1 (some ((r2.1,(r3.1,r4.1)),v1120))),none,none),((6,.val iS r5.1),none,none),((7,.val iS v1121),none,none),((8,.val sh2 (some (r1231.1,(v1321,([]:(List (ByteArray × ByteArray))))))),none,none),((9,.val iS r1232.1),none,none),((10,.val sh3 (some (v1322,v1323))),none,some 6),((10,.val sh3 (some ((w64 (v1322+r1330.1)),v1323))),some 6,none),((11,.val iS v1324),none,none),((50,.val .bool (bif (decide (v1324 < r1232.1)) then (!v1320.2) else false)),none,some 6),((53,.addr 10 [.der,.fst]),some 0,some 6),((54,.val iS v1322),some 1,some 6),((56,.val iS r1330.1),some 3,some 6),((57,.val iS (w64 (v1322+r1330.1))),some 4,some 6),((58,.addr 10 [.der,.fst]),some 5,some 6)] [(55,4,2,3)] [0,1,5,7,13,15,31,63,127] 127 [(3,0,1)] h (by kernel_rfl) (by kernel_rfl) (by kernel_rfl) (ac (c63 k v1320 r1330 hr1334) an) (fun _ _ _ _ _ h => h) fun a w h => ?_
   obtain ⟨r1331,hr1333,hF⟩:=of_bind hF
   refine wp_regv_seq tok (orc:=orcL [(62,[⟨.pt false 4294967295 (.pt true 104 (.st (.pair (.sl false 5 (.int .u8)) .bool))),some (some r1331.2)⟩,⟨iS,r1331.1⟩])]) [((0,.val (.sl false 5 (.int .u8)) x0),none,none),((2,.val sh1 (some ((iO,(iO,iO)),([]:(List (Int × ((List (Int × Int)) × (List (ByteArray × ByteArray))))))))),none,none),((4,.val sh15 (some r1330.2)),none,some 3),((4,.val sh15 (some r1331.2)),some 3,none),((5,.val sh1 (some ((r2.1,(r3.1,r4.1)),v1120))),none,none),((6,.val iS r5.1),none,none),((7,.val iS v1121),none,none),((8,.val sh2 (some (r1231.1,(v1321,([]:(List (ByteArray × ByteArray))))))),none,none),((9,.val iS r1232.1),none,none),((10,.val sh3 (some ((w64 (v1322+r1330.1)),v1323))),none,some 6),((10,.val sh3 (some ((w64 (v1322+r1330.1)),(w64 (v1323+r1331.1))))),some 6,none),((11,.val iS v1324),none,none),((59,.addr 10 [.der,.snd]),some 0,some 6),((60,.val iS v1323),some 1,some 6),((62,.val iS r1331.1),some 3,some 6),((63,.val iS (w64 (v1323+r1331.1))),some 4,some 6),((64,.addr 10 [.der,.snd]),some 5,some 6)] [(61,4,2,3)] [0,1,5,7,13,15,31,63,127] 127 [(3,0,1)] h (by kernel_rfl) (by kernel_rfl) (by kernel_rfl) (ac (c63 k r1330.2 r1331 hr1333) an) (fun _ _ _ _ _ h => h) fun a w h => ?_
   obtain ⟨hc1332,hF⟩:=of_if hF
   refine zd (orcL [(69,[⟨.pt false 4294967293 .unit,some ()⟩])]) [0,2,4,5,6,7,8,9,10,11] h (ac (PrefL.mk (l:=[[.der,.snd,.fst],[.der,.snd,.fst]]) (p:=[.der,.snd,.fst]) rfl) (ac hc1332 (ac (show ([.der,.snd,.fst]:Path)=[.der,.snd,.fst] from rfl) an))) fun a w h => ?_
   refine zt [0,2,4,5,6,7,8,9,10,11] h an fun a w h => ?_
   exact ⟨(r1331.2,(List.append v1321 [((w64 (v1322+r1330.1)),(w64 (v1323+r1331.1)))]),(w64 (v1322+r1330.1)),(w64 (v1323+r1331.1)),(w64 (v1324 + (1:Int)))),hF,ar h [0,2,4,5,6,7,8,9,10,11]⟩
  ·refine wp_exit ?_
   obtain ⟨r1335,hr1337,hF⟩:=of_bind hF
   refine zc (orcL [(72,[⟨.pt false 4294967295 (.pt true 104 (.st (.pair (.sl false 5 (.int .u8)) .bool))),some (some r1335.2)⟩,⟨sh4,r1335.1⟩])]) [0,2,4,5,6,7,8] h (ac (c64 k v1320 r1335 hr1337) an) fun a w h => ?_
   obtain ⟨hc1336,hF⟩:=of_if hF
   refine wp_seqX (sxH_ok [1] (sxA_ok tok (orc:=o0) (spA:=[]) (sp:=[]))) h (by kernel_rfl) (ac hc1336 an) fun a w h => ?_
   refine zt [0,2,4,5,6,7] h an fun a w h => ?_
   exact ⟨(r1335.2,(v1120 ++ [(r1231.1,(v1321,r1335.1))]),(w64 (v1121 + (1:Int)))),hF,ar h [0,2,4,5,6,7]⟩
 ·refine wp_exit ?_
  refine wp_seq ?_
  obtain ⟨r1340,hr1342,hF⟩:=of_bind hF
  obtain ⟨r1341,hr1343,hF⟩:=of_bind hF
  refine zc (orcL [(94,[⟨(.sl true 5 (.int .u8)),r1340⟩]),(96,[⟨.bool,r1341⟩])]) [2,5,98] h (ac (fun (hg:((bif v1119.2 then true else (decide (((List.length v1119.1:Int):Int) > iO)))=false)) => c18 k ((r2.1,(r3.1,r4.1)),v1120) r1340 (of_g hg hr1342)) (ac (fun (hg:((bif v1119.2 then true else (decide (((List.length v1119.1:Int):Int) > iO)))=false)) => c65 k r1340 x0 r1341 (of_g hg hr1343)) an)) fun a w h => ?_
  refine zi h hF (fun hF => ?_) (fun hF => ?_)
  ·refine zs [2,3] h an fun a w h => ?_
   cases hF
   exact wp_ret (ret_okR tok h rfl (by kernel_rfl)).1
  ·refine wp_skip ?_
   refine zs [2,3] h an fun a w h => ?_
   cases hF
   exact wp_ret (ret_okR tok h rfl (by kernel_rfl)).1
def f55 (k:Nat) (x0:(Int × (Int × Int))) (x1:(Int × (Int × Int))):Option Bool:=if (x0.1 != x1.1) then (some false) else (if (x0.2.1 != x1.2.1) then (some false) else (if (x0.2.2 != x1.2.2) then (some false) else (some true)))
theorem c55 (k:Nat) (x0:(Int × (Int × Int))) (x1:(Int × (Int × Int))) (r:Bool) (hF:f55 k x0 x1=some r):PCall Try.prog 55 [⟨sh5,x0⟩,⟨sh5,x1⟩] [⟨.bool,r⟩]:=by
 refine pcall_intro Try.func55 rfl rfl (Nat.le_of_ble_eq_true rfl) ?_
 intro w0 Zi a w h
 rw [f55] at hF
 refine zs [2,3] h an fun a w h => ?_
 refine wp_seq ?_
 refine zs [2,3,9] h an fun a w h => ?_
 refine zi h hF (fun hF => ?_) (fun hF => ?_)
 ·refine zs [4] h an fun a w h => ?_
  cases hF
  exact wp_ret (ret_okR tok h rfl (by kernel_rfl)).1
 ·refine wp_skip ?_
  refine wp_seq ?_
  refine zs [2,3,14] h an fun a w h => ?_
  refine zi h hF (fun hF => ?_) (fun hF => ?_)
  ·refine zs [4] h an fun a w h => ?_
   cases hF
   exact wp_ret (ret_okR tok h rfl (by kernel_rfl)).1
  ·refine wp_skip ?_
   refine wp_seq ?_
   refine zs [19] h an fun a w h => ?_
   refine zi h hF (fun hF => ?_) (fun hF => ?_)
   ·refine zs [4] h an fun a w h => ?_
    cases hF
    exact wp_ret (ret_okR tok h rfl (by kernel_rfl)).1
   ·refine wp_skip ?_
    refine zs [4] h an fun a w h => ?_
    cases hF
    exact wp_ret (ret_okR tok h rfl (by kernel_rfl)).1
def f95 (k:Nat) (x0:(Int × Int)) (x1:(Int × Int)):Option Bool:=if (x0.1 != x1.1) then (some false) else (if (x0.2 != x1.2) then (some false) else (some true))
theorem c95 (k:Nat) (x0:(Int × Int)) (x1:(Int × Int)) (r:Bool) (hF:f95 k x0 x1=some r):PCall Try.prog 95 [⟨sh19,x0⟩,⟨sh19,x1⟩] [⟨.bool,r⟩]:=by
 refine pcall_intro Try.func95 rfl rfl (Nat.le_of_ble_eq_true rfl) ?_
 intro w0 Zi a w h
 rw [f95] at hF
 refine zs [2,3] h an fun a w h => ?_
 refine wp_seq ?_
 refine zs [2,3,9] h an fun a w h => ?_
 refine zi h hF (fun hF => ?_) (fun hF => ?_)
 ·refine zs [4] h an fun a w h => ?_
  cases hF
  exact wp_ret (ret_okR tok h rfl (by kernel_rfl)).1
 ·refine wp_skip ?_
  refine wp_seq ?_
  refine zs [14] h an fun a w h => ?_
  refine zi h hF (fun hF => ?_) (fun hF => ?_)
  ·refine zs [4] h an fun a w h => ?_
   cases hF
   exact wp_ret (ret_okR tok h rfl (by kernel_rfl)).1
  ·refine wp_skip ?_
   refine zs [4] h an fun a w h => ?_
   cases hF
   exact wp_ret (ret_okR tok h rfl (by kernel_rfl)).1
def f75.l30 (k:Nat) (x0:(List (Int × Int))) (x1:(List (Int × Int))):Nat→Int→Option Bool
 | 0,_ => none
 | m30+1,v50 => if (decide (v50 < (List.length x0:Int))) then (if (0≤v50∧v50 < (List.length x0:Int)) then (if (0≤v50∧v50 < (List.length x1:Int)) then ((f95 k (List.getD x0 (Int.toNat v50) ((0:Int),(0:Int))) (List.getD x1 (Int.toNat v50) ((0:Int),(0:Int)))).bind fun r55 => (if (!r55) then (some false) else ((f75.l30 k x0 x1) m30 (IntKind.i64.wrap (v50 + (1:Int)))))) else none) else none) else (some true)
def f75 (k:Nat) (x0:(List (Int × Int))) (x1:(List (Int × Int))):Option Bool:=if (((List.length x0:Int):Int) != (List.length x1:Int)) then (some false) else (f75.l30 k x0 x1 k (0:Int))
theorem c75 (k:Nat) (x0:(List (Int × Int))) (x1:(List (Int × Int))) (r:Bool) (hF:f75 k x0 x1=some r):PCall Try.prog 75 [⟨sh10,x0⟩,⟨sh10,x1⟩] [⟨.bool,r⟩]:=by
 refine pcall_intro Try.func75 rfl rfl (Nat.le_of_ble_eq_true rfl) ?_
 intro w0 Zi a w h
 rw [f75] at hF
 refine zs [0,1] h an fun a w h => ?_
 refine wp_seq ?_
 refine zs [0,1,10] h an fun a w h => ?_
 refine zi h hF (fun hF => ?_) (fun hF => ?_)
 ·refine zs [4] h an fun a w h => ?_
  cases hF
  exact wp_ret (ret_okR tok h rfl (by kernel_rfl)).1
 ·refine wp_skip ?_
  refine wp_seq ?_
  refine zs [0,1,5] h an fun a w h => ?_
  refine wp_block ?_
  refine wp_loop_fuel (f75.l30 k x0 x1) (fun v50 => [(0,.val sh10 x0),(1,.val sh10 x1),(5,.val iS v50)]) (fun v h => by rw [f75.l30] at h; cases h) ?_ hF (ar h [0,1,5])
  intro m30 v50 a w hF h
  rw [f75.l30] at hF
  refine wp_seq ?_
  refine zs [0,1,5,14] h an fun a w h => ?_
  refine zi h hF (fun hF => ?_) (fun hF => ?_)
  ·refine wp_skip ?_
   refine wp_seq <| wp_block ?_
   obtain ⟨hc56,hF⟩:=of_if hF
   obtain ⟨hc57,hF⟩:=of_if hF
   obtain ⟨r55,hr58,hF⟩:=of_bind hF
   refine wp_regy_seq tok (orc:=orcL [(25,[⟨.bool,r55⟩])]) (l:=[0,1,5,26]) ([],[],[],[]) 10 nw h (by kernel_rfl) (by kernel_rfl) (ac hc56 (ac hc57 (ac (c95 k (gD x0 (tZ v50) (iO,iO)) (gD x1 (tZ v50) (iO,iO)) r55 hr58) an))) fun a w h => ?_
   refine zi h hF (fun hF => ?_) (fun hF => ?_)
   ·refine zs [4] h an fun a w h => ?_
    cases hF
    exact wp_ret (ret_okR tok h rfl (by kernel_rfl)).1
   ·refine wp_skip ?_
    refine zt [0,1,5] h an fun a w h => ?_
    exact ⟨(w64 (v50 + (1:Int))),hF,ar h [0,1,5]⟩
  ·refine wp_exit ?_
   refine zs [4] h an fun a w h => ?_
   cases hF
   exact wp_ret (ret_okR tok h rfl (by kernel_rfl)).1
def f105 (k:Nat) (x0:(ByteArray × ByteArray)) (x1:(ByteArray × ByteArray)):Option Bool:=if (!(ByteArray.toList x0.1 == ByteArray.toList x1.1)) then (some false) else (if (!(ByteArray.toList x0.2 == ByteArray.toList x1.2)) then (some false) else (some true))
theorem c105 (k:Nat) (x0:(ByteArray × ByteArray)) (x1:(ByteArray × ByteArray)) (r:Bool) (hF:f105 k x0 x1=some r):PCall Try.prog 105 [⟨(.st (.pair .str .str)),x0⟩,⟨(.st (.pair .str .str)),x1⟩] [⟨.bool,r⟩]:=by
 refine pcall_intro Try.func105 rfl rfl (Nat.le_of_ble_eq_true rfl) ?_
 intro w0 Zi a w h
 rw [f105] at hF
 refine zs [2,3] h an fun a w h => ?_
 refine wp_seq ?_
 refine zs [2,3,9] h an fun a w h => ?_
 refine zi h hF (fun hF => ?_) (fun hF => ?_)
 ·refine zs [4] h an fun a w h => ?_
  cases hF
  exact wp_ret (ret_okR tok h rfl (by kernel_rfl)).1
 ·refine wp_skip ?_
  refine wp_seq ?_
  refine zs [14] h an fun a w h => ?_
  refine zi h hF (fun hF => ?_) (fun hF => ?_)
  ·refine zs [4] h an fun a w h => ?_
   cases hF
   exact wp_ret (ret_okR tok h rfl (by kernel_rfl)).1
  ·refine wp_skip ?_
   refine zs [4] h an fun a w h => ?_
   cases hF
   exact wp_ret (ret_okR tok h rfl (by kernel_rfl)).1
def f100.l30 (k:Nat) (x0:(List (ByteArray × ByteArray))) (x1:(List (ByteArray × ByteArray))):Nat→Int→Option Bool
 | 0,_ => none
 | m30+1,v50 => if (decide (v50 < (List.length x0:Int))) then (if (0≤v50∧v50 < (List.length x0:Int)) then (if (0≤v50∧v50 < (List.length x1:Int)) then ((f105 k (List.getD x0 (Int.toNat v50) ((⟨#[]⟩:ByteArray),(⟨#[]⟩:ByteArray))) (List.getD x1 (Int.toNat v50) ((⟨#[]⟩:ByteArray),(⟨#[]⟩:ByteArray)))).bind fun r55 => (if (!r55) then (some false) else ((f100.l30 k x0 x1) m30 (IntKind.i64.wrap (v50 + (1:Int)))))) else none) else none) else (some true)
def f100 (k:Nat) (x0:(List (ByteArray × ByteArray))) (x1:(List (ByteArray × ByteArray))):Option Bool:=if (((List.length x0:Int):Int) != (List.length x1:Int)) then (some false) else (f100.l30 k x0 x1 k (0:Int))
theorem c100 (k:Nat) (x0:(List (ByteArray × ByteArray))) (x1:(List (ByteArray × ByteArray))) (r:Bool) (hF:f100 k x0 x1=some r):PCall Try.prog 100 [⟨sh7,x0⟩,⟨sh7,x1⟩] [⟨.bool,r⟩]:=by
 refine pcall_intro Try.func100 rfl rfl (Nat.le_of_ble_eq_true rfl) ?_
 intro w0 Zi a w h
 rw [f100] at hF
 refine zs [0,1] h an fun a w h => ?_
 refine wp_seq ?_
 refine zs [0,1,10] h an fun a w h => ?_
 refine zi h hF (fun hF => ?_) (fun hF => ?_)
 ·refine zs [4] h an fun a w h => ?_
  cases hF
  exact wp_ret (ret_okR tok h rfl (by kernel_rfl)).1
 ·refine wp_skip ?_
  refine wp_seq ?_
  refine zs [0,1,5] h an fun a w h => ?_
  refine wp_block ?_
  refine wp_loop_fuel (f100.l30 k x0 x1) (fun v50 => [(0,.val sh7 x0),(1,.val sh7 x1),(5,.val iS v50)]) (fun v h => by rw [f100.l30] at h; cases h) ?_ hF (ar h [0,1,5])
  intro m30 v50 a w hF h
  rw [f100.l30] at hF
  refine wp_seq ?_
  refine zs [0,1,5,14] h an fun a w h => ?_
  refine zi h hF (fun hF => ?_) (fun hF => ?_)
  ·refine wp_skip ?_
   refine wp_seq <| wp_block ?_
   obtain ⟨hc56,hF⟩:=of_if hF
   obtain ⟨hc57,hF⟩:=of_if hF
   obtain ⟨r55,hr58,hF⟩:=of_bind hF
   refine wp_regy_seq tok (orc:=orcL [(25,[⟨.bool,r55⟩])]) (l:=[0,1,5,26]) ([],[],[],[]) 10 nw h (by kernel_rfl) (by kernel_rfl) (ac hc56 (ac hc57 (ac (c105 k (gD x0 (tZ v50) ((⟨#[]⟩:ByteArray),(⟨#[]⟩:ByteArray))) (gD x1 (tZ v50) ((⟨#[]⟩:ByteArray),(⟨#[]⟩:ByteArray))) r55 hr58) an))) fun a w h => ?_
   refine zi h hF (fun hF => ?_) (fun hF => ?_)
   ·refine zs [4] h an fun a w h => ?_
    cases hF
    exact wp_ret (ret_okR tok h rfl (by kernel_rfl)).1
   ·refine wp_skip ?_
    refine zt [0,1,5] h an fun a w h => ?_
    exact ⟨(w64 (v50 + (1:Int))),hF,ar h [0,1,5]⟩
  ·refine wp_exit ?_
   refine zs [4] h an fun a w h => ?_
   cases hF
   exact wp_ret (ret_okR tok h rfl (by kernel_rfl)).1
def f81 (k:Nat) (x0:(Int × ((List (Int × Int)) × (List (ByteArray × ByteArray))))) (x1:(Int × ((List (Int × Int)) × (List (ByteArray × ByteArray))))):Option Bool:=if (x0.1 != x1.1) then (some false) else ((f75 k x0.2.1 x1.2.1).bind fun r1 => (if (!r1) then (some false) else ((f100 k x0.2.2 x1.2.2).bind fun r2 => (if (!r2) then (some false) else (some true)))))
theorem c81 (k:Nat) (x0:(Int × ((List (Int × Int)) × (List (ByteArray × ByteArray))))) (x1:(Int × ((List (Int × Int)) × (List (ByteArray × ByteArray))))) (r:Bool) (hF:f81 k x0 x1=some r):PCall Try.prog 81 [⟨sh8,x0⟩,⟨sh8,x1⟩] [⟨.bool,r⟩]:=by
 refine pcall_intro Try.func81 rfl rfl (Nat.le_of_ble_eq_true rfl) ?_
 intro w0 Zi a w h
 rw [f81] at hF
 refine zs [2,3] h an fun a w h => ?_
 refine wp_seq ?_
 refine zs [2,3,9] h an fun a w h => ?_
 refine zi h hF (fun hF => ?_) (fun hF => ?_)
 ·refine zs [4] h an fun a w h => ?_
  cases hF
  exact wp_ret (ret_okR tok h rfl (by kernel_rfl)).1
 ·refine wp_skip ?_
  refine wp_seq ?_
  obtain ⟨r1,hr4,hF⟩:=of_bind hF
  refine zc (orcL [(14,[⟨.bool,r1⟩])]) [2,3,15] h (ac (c75 k x0.2.1 x1.2.1 r1 hr4) an) fun a w h => ?_
  refine zi h hF (fun hF => ?_) (fun hF => ?_)
  ·refine zs [4] h an fun a w h => ?_
   cases hF
   exact wp_ret (ret_okR tok h rfl (by kernel_rfl)).1
  ·refine wp_skip ?_
   refine wp_seq ?_
   obtain ⟨r2,hr3,hF⟩:=of_bind hF
   refine zc (orcL [(20,[⟨.bool,r2⟩])]) [21] h (ac (c100 k x0.2.2 x1.2.2 r2 hr3) an) fun a w h => ?_
   refine zi h hF (fun hF => ?_) (fun hF => ?_)
   ·refine zs [4] h an fun a w h => ?_
    cases hF
    exact wp_ret (ret_okR tok h rfl (by kernel_rfl)).1
   ·refine wp_skip ?_
    refine zs [4] h an fun a w h => ?_
    cases hF
    exact wp_ret (ret_okR tok h rfl (by kernel_rfl)).1
def f56.l30 (k:Nat) (x0:(List (Int × ((List (Int × Int)) × (List (ByteArray × ByteArray)))))) (x1:(List (Int × ((List (Int × Int)) × (List (ByteArray × ByteArray)))))):Nat→Int→Option Bool
 | 0,_ => none
 | m30+1,v50 => if (decide (v50 < (List.length x0:Int))) then (if (0≤v50∧v50 < (List.length x0:Int)) then (if (0≤v50∧v50 < (List.length x1:Int)) then ((f81 k (List.getD x0 (Int.toNat v50) ((0:Int),(([]:(List (Int × Int))),([]:(List (ByteArray × ByteArray)))))) (List.getD x1 (Int.toNat v50) ((0:Int),(([]:(List (Int × Int))),([]:(List (ByteArray × ByteArray))))))).bind fun r55 => (if (!r55) then (some false) else ((f56.l30 k x0 x1) m30 (IntKind.i64.wrap (v50 + (1:Int)))))) else none) else none) else (some true)
def f56 (k:Nat) (x0:(List (Int × ((List (Int × Int)) × (List (ByteArray × ByteArray)))))) (x1:(List (Int × ((List (Int × Int)) × (List (ByteArray × ByteArray)))))):Option Bool:=if (((List.length x0:Int):Int) != (List.length x1:Int)) then (some false) else (f56.l30 k x0 x1 k (0:Int))
theorem c56 (k:Nat) (x0:(List (Int × ((List (Int × Int)) × (List (ByteArray × ByteArray)))))) (x1:(List (Int × ((List (Int × Int)) × (List (ByteArray × ByteArray)))))) (r:Bool) (hF:f56 k x0 x1=some r):PCall Try.prog 56 [⟨sh18,x0⟩,⟨sh18,x1⟩] [⟨.bool,r⟩]:=by
 refine pcall_intro Try.func56 rfl rfl (Nat.le_of_ble_eq_true rfl) ?_
 intro w0 Zi a w h
 rw [f56] at hF
 refine zs [0,1] h an fun a w h => ?_
 refine wp_seq ?_
 refine zs [0,1,10] h an fun a w h => ?_
 refine zi h hF (fun hF => ?_) (fun hF => ?_)
 ·refine zs [4] h an fun a w h => ?_
  cases hF
  exact wp_ret (ret_okR tok h rfl (by kernel_rfl)).1
 ·refine wp_skip ?_
  refine wp_seq ?_
  refine zs [0,1,5] h an fun a w h => ?_
  refine wp_block ?_
  refine wp_loop_fuel (f56.l30 k x0 x1) (fun v50 => [(0,.val sh18 x0),(1,.val sh18 x1),(5,.val iS v50)]) (fun v h => by rw [f56.l30] at h; cases h) ?_ hF (ar h [0,1,5])
  intro m30 v50 a w hF h
  rw [f56.l30] at hF
  refine wp_seq ?_
  refine zs [0,1,5,14] h an fun a w h => ?_
  refine zi h hF (fun hF => ?_) (fun hF => ?_)
  ·refine wp_skip ?_
   refine wp_seq <| wp_block ?_
   obtain ⟨hc56,hF⟩:=of_if hF
   obtain ⟨hc57,hF⟩:=of_if hF
   obtain ⟨r55,hr58,hF⟩:=of_bind hF
   refine wp_regy_seq tok (orc:=orcL [(25,[⟨.bool,r55⟩])]) (l:=[0,1,5,26]) ([],[],[],[]) 10 nw h (by kernel_rfl) (by kernel_rfl) (ac hc56 (ac hc57 (ac (c81 k (gD x0 (tZ v50) (iO,(([]:(List (Int × Int))),([]:(List (ByteArray × ByteArray)))))) (gD x1 (tZ v50) (iO,(([]:(List (Int × Int))),([]:(List (ByteArray × ByteArray)))))) r55 hr58) an))) fun a w h => ?_
   refine zi h hF (fun hF => ?_) (fun hF => ?_)
   ·refine zs [4] h an fun a w h => ?_
    cases hF
    exact wp_ret (ret_okR tok h rfl (by kernel_rfl)).1
   ·refine wp_skip ?_
    refine zt [0,1,5] h an fun a w h => ?_
    exact ⟨(w64 (v50 + (1:Int))),hF,ar h [0,1,5]⟩
  ·refine wp_exit ?_
   refine zs [4] h an fun a w h => ?_
   cases hF
   exact wp_ret (ret_okR tok h rfl (by kernel_rfl)).1
def f20 (k:Nat) (x0:((Int × (Int × Int)) × (List (Int × ((List (Int × Int)) × (List (ByteArray × ByteArray))))))) (x1:((Int × (Int × Int)) × (List (Int × ((List (Int × Int)) × (List (ByteArray × ByteArray))))))):Option Bool:=(f55 k x0.1 x1.1).bind fun r1 => (if (!r1) then (some false) else ((f56 k x0.2 x1.2).bind fun r2 => (if (!r2) then (some false) else (some true))))
theorem c20 (k:Nat) (x0:((Int × (Int × Int)) × (List (Int × ((List (Int × Int)) × (List (ByteArray × ByteArray))))))) (x1:((Int × (Int × Int)) × (List (Int × ((List (Int × Int)) × (List (ByteArray × ByteArray))))))) (r:Bool) (hF:f20 k x0 x1=some r):PCall Try.prog 20 [⟨sh13,x0⟩,⟨sh13,x1⟩] [⟨.bool,r⟩]:=by
 refine pcall_intro Try.func20 rfl rfl (Nat.le_of_ble_eq_true rfl) ?_
 intro w0 Zi a w h
 rw [f20] at hF
 refine zs [2,3] h an fun a w h => ?_
 refine wp_seq ?_
 obtain ⟨r1,hr4,hF⟩:=of_bind hF
 refine zc (orcL [(9,[⟨.bool,r1⟩])]) [2,3,10] h (ac (c55 k x0.1 x1.1 r1 hr4) an) fun a w h => ?_
 refine zi h hF (fun hF => ?_) (fun hF => ?_)
 ·refine zs [4] h an fun a w h => ?_
  cases hF
  exact wp_ret (ret_okR tok h rfl (by kernel_rfl)).1
 ·refine wp_skip ?_
  refine wp_seq ?_
  obtain ⟨r2,hr3,hF⟩:=of_bind hF
  refine zc (orcL [(15,[⟨.bool,r2⟩])]) [16] h (ac (c56 k x0.2 x1.2 r2 hr3) an) fun a w h => ?_
  refine zi h hF (fun hF => ?_) (fun hF => ?_)
  ·refine zs [4] h an fun a w h => ?_
   cases hF
   exact wp_ret (ret_okR tok h rfl (by kernel_rfl)).1
  ·refine wp_skip ?_
   refine zs [4] h an fun a w h => ?_
   cases hF
   exact wp_ret (ret_okR tok h rfl (by kernel_rfl)).1
def f19.l18 (k:Nat) (x0:(List Int)) (x1:(List Int)):Nat→Int→Option Bool
 | 0,_ => none
 | m18+1,v30 => if (decide (v30 < (List.length x0:Int))) then (if (0≤v30∧v30 < (List.length x0:Int)) then (if (0≤v30∧v30 < (List.length x1:Int)) then (if (((List.getD x0 (Int.toNat v30) (0:Int)):Int) != (List.getD x1 (Int.toNat v30) (0:Int))) then (some false) else ((f19.l18 k x0 x1) m18 (IntKind.i64.wrap (v30 + (1:Int))))) else none) else none) else (some true)
def f19 (k:Nat) (x0:(List Int)) (x1:(List Int)):Option Bool:=if (((List.length x0:Int):Int) != (List.length x1:Int)) then (some false) else (f19.l18 k x0 x1 k (0:Int))
theorem c19 (k:Nat) (x0:(List Int)) (x1:(List Int)) (r:Bool) (hF:f19 k x0 x1=some r):PCall Try.prog 19 [⟨(.sl false 5 (.int .u8)),x0⟩,⟨(.sl false 5 (.int .u8)),x1⟩] [⟨.bool,r⟩]:=by
 refine pcall_intro Try.func19 rfl rfl (Nat.le_of_ble_eq_true rfl) ?_
 intro w0 Zi a w h
 rw [f19] at hF
 refine zs [0,1] h an fun a w h => ?_
 refine wp_seq ?_
 refine zs [0,1,10] h an fun a w h => ?_
 refine zi h hF (fun hF => ?_) (fun hF => ?_)
 ·refine zs [4] h an fun a w h => ?_
  cases hF
  exact wp_ret (ret_okR tok h rfl (by kernel_rfl)).1
 ·refine wp_skip ?_
  refine wp_seq ?_
  refine zs [0,1,5] h an fun a w h => ?_
  refine wp_block ?_
  refine wp_loop_fuel (f19.l18 k x0 x1) (fun v30 => [(0,.val (.sl false 5 (.int .u8)) x0),(1,.val (.sl false 5 (.int .u8)) x1),(5,.val iS v30)]) (fun v h => by rw [f19.l18] at h; cases h) ?_ hF (ar h [0,1,5])
  intro m18 v30 a w hF h
  rw [f19.l18] at hF
  refine wp_seq ?_
  refine zs [0,1,5,14] h an fun a w h => ?_
  refine zi h hF (fun hF => ?_) (fun hF => ?_)
  ·refine wp_skip ?_
   refine wp_seq <| wp_block ?_
   obtain ⟨hc33,hF⟩:=of_if hF
   obtain ⟨hc34,hF⟩:=of_if hF
   refine wp_regy_seq tok (orc:=o0) (l:=[0,1,5,25]) ([],[],[],[]) 9 nw h (by kernel_rfl) (by kernel_rfl) (ac hc33 (ac hc34 an)) fun a w h => ?_
   refine zi h hF (fun hF => ?_) (fun hF => ?_)
   ·refine zs [4] h an fun a w h => ?_
    cases hF
    exact wp_ret (ret_okR tok h rfl (by kernel_rfl)).1
   ·refine wp_skip ?_
    refine zt [0,1,5] h an fun a w h => ?_
    exact ⟨(w64 (v30 + (1:Int))),hF,ar h [0,1,5]⟩
  ·refine wp_exit ?_
   refine zs [4] h an fun a w h => ?_
   cases hF
   exact wp_ret (ret_okR tok h rfl (by kernel_rfl)).1
def f22.l20 (k:Nat):Nat → ((List Int) × Int × Int)→Option (Int × (List Int))
 | 0,_ => none
 | m20+1,(v34,v35,v36) => if (decide (v36 < (List.length v34:Int))) then (if (0≤v36∧v36 < (List.length v34:Int)) then ((f22.l20 k) m20 ((List.set v34 (Int.toNat v36) (IntKind.u8.wrap v35)),(IntKind.i64.wrap (v35 + (1:Int))),(IntKind.i64.wrap (v36 + (1:Int))))) else none) else (some (v35,v34))
def f22 (k:Nat) (x0:(List Int)) (x1:Int):Option (Int × (List Int)):=f22.l20 k k (x0,x1,(0:Int))
theorem c22 (k:Nat) (x0:(List Int)) (x1:Int) (r:(Int × (List Int))) (hF:f22 k x0 x1=some r):PMut Try.prog 22 [⟨(.sl true 5 (.int .u8)),x0⟩,⟨iS,x1⟩] [⟨iS,r.1⟩] (List.set [⟨(.sl true 5 (.int .u8)),x0⟩,⟨iS,x1⟩] 0 ⟨(.sl true 5 (.int .u8)),r.2⟩):=by
 refine pmut_intro (j:=0) (fin:=⟨(.sl true 5 (.int .u8)),r.2⟩) Try.func22 rfl rfl (Nat.le_of_ble_eq_true rfl) (Nat.le_of_ble_eq_true rfl) (by kernel_rfl) ?_
 intro w0 Zi f0 v0 a w h
 rw [f22] at hF
 refine wp_reg_seq tok (orc:=o0) (fz:=[]) (l:=[0,1]) (.inl rfl) h (by kernel_rfl) an fun a w h => ?_
 refine wp_seq ?_
 refine wp_reg_seq tok (orc:=o0) (fz:=[]) (l:=[0,1,5]) (.inl rfl) h (by kernel_rfl) an fun a w h => ?_
 refine wp_block ?_
 refine wp_loop_fuel (f22.l20 k) (fun ((v34,v35,v36):((List Int) × Int × Int)) => [(0,.val (.sl true 5 (.int .u8)) v34),(1,.val iS v35),(5,.val iS v36)]) (fun v h => by obtain ⟨v34,v35,v36⟩:=v; rw [f22.l20] at h; cases h) ?_ hF (h.arrive (fz:=[]) (l:=[0,1,5]) (.inl rfl) (by kernel_rfl))
 intro m20 v a w hF h
 obtain ⟨v34,v35,v36⟩:=v
 rw [f22.l20] at hF
 refine wp_seq ?_
 refine wp_reg_seq tok (orc:=o0) (fz:=[]) (l:=[0,1,5,9]) (.inl rfl) h (by kernel_rfl) an fun a w h => ?_
 refine zi h hF (fun hF => ?_) (fun hF => ?_)
 ·refine wp_skip ?_
  refine wp_seq <| wp_block ?_
  obtain ⟨hc38,hF⟩:=of_if hF
  refine wp_reg_seq tok (orc:=o0) (fz:=[]) (l:=[0,1,5]) (.inl rfl) h (by kernel_rfl) (ac hc38 an) fun a w h => ?_
  refine wp_reg tok (orc:=o0) (fz:=[]) (l:=[0,1,5]) (.inl rfl) h (by kernel_rfl) an fun a w h => ?_
  refine wp_reg tok (orc:=o0) (fz:=[]) (l:=[0,1,5]) (.inl rfl) h (by kernel_rfl) an fun a w h => ?_
  exact ⟨((List.set v34 (tZ v36) (IntKind.u8.wrap v35)),(w64 (v35 + (1:Int))),(w64 (v36 + (1:Int)))),hF,h.arrive (fz:=[]) (l:=[0,1,5]) (.inl rfl) (by kernel_rfl)⟩
 ·refine wp_exit ?_
  refine wp_reg_seq tok (orc:=o0) (fz:=[]) (l:=[0,4]) (.inl rfl) h (by kernel_rfl) an fun a w h => ?_
  cases hF
  exact wp_ret (retM_ok tok h rfl (by kernel_rfl) (by kernel_rfl)).1
def f39.l26 (k:Nat):Nat → ((List (Int × Int)) × Int × Int)→Option (Int × (List (Int × Int)))
 | 0,_ => none
 | m26+1,(v44,v45,v46) => if (decide (v46 < (List.length v44:Int))) then (if (0≤v46∧v46 < (List.length v44:Int)) then (if (0≤v46∧v46 < (List.length (List.set v44 (Int.toNat v46) (v45,(List.getD v44 (Int.toNat v46) ((0:Int),(0:Int))).2)):Int)) then ((f39.l26 k) m26 ((List.set (List.set v44 (Int.toNat v46) (v45,(List.getD v44 (Int.toNat v46) ((0:Int),(0:Int))).2)) (Int.toNat v46) ((List.getD (List.set v44 (Int.toNat v46) (v45,(List.getD v44 (Int.toNat v46) ((0:Int),(0:Int))).2)) (Int.toNat v46) ((0:Int),(0:Int))).1,(IntKind.i64.wrap (v45 + (1:Int))))),(IntKind.i64.wrap ((IntKind.i64.wrap (v45 + (1:Int))) + (1:Int))),(IntKind.i64.wrap (v46 + (1:Int))))) else none) else none) else (some (v45,v44))
def f39 (k:Nat) (x0:(List (Int × Int))) (x1:Int):Option (Int × (List (Int × Int))):=f39.l26 k k (x0,x1,(0:Int))
theorem c39 (k:Nat) (x0:(List (Int × Int))) (x1:Int) (r:(Int × (List (Int × Int)))) (hF:f39 k x0 x1=some r):PMut Try.prog 39 [⟨sh20,x0⟩,⟨iS,x1⟩] [⟨iS,r.1⟩] (List.set [⟨sh20,x0⟩,⟨iS,x1⟩] 0 ⟨sh20,r.2⟩):=by
 refine pmut_intro (j:=0) (fin:=⟨sh20,r.2⟩) Try.func39 rfl rfl (Nat.le_of_ble_eq_true rfl) (Nat.le_of_ble_eq_true rfl) (by kernel_rfl) ?_
 intro w0 Zi f0 v0 a w h
 rw [f39] at hF
 refine wp_reg_seq tok (orc:=o0) (fz:=[]) (l:=[0,1]) (.inl rfl) h (by kernel_rfl) an fun a w h => ?_
 refine wp_seq ?_
 refine wp_reg_seq tok (orc:=o0) (fz:=[]) (l:=[0,1,5]) (.inl rfl) h (by kernel_rfl) an fun a w h => ?_
 refine wp_block ?_
 refine wp_loop_fuel (f39.l26 k) (fun ((v44,v45,v46):((List (Int × Int)) × Int × Int)) => [(0,.val sh20 v44),(1,.val iS v45),(5,.val iS v46)]) (fun v h => by obtain ⟨v44,v45,v46⟩:=v; rw [f39.l26] at h; cases h) ?_ hF (h.arrive (fz:=[]) (l:=[0,1,5]) (.inl rfl) (by kernel_rfl))
 intro m26 v a w hF h
 obtain ⟨v44,v45,v46⟩:=v
 rw [f39.l26] at hF
 refine wp_seq ?_
 refine wp_reg_seq tok (orc:=o0) (fz:=[]) (l:=[0,1,5,9]) (.inl rfl) h (by kernel_rfl) an fun a w h => ?_
 refine zi h hF (fun hF => ?_) (fun hF => ?_)
 ·refine wp_skip ?_
  refine wp_seq <| wp_block ?_
  obtain ⟨hc50,hF⟩:=of_if hF
  refine wp_reg_seq tok (orc:=o0) (fz:=[]) (l:=[0,1,5]) (.inl rfl) h (by kernel_rfl) (ac hc50 an) fun a w h => ?_
  refine wp_reg_seq tok (orc:=o0) (fz:=[]) (l:=[0,1,5]) (.inl rfl) h (by kernel_rfl) an fun a w h => ?_
  obtain ⟨hc49,hF⟩:=of_if hF
  refine wp_reg_seq tok (orc:=o0) (fz:=[]) (l:=[0,1,5]) (.inl rfl) h (by kernel_rfl) (ac hc49 an) fun a w h => ?_
  refine wp_reg tok (orc:=o0) (fz:=[]) (l:=[0,1,5]) (.inl rfl) h (by kernel_rfl) an fun a w h => ?_
  refine wp_reg tok (orc:=o0) (fz:=[]) (l:=[0,1,5]) (.inl rfl) h (by kernel_rfl) an fun a w h => ?_
  exact ⟨((List.set (List.set v44 (tZ v46) (v45,(gD v44 (tZ v46) (iO,iO)).2)) (tZ v46) ((gD (List.set v44 (tZ v46) (v45,(gD v44 (tZ v46) (iO,iO)).2)) (tZ v46) (iO,iO)).1,(w64 (v45 + (1:Int))))),(w64 ((w64 (v45 + (1:Int))) + (1:Int))),(w64 (v46 + (1:Int)))),hF,h.arrive (fz:=[]) (l:=[0,1,5]) (.inl rfl) (by kernel_rfl)⟩
 ·refine wp_exit ?_
  refine wp_reg_seq tok (orc:=o0) (fz:=[]) (l:=[0,4]) (.inl rfl) h (by kernel_rfl) an fun a w h => ?_
  cases hF
  exact wp_ret (retM_ok tok h rfl (by kernel_rfl) (by kernel_rfl)).1
def f40.l19 (k:Nat):Nat → (Int × ByteArray)→Option ByteArray
 | 0,_ => none
 | m19+1,(v32,v33) => if (decide (v32 > (0:Int))) then (if (((10:Int):Int)≠0) then (if (ByteArray.size (strOfNums [(IntKind.u8.wrap (IntKind.i64.wrap ((48:Int) + (Int.tmod v32 (10:Int)))))])+ByteArray.size v33≤9223372036854775807) then (if (((10:Int):Int)≠0) then ((f40.l19 k) m19 ((IntKind.i64.wrap (Int.tdiv v32 (10:Int))),((strOfNums [(IntKind.u8.wrap (IntKind.i64.wrap ((48:Int) + (Int.tmod v32 (10:Int)))))]) ++ v33))) else none) else none) else none) else (if (ByteArray.size (⟨#[109]⟩:ByteArray)+ByteArray.size v33≤9223372036854775807) then (some ((⟨#[109]⟩:ByteArray) ++ v33)) else none)
def f40 (k:Nat) (x0:Int):Option ByteArray:=if (decide (x0 ≤ (0:Int))) then (some (⟨#[109,48]⟩:ByteArray)) else (f40.l19 k k (x0,(⟨#[]⟩:ByteArray)))
theorem c40 (k:Nat) (x0:Int) (r:ByteArray) (hF:f40 k x0=some r):PCall Try.prog 40 [⟨iS,x0⟩] [⟨.str,r⟩]:=by
 refine pcall_intro Try.func40 rfl rfl (Nat.le_of_ble_eq_true rfl) ?_
 intro w0 Zi a w h
 rw [f40] at hF
 refine zs [0] h an fun a w h => ?_
 refine wp_seq ?_
 refine zs [0,5] h an fun a w h => ?_
 refine zi h hF (fun hF => ?_) (fun hF => ?_)
 ·refine zs [2] h an fun a w h => ?_
  cases hF
  exact wp_ret (ret_okR tok h rfl (by kernel_rfl)).1
 ·refine wp_skip ?_
  refine zs [0,3] h an fun a w h => ?_
  refine wp_seq <| wp_block ?_
  refine wp_loop_fuel (f40.l19 k) (fun ((v32,v33):(Int × ByteArray)) => [(0,.val iS v32),(3,.val .str v33)]) (fun v h => by obtain ⟨v32,v33⟩:=v; rw [f40.l19] at h; cases h) ?_ hF (ar h [0,3])
  intro m19 v a w hF h
  obtain ⟨v32,v33⟩:=v
  rw [f40.l19] at hF
  refine wp_seq ?_
  refine zs [0,3,7] h an fun a w h => ?_
  refine zi h hF (fun hF => ?_) (fun hF => ?_)
  ·refine wp_skip ?_
   refine wp_block ?_
   obtain ⟨hc35,hF⟩:=of_if hF
   obtain ⟨hc36,hF⟩:=of_if hF
   refine zs [0,3] h (ac hc35 (ac hc36 an)) fun a w h => ?_
   obtain ⟨hc34,hF⟩:=of_if hF
   refine zt [0,3] h (ac hc34 an) fun a w h => ?_
   exact ⟨((w64 (Int.tdiv v32 (10:Int))),((strOfNums [(IntKind.u8.wrap (w64 ((48:Int) + (Int.tmod v32 (10:Int)))))]) ++ v33)),hF,ar h [0,3]⟩
  ·refine wp_exit ?_
   obtain ⟨hc37,hF⟩:=of_if hF
   refine zs [2] h (ac hc37 an) fun a w h => ?_
   cases hF
   exact wp_ret (ret_okR tok h rfl (by kernel_rfl)).1
def f82.l50 (k:Nat):Nat → ((List (ByteArray × ByteArray)) × Int × Int)→Option (Int × (List (ByteArray × ByteArray)))
 | 0,_ => none
 | m50+1,(v84,v85,v86) => if (decide (v86 < (List.length v84:Int))) then ((f40 k v85).bind fun r93 => (if (0≤v86∧v86 < (List.length v84:Int)) then ((f40 k (IntKind.i64.wrap (v85 + (1:Int)))).bind fun r94 => (if (0≤v86∧v86 < (List.length (List.set v84 (Int.toNat v86) (r93,(List.getD v84 (Int.toNat v86) ((⟨#[]⟩:ByteArray),(⟨#[]⟩:ByteArray))).2)):Int)) then ((f82.l50 k) m50 ((List.set (List.set v84 (Int.toNat v86) (r93,(List.getD v84 (Int.toNat v86) ((⟨#[]⟩:ByteArray),(⟨#[]⟩:ByteArray))).2)) (Int.toNat v86) ((List.getD (List.set v84 (Int.toNat v86) (r93,(List.getD v84 (Int.toNat v86) ((⟨#[]⟩:ByteArray),(⟨#[]⟩:ByteArray))).2)) (Int.toNat v86) ((⟨#[]⟩:ByteArray),(⟨#[]⟩:ByteArray))).1,r94)),(IntKind.i64.wrap ((IntKind.i64.wrap (v85 + (1:Int))) + (1:Int))),(IntKind.i64.wrap (v86 + (1:Int))))) else none)) else none)) else (some (v85,v84))
def f82 (k:Nat) (x0:(List (ByteArray × ByteArray))) (x1:Int):Option (Int × (List (ByteArray × ByteArray))):=f82.l50 k k (x0,x1,(0:Int))
theorem c82 (k:Nat) (x0:(List (ByteArray × ByteArray))) (x1:Int) (r:(Int × (List (ByteArray × ByteArray)))) (hF:f82 k x0 x1=some r):PMut Try.prog 82 [⟨sh4,x0⟩,⟨iS,x1⟩] [⟨iS,r.1⟩] (List.set [⟨sh4,x0⟩,⟨iS,x1⟩] 0 ⟨sh4,r.2⟩):=by
 refine pmut_intro (j:=0) (fin:=⟨sh4,r.2⟩) Try.func82 rfl rfl (Nat.le_of_ble_eq_true rfl) (Nat.le_of_ble_eq_true rfl) (by kernel_rfl) ?_
 intro w0 Zi f0 v0 a w h
 rw [f82] at hF
 refine wp_reg_seq tok (orc:=o0) (fz:=[]) (l:=[0,1]) (.inl rfl) h (by kernel_rfl) an fun a w h => ?_
 refine wp_seq ?_
 refine wp_reg_seq tok (orc:=o0) (fz:=[]) (l:=[0,1,5]) (.inl rfl) h (by kernel_rfl) an fun a w h => ?_
 refine wp_block ?_
 refine wp_loop_fuel (f82.l50 k) (fun ((v84,v85,v86):((List (ByteArray × ByteArray)) × Int × Int)) => [(0,.val sh4 v84),(1,.val iS v85),(5,.val iS v86)]) (fun v h => by obtain ⟨v84,v85,v86⟩:=v; rw [f82.l50] at h; cases h) ?_ hF (h.arrive (fz:=[]) (l:=[0,1,5]) (.inl rfl) (by kernel_rfl))
 intro m50 v a w hF h
 obtain ⟨v84,v85,v86⟩:=v
 rw [f82.l50] at hF
 refine wp_seq ?_
 refine wp_reg_seq tok (orc:=o0) (fz:=[]) (l:=[0,1,5,9]) (.inl rfl) h (by kernel_rfl) an fun a w h => ?_
 refine zi h hF (fun hF => ?_) (fun hF => ?_)
 ·refine wp_skip ?_
  refine wp_seq <| wp_block ?_
  obtain ⟨r93,hr97,hF⟩:=of_bind hF
  obtain ⟨hc98,hF⟩:=of_if hF
  refine wp_reg_seq tok (orc:=orcL [(15,[⟨.str,r93⟩])]) (fz:=[]) (l:=[0,1,5]) (.inl rfl) h (by kernel_rfl) (ac (c40 k v85 r93 hr97) (ac hc98 an)) fun a w h => ?_
  refine wp_reg_seq tok (orc:=o0) (fz:=[]) (l:=[0,1,5]) (.inl rfl) h (by kernel_rfl) an fun a w h => ?_
  obtain ⟨r94,hr95,hF⟩:=of_bind hF
  obtain ⟨hc96,hF⟩:=of_if hF
  refine wp_reg_seq tok (orc:=orcL [(23,[⟨.str,r94⟩])]) (fz:=[]) (l:=[0,1,5]) (.inl rfl) h (by kernel_rfl) (ac (c40 k (w64 (v85 + (1:Int))) r94 hr95) (ac hc96 an)) fun a w h => ?_
  refine wp_reg tok (orc:=o0) (fz:=[]) (l:=[0,1,5]) (.inl rfl) h (by kernel_rfl) an fun a w h => ?_
  refine wp_reg tok (orc:=o0) (fz:=[]) (l:=[0,1,5]) (.inl rfl) h (by kernel_rfl) an fun a w h => ?_
  exact ⟨((List.set (List.set v84 (tZ v86) (r93,(gD v84 (tZ v86) ((⟨#[]⟩:ByteArray),(⟨#[]⟩:ByteArray))).2)) (tZ v86) ((gD (List.set v84 (tZ v86) (r93,(gD v84 (tZ v86) ((⟨#[]⟩:ByteArray),(⟨#[]⟩:ByteArray))).2)) (tZ v86) ((⟨#[]⟩:ByteArray),(⟨#[]⟩:ByteArray))).1,r94)),(w64 ((w64 (v85 + (1:Int))) + (1:Int))),(w64 (v86 + (1:Int)))),hF,h.arrive (fz:=[]) (l:=[0,1,5]) (.inl rfl) (by kernel_rfl)⟩
 ·refine wp_exit ?_
  refine wp_reg_seq tok (orc:=o0) (fz:=[]) (l:=[0,4]) (.inl rfl) h (by kernel_rfl) an fun a w h => ?_
  cases hF
  exact wp_ret (retM_ok tok h rfl (by kernel_rfl) (by kernel_rfl)).1
def f57.l68 (k:Nat):Nat → ((List (Int × ((List (Int × Int)) × (List (ByteArray × ByteArray))))) × Int × Int)→Option (Int × (List (Int × ((List (Int × Int)) × (List (ByteArray × ByteArray))))))
 | 0,_ => none
 | m68+1,(v114,v115,v116) => if (decide (v116 < (List.length v114:Int))) then (if (0≤v116∧v116 < (List.length v114:Int)) then (if (0≤v116∧v116 < (List.length (List.set v114 (Int.toNat v116) (v115,(List.getD v114 (Int.toNat v116) ((0:Int),(([]:(List (Int × Int))),([]:(List (ByteArray × ByteArray)))))).2)):Int)) then ((f39 k (List.getD (List.set v114 (Int.toNat v116) (v115,(List.getD v114 (Int.toNat v116) ((0:Int),(([]:(List (Int × Int))),([]:(List (ByteArray × ByteArray)))))).2)) (Int.toNat v116) ((0:Int),(([]:(List (Int × Int))),([]:(List (ByteArray × ByteArray)))))).2.1 (IntKind.i64.wrap (v115 + (1:Int)))).bind fun r126 => ((some ((List.set (List.set v114 (Int.toNat v116) (v115,(List.getD v114 (Int.toNat v116) ((0:Int),(([]:(List (Int × Int))),([]:(List (ByteArray × ByteArray)))))).2)) (Int.toNat v116) ((List.getD (List.set v114 (Int.toNat v116) (v115,(List.getD v114 (Int.toNat v116) ((0:Int),(([]:(List (Int × Int))),([]:(List (ByteArray × ByteArray)))))).2)) (Int.toNat v116) ((0:Int),(([]:(List (Int × Int))),([]:(List (ByteArray × ByteArray)))))).1,(r126.2,(List.getD (List.set v114 (Int.toNat v116) (v115,(List.getD v114 (Int.toNat v116) ((0:Int),(([]:(List (Int × Int))),([]:(List (ByteArray × ByteArray)))))).2)) (Int.toNat v116) ((0:Int),(([]:(List (Int × Int))),([]:(List (ByteArray × ByteArray)))))).2.2))):(List (Int × ((List (Int × Int)) × (List (ByteArray × ByteArray))))))).bind fun v127 => (if (0≤v116∧v116 < (List.length v127:Int)) then ((f82 k (List.getD v127 (Int.toNat v116) ((0:Int),(([]:(List (Int × Int))),([]:(List (ByteArray × ByteArray)))))).2.2 r126.1).bind fun r128 => ((f57.l68 k) m68 ((List.set v127 (Int.toNat v116) ((List.getD v127 (Int.toNat v116) ((0:Int),(([]:(List (Int × Int))),([]:(List (ByteArray × ByteArray)))))).1,((List.getD v127 (Int.toNat v116) ((0:Int),(([]:(List (Int × Int))),([]:(List (ByteArray × ByteArray)))))).2.1,r128.2))),r128.1,(IntKind.i64.wrap (v116 + (1:Int)))))) else none))) else none) else none) else (some (v115,v114))
def f57 (k:Nat) (x0:(List (Int × ((List (Int × Int)) × (List (ByteArray × ByteArray)))))) (x1:Int):Option (Int × (List (Int × ((List (Int × Int)) × (List (ByteArray × ByteArray)))))):=f57.l68 k k (x0,x1,(0:Int))
theorem c57 (k:Nat) (x0:(List (Int × ((List (Int × Int)) × (List (ByteArray × ByteArray)))))) (x1:Int) (r:(Int × (List (Int × ((List (Int × Int)) × (List (ByteArray × ByteArray))))))) (hF:f57 k x0 x1=some r):PMut Try.prog 57 [⟨sh21,x0⟩,⟨iS,x1⟩] [⟨iS,r.1⟩] (List.set [⟨sh21,x0⟩,⟨iS,x1⟩] 0 ⟨sh21,r.2⟩):=by
 refine pmut_intro (j:=0) (fin:=⟨sh21,r.2⟩) Try.func57 rfl rfl (Nat.le_of_ble_eq_true rfl) (Nat.le_of_ble_eq_true rfl) (by kernel_rfl) ?_
 intro w0 Zi f0 v0 a w h
 rw [f57] at hF
 refine wp_reg_seq tok (orc:=o0) (fz:=[]) (l:=[0,1]) (.inl rfl) h (by kernel_rfl) an fun a w h => ?_
 refine wp_seq ?_
 refine wp_reg_seq tok (orc:=o0) (fz:=[]) (l:=[0,1,5]) (.inl rfl) h (by kernel_rfl) an fun a w h => ?_
 refine wp_block ?_
 refine wp_loop_fuel (f57.l68 k) (fun ((v114,v115,v116):((List (Int × ((List (Int × Int)) × (List (ByteArray × ByteArray))))) × Int × Int)) => [(0,.val sh21 v114),(1,.val iS v115),(5,.val iS v116)]) (fun v h => by obtain ⟨v114,v115,v116⟩:=v; rw [f57.l68] at h; cases h) ?_ hF (h.arrive (fz:=[]) (l:=[0,1,5]) (.inl rfl) (by kernel_rfl))
 intro m68 v a w hF h
 obtain ⟨v114,v115,v116⟩:=v
 rw [f57.l68] at hF
 refine wp_seq ?_
 refine wp_reg_seq tok (orc:=o0) (fz:=[]) (l:=[0,1,5,9]) (.inl rfl) h (by kernel_rfl) an fun a w h => ?_
 refine zi h hF (fun hF => ?_) (fun hF => ?_)
 ·refine wp_skip ?_
  refine wp_seq <| wp_block ?_
  obtain ⟨hc134,hF⟩:=of_if hF
  refine wp_reg_seq tok (orc:=o0) (fz:=[]) (l:=[0,1,5]) (.inl rfl) h (by kernel_rfl) (ac hc134 an) fun a w h => ?_
  refine wp_reg_seq tok (orc:=o0) (fz:=[]) (l:=[0,1,5]) (.inl rfl) h (by kernel_rfl) an fun a w h => ?_
  obtain ⟨hc132,hF⟩:=of_if hF
  obtain ⟨r126,hr133,hF⟩:=of_bind hF
  refine wp_reg_seq tok (orc:=orcL [(25,[⟨.pt false 4294967295 (.sl true 66 (.st (.pair iS iS))),some r126.2⟩,⟨iS,r126.1⟩])]) (fz:=[]) (l:=[0,1,5]) (.inl rfl) h (by kernel_rfl) (ac hc132 (ac (c39 k (gD (List.set v114 (tZ v116) (v115,(gD v114 (tZ v116) (iO,(([]:(List (Int × Int))),([]:(List (ByteArray × ByteArray)))))).2)) (tZ v116) (iO,(([]:(List (Int × Int))),([]:(List (ByteArray × ByteArray)))))).2.1 (w64 (v115 + (1:Int))) r126 hr133) an)) fun a w h => ?_
  obtain ⟨v127,hv131,hF⟩:=of_bind hF
  replace h:=h.cast (S':=[(0,.val sh21 v127),(1,.val iS r126.1),(5,.val iS v116)]) (by cases hv131; kernel_rfl)
  obtain ⟨hc129,hF⟩:=of_if hF
  obtain ⟨r128,hr130,hF⟩:=of_bind hF
  refine wp_reg tok (orc:=orcL [(32,[⟨.pt false 4294967295 (.sl true 128 (.st (.pair .str .str))),some r128.2⟩,⟨iS,r128.1⟩])]) (fz:=[]) (l:=[0,1,5]) (.inl rfl) h (by kernel_rfl) (ac hc129 (ac (c82 k (gD v127 (tZ v116) (iO,(([]:(List (Int × Int))),([]:(List (ByteArray × ByteArray)))))).2.2 r126.1 r128 hr130) an)) fun a w h => ?_
  refine wp_reg tok (orc:=o0) (fz:=[]) (l:=[0,1,5]) (.inl rfl) h (by kernel_rfl) an fun a w h => ?_
  exact ⟨((List.set v127 (tZ v116) ((gD v127 (tZ v116) (iO,(([]:(List (Int × Int))),([]:(List (ByteArray × ByteArray)))))).1,((gD v127 (tZ v116) (iO,(([]:(List (Int × Int))),([]:(List (ByteArray × ByteArray)))))).2.1,r128.2))),r128.1,(w64 (v116 + (1:Int)))),hF,h.arrive (fz:=[]) (l:=[0,1,5]) (.inl rfl) (by kernel_rfl)⟩
 ·refine wp_exit ?_
  refine wp_reg_seq tok (orc:=o0) (fz:=[]) (l:=[0,4]) (.inl rfl) h (by kernel_rfl) an fun a w h => ?_
  cases hF
  exact wp_ret (retM_ok tok h rfl (by kernel_rfl) (by kernel_rfl)).1
def f21 (k:Nat) (x0:((Int × (Int × Int)) × (List (Int × ((List (Int × Int)) × (List (ByteArray × ByteArray))))))) (x1:Int):Option (Int × ((Int × (Int × Int)) × (List (Int × ((List (Int × Int)) × (List (ByteArray × ByteArray))))))):=(f57 k x0.2 x1).bind fun r1 => (some (r1.1,(x0.1,r1.2)))
theorem c21 (k:Nat) (x0:((Int × (Int × Int)) × (List (Int × ((List (Int × Int)) × (List (ByteArray × ByteArray))))))) (x1:Int) (r:(Int × ((Int × (Int × Int)) × (List (Int × ((List (Int × Int)) × (List (ByteArray × ByteArray)))))))) (hF:f21 k x0 x1=some r):PMut Try.prog 21 [⟨sh14,x0⟩,⟨iS,x1⟩] [⟨iS,r.1⟩] (List.set [⟨sh14,x0⟩,⟨iS,x1⟩] 0 ⟨sh14,r.2⟩):=by
 refine pmut_intro (j:=0) (fin:=⟨sh14,r.2⟩) Try.func21 rfl rfl (Nat.le_of_ble_eq_true rfl) (Nat.le_of_ble_eq_true rfl) (by kernel_rfl) ?_
 intro w0 Zi f0 v0 a w h
 rw [f21] at hF
 refine wp_reg_seq tok (orc:=o0) (fz:=[]) (l:=[0,1,2]) (.inl rfl) h (by kernel_rfl) an fun a w h => ?_
 obtain ⟨r1,hr2,hF⟩:=of_bind hF
 refine wp_reg_seq tok (orc:=orcL [(8,[⟨.pt false 4294967295 (.sl true 80 (.st (.pair iS (.pair (.sl true 66 (.st (.pair iS iS))) (.sl true 128 (.st (.pair .str .str))))))),some r1.2⟩,⟨iS,r1.1⟩])]) (fz:=[]) (l:=[0,1,2]) (.inl rfl) h (by kernel_rfl) (ac (c57 k x0.2 x1 r1 hr2) an) fun a w h => ?_
 refine wp_reg_seq tok (orc:=o0) (fz:=[]) (l:=[0,2,4]) (.inl rfl) h (by kernel_rfl) an fun a w h => ?_
 cases hF
 exact wp_ret (retMS_ok (d:=2) (t:=44) tok h rfl (by kernel_rfl) (by kernel_rfl)).1
def f87.l22 (k:Nat) (x0:(List (Int × Int))):Nat → (Int × Int)→Option Int
 | 0,_ => none
 | m22+1,(v37,v38) => if (decide (v38 < (List.length x0:Int))) then (if (0≤v38∧v38 < (List.length x0:Int)) then (if (((List.getD x0 (Int.toNat v38) ((0:Int),(0:Int))).1:Int) != v37) then (some (-1:Int)) else (if (0≤v38∧v38 < (List.length x0:Int)) then (if (((List.getD x0 (Int.toNat v38) ((0:Int),(0:Int))).2:Int) != (IntKind.i64.wrap (v37 + (1:Int)))) then (some (-1:Int)) else ((f87.l22 k x0) m22 ((IntKind.i64.wrap ((IntKind.i64.wrap (v37 + (1:Int))) + (1:Int))),(IntKind.i64.wrap (v38 + (1:Int)))))) else none)) else none) else (some v37)
def f87 (k:Nat) (x0:(List (Int × Int))) (x1:Int):Option Int:=f87.l22 k x0 k (x1,(0:Int))
theorem c87 (k:Nat) (x0:(List (Int × Int))) (x1:Int) (r:Int) (hF:f87 k x0 x1=some r):PCall Try.prog 87 [⟨sh10,x0⟩,⟨iS,x1⟩] [⟨iS,r⟩]:=by
 refine pcall_intro Try.func87 rfl rfl (Nat.le_of_ble_eq_true rfl) ?_
 intro w0 Zi a w h
 rw [f87] at hF
 refine zs [0,1] h an fun a w h => ?_
 refine wp_seq ?_
 refine zs [0,1,5] h an fun a w h => ?_
 refine wp_block ?_
 refine wp_loop_fuel (f87.l22 k x0) (fun ((v37,v38):(Int × Int)) => [(0,.val sh10 x0),(1,.val iS v37),(5,.val iS v38)]) (fun v h => by obtain ⟨v37,v38⟩:=v; rw [f87.l22] at h; cases h) ?_ hF (ar h [0,1,5])
 intro m22 v a w hF h
 obtain ⟨v37,v38⟩:=v
 rw [f87.l22] at hF
 refine wp_seq ?_
 refine zs [0,1,5,9] h an fun a w h => ?_
 refine zi h hF (fun hF => ?_) (fun hF => ?_)
 ·refine wp_skip ?_
  refine wp_seq <| wp_block ?_
  refine wp_seq ?_
  obtain ⟨hc42,hF⟩:=of_if hF
  refine zs [0,1,5,18] h (ac hc42 an) fun a w h => ?_
  refine zi h hF (fun hF => ?_) (fun hF => ?_)
  ·refine zs [4] h an fun a w h => ?_
   cases hF
   exact wp_ret (ret_okR tok h rfl (by kernel_rfl)).1
  ·refine wp_skip ?_
   refine zs [0,1,5] h an fun a w h => ?_
   refine wp_seq ?_
   obtain ⟨hc41,hF⟩:=of_if hF
   refine zs [0,1,5,27] h (ac hc41 an) fun a w h => ?_
   refine zi h hF (fun hF => ?_) (fun hF => ?_)
   ·refine zs [4] h an fun a w h => ?_
    cases hF
    exact wp_ret (ret_okR tok h rfl (by kernel_rfl)).1
   ·refine wp_skip ?_
    refine zt [0,1,5] h an fun a w h => ?_
    refine zt [0,1,5] h an fun a w h => ?_
    exact ⟨((w64 ((w64 (v37 + (1:Int))) + (1:Int))),(w64 (v38 + (1:Int)))),hF,ar h [0,1,5]⟩
 ·refine wp_exit ?_
  refine zs [4] h an fun a w h => ?_
  cases hF
  exact wp_ret (ret_okR tok h rfl (by kernel_rfl)).1
def f88.l46 (k:Nat) (x0:(List (ByteArray × ByteArray))):Nat → (Int × Int)→Option Int
 | 0,_ => none
 | m46+1,(v77,v78) => if (decide (v78 < (List.length x0:Int))) then (if (0≤v78∧v78 < (List.length x0:Int)) then ((f40 k v77).bind fun r85 => (if (!(ByteArray.toList (List.getD x0 (Int.toNat v78) ((⟨#[]⟩:ByteArray),(⟨#[]⟩:ByteArray))).1 == ByteArray.toList r85)) then (some (-1:Int)) else (if (0≤v78∧v78 < (List.length x0:Int)) then ((f40 k (IntKind.i64.wrap (v77 + (1:Int)))).bind fun r86 => (if (!(ByteArray.toList (List.getD x0 (Int.toNat v78) ((⟨#[]⟩:ByteArray),(⟨#[]⟩:ByteArray))).2 == ByteArray.toList r86)) then (some (-1:Int)) else ((f88.l46 k x0) m46 ((IntKind.i64.wrap ((IntKind.i64.wrap (v77 + (1:Int))) + (1:Int))),(IntKind.i64.wrap (v78 + (1:Int))))))) else none))) else none) else (some v77)
def f88 (k:Nat) (x0:(List (ByteArray × ByteArray))) (x1:Int):Option Int:=f88.l46 k x0 k (x1,(0:Int))
theorem c88 (k:Nat) (x0:(List (ByteArray × ByteArray))) (x1:Int) (r:Int) (hF:f88 k x0 x1=some r):PCall Try.prog 88 [⟨sh7,x0⟩,⟨iS,x1⟩] [⟨iS,r⟩]:=by
 refine pcall_intro Try.func88 rfl rfl (Nat.le_of_ble_eq_true rfl) ?_
 intro w0 Zi a w h
 rw [f88] at hF
 refine zs [0,1] h an fun a w h => ?_
 refine wp_seq ?_
 refine zs [0,1,5] h an fun a w h => ?_
 refine wp_block ?_
 refine wp_loop_fuel (f88.l46 k x0) (fun ((v77,v78):(Int × Int)) => [(0,.val sh7 x0),(1,.val iS v77),(5,.val iS v78)]) (fun v h => by obtain ⟨v77,v78⟩:=v; rw [f88.l46] at h; cases h) ?_ hF (ar h [0,1,5])
 intro m46 v a w hF h
 obtain ⟨v77,v78⟩:=v
 rw [f88.l46] at hF
 refine wp_seq ?_
 refine zs [0,1,5,9] h an fun a w h => ?_
 refine zi h hF (fun hF => ?_) (fun hF => ?_)
 ·refine wp_skip ?_
  refine wp_seq <| wp_block ?_
  refine wp_seq ?_
  obtain ⟨hc89,hF⟩:=of_if hF
  obtain ⟨r85,hr90,hF⟩:=of_bind hF
  refine wp_regy_seq tok (orc:=orcL [(18,[⟨.str,r85⟩])]) (l:=[0,1,5,19]) ([],[],[],[]) 8 nw h (by kernel_rfl) (by kernel_rfl) (ac hc89 (ac (c40 k v77 r85 hr90) an)) fun a w h => ?_
  refine zi h hF (fun hF => ?_) (fun hF => ?_)
  ·refine zs [4] h an fun a w h => ?_
   cases hF
   exact wp_ret (ret_okR tok h rfl (by kernel_rfl)).1
  ·refine wp_skip ?_
   refine zs [0,1,5] h an fun a w h => ?_
   refine wp_seq ?_
   obtain ⟨hc87,hF⟩:=of_if hF
   obtain ⟨r86,hr88,hF⟩:=of_bind hF
   refine wp_regy_seq tok (orc:=orcL [(28,[⟨.str,r86⟩])]) (l:=[0,1,5,29]) ([],[],[],[]) 8 nw h (by kernel_rfl) (by kernel_rfl) (ac hc87 (ac (c40 k (w64 (v77 + (1:Int))) r86 hr88) an)) fun a w h => ?_
   refine zi h hF (fun hF => ?_) (fun hF => ?_)
   ·refine zs [4] h an fun a w h => ?_
    cases hF
    exact wp_ret (ret_okR tok h rfl (by kernel_rfl)).1
   ·refine wp_skip ?_
    refine zt [0,1,5] h an fun a w h => ?_
    refine zt [0,1,5] h an fun a w h => ?_
    exact ⟨((w64 ((w64 (v77 + (1:Int))) + (1:Int))),(w64 (v78 + (1:Int)))),hF,ar h [0,1,5]⟩
 ·refine wp_exit ?_
  refine zs [4] h an fun a w h => ?_
  cases hF
  exact wp_ret (ret_okR tok h rfl (by kernel_rfl)).1
def f66.l52 (k:Nat) (x0:(List (Int × ((List (Int × Int)) × (List (ByteArray × ByteArray)))))):Nat → (Int × Int)→Option Int
 | 0,_ => none
 | m52+1,(v87,v88) => if (decide (v88 < (List.length x0:Int))) then (if (0≤v88∧v88 < (List.length x0:Int)) then (if (((List.getD x0 (Int.toNat v88) ((0:Int),(([]:(List (Int × Int))),([]:(List (ByteArray × ByteArray)))))).1:Int) != v87) then (some (-1:Int)) else (if (0≤v88∧v88 < (List.length x0:Int)) then ((f87 k (List.getD x0 (Int.toNat v88) ((0:Int),(([]:(List (Int × Int))),([]:(List (ByteArray × ByteArray)))))).2.1 (IntKind.i64.wrap (v87 + (1:Int)))).bind fun r96 => (if (decide (r96 < (0:Int))) then (some (-1:Int)) else (if (0≤v88∧v88 < (List.length x0:Int)) then ((f88 k (List.getD x0 (Int.toNat v88) ((0:Int),(([]:(List (Int × Int))),([]:(List (ByteArray × ByteArray)))))).2.2 r96).bind fun r97 => (if (decide (r97 < (0:Int))) then (some (-1:Int)) else ((f66.l52 k x0) m52 (r97,(IntKind.i64.wrap (v88 + (1:Int))))))) else none))) else none)) else none) else (some v87)
def f66 (k:Nat) (x0:(List (Int × ((List (Int × Int)) × (List (ByteArray × ByteArray)))))) (x1:Int):Option Int:=f66.l52 k x0 k (x1,(0:Int))
theorem c66 (k:Nat) (x0:(List (Int × ((List (Int × Int)) × (List (ByteArray × ByteArray)))))) (x1:Int) (r:Int) (hF:f66 k x0 x1=some r):PCall Try.prog 66 [⟨sh18,x0⟩,⟨iS,x1⟩] [⟨iS,r⟩]:=by
 refine pcall_intro Try.func66 rfl rfl (Nat.le_of_ble_eq_true rfl) ?_
 intro w0 Zi a w h
 rw [f66] at hF
 refine zs [0,1] h an fun a w h => ?_
 refine wp_seq ?_
 refine zs [0,1,5] h an fun a w h => ?_
 refine wp_block ?_
 refine wp_loop_fuel (f66.l52 k x0) (fun ((v87,v88):(Int × Int)) => [(0,.val sh18 x0),(1,.val iS v87),(5,.val iS v88)]) (fun v h => by obtain ⟨v87,v88⟩:=v; rw [f66.l52] at h; cases h) ?_ hF (ar h [0,1,5])
 intro m52 v a w hF h
 obtain ⟨v87,v88⟩:=v
 rw [f66.l52] at hF
 refine wp_seq ?_
 refine zs [0,1,5,9] h an fun a w h => ?_
 refine zi h hF (fun hF => ?_) (fun hF => ?_)
 ·refine wp_skip ?_
  refine wp_seq <| wp_block ?_
  refine wp_seq ?_
  obtain ⟨hc102,hF⟩:=of_if hF
  refine zs [0,1,5,18] h (ac hc102 an) fun a w h => ?_
  refine zi h hF (fun hF => ?_) (fun hF => ?_)
  ·refine zs [4] h an fun a w h => ?_
   cases hF
   exact wp_ret (ret_okR tok h rfl (by kernel_rfl)).1
  ·refine wp_skip ?_
   refine zs [0,1,5] h an fun a w h => ?_
   obtain ⟨hc100,hF⟩:=of_if hF
   obtain ⟨r96,hr101,hF⟩:=of_bind hF
   refine zc (orcL [(27,[⟨iS,r96⟩])]) [0,1,5] h (ac hc100 (ac (c87 k (gD x0 (tZ v88) (iO,(([]:(List (Int × Int))),([]:(List (ByteArray × ByteArray)))))).2.1 (w64 (v87 + (1:Int))) r96 hr101) an)) fun a w h => ?_
   refine wp_seq ?_
   refine zs [0,1,5,29] h an fun a w h => ?_
   refine zi h hF (fun hF => ?_) (fun hF => ?_)
   ·refine zs [4] h an fun a w h => ?_
    cases hF
    exact wp_ret (ret_okR tok h rfl (by kernel_rfl)).1
   ·refine wp_skip ?_
    obtain ⟨hc98,hF⟩:=of_if hF
    obtain ⟨r97,hr99,hF⟩:=of_bind hF
    refine zc (orcL [(36,[⟨iS,r97⟩])]) [0,1,5] h (ac hc98 (ac (c88 k (gD x0 (tZ v88) (iO,(([]:(List (Int × Int))),([]:(List (ByteArray × ByteArray)))))).2.2 r96 r97 hr99) an)) fun a w h => ?_
    refine zs [0,1,5,38] h an fun a w h => ?_
    refine zi h hF (fun hF => ?_) (fun hF => ?_)
    ·refine zs [4] h an fun a w h => ?_
     cases hF
     exact wp_ret (ret_okR tok h rfl (by kernel_rfl)).1
    ·refine wp_skip ?_
     refine zt [0,1,5] h an fun a w h => ?_
     exact ⟨(r97,(w64 (v88 + (1:Int)))),hF,ar h [0,1,5]⟩
 ·refine wp_exit ?_
  refine zs [4] h an fun a w h => ?_
  cases hF
  exact wp_ret (ret_okR tok h rfl (by kernel_rfl)).1
def f27 (k:Nat) (x0:((Int × (Int × Int)) × (List (Int × ((List (Int × Int)) × (List (ByteArray × ByteArray))))))) (x1:Int):Option Int:=(f66 k x0.2 x1).bind fun r1 => (if (decide (r1 < (0:Int))) then (some (-1:Int)) else (some r1))
theorem c27 (k:Nat) (x0:((Int × (Int × Int)) × (List (Int × ((List (Int × Int)) × (List (ByteArray × ByteArray))))))) (x1:Int) (r:Int) (hF:f27 k x0 x1=some r):PCall Try.prog 27 [⟨sh13,x0⟩,⟨iS,x1⟩] [⟨iS,r⟩]:=by
 refine pcall_intro Try.func27 rfl rfl (Nat.le_of_ble_eq_true rfl) ?_
 intro w0 Zi a w h
 rw [f27] at hF
 refine zs [1,2] h an fun a w h => ?_
 obtain ⟨r1,hr2,hF⟩:=of_bind hF
 refine zc (orcL [(8,[⟨iS,r1⟩])]) [1] h (ac (c66 k x0.2 x1 r1 hr2) an) fun a w h => ?_
 refine wp_seq ?_
 refine zs [1,10] h an fun a w h => ?_
 refine zi h hF (fun hF => ?_) (fun hF => ?_)
 ·refine zs [4] h an fun a w h => ?_
  cases hF
  exact wp_ret (ret_okR tok h rfl (by kernel_rfl)).1
 ·refine wp_skip ?_
  refine zs [4] h an fun a w h => ?_
  cases hF
  exact wp_ret (ret_okR tok h rfl (by kernel_rfl)).1
def f5 (k:Nat) (x0:(List Int)):Option Bool:=if (decide (((List.length x0:Int):Int) > (1048576:Int))) then (some true) else ((f25 k x0).bind fun r1 => ((f24 k r1).bind fun r2 => ((f25 k x0).bind fun r3 => ((f26 k r3).bind fun r4 => ((f20 k r4.1 r2.1).bind fun r5 => (if (bif (!r5) then true else (!((r4.2:Bool) == r2.2))) then (some false) else ((f25 k x0).bind fun r6 => ((f19 k r3 r6).bind fun r7 => (if (!r7) then (some false) else ((f22 k r3 (1:Int)).bind fun r8 => ((if ((decide (r8.1 < (0:Int)))=false) then f20 k r4.1 r2.1 else some default).bind fun r9 => (if (bif (bif (decide (r8.1 < (0:Int))) then true else (!r9)) then true else (!((r4.2:Bool) == r2.2))) then (some false) else ((f21 k r4.1 (1:Int)).bind fun r10 => ((f27 k r10.2 (1:Int)).bind fun r11 => (if (decide (r11 < (0:Int))) then (some false) else (if (r11 != r10.1) then (some false) else ((f25 k x0).bind fun r12 => ((f26 k r12).bind fun r13 => ((f20 k r13.1 r2.1).bind fun r14 => (if (bif (!r14) then true else (!((r13.2:Bool) == r2.2))) then (some false) else ((f27 k r10.2 (1:Int)).bind fun r15 => (if (decide (r15 < (0:Int))) then (some false) else (if (r15 != r10.1) then (some false) else (some true))))))))))))))))))))))))
theorem c5 (k:Nat) (x0:(List Int)) (r:Bool) (hF:f5 k x0=some r):PCall Try.prog 5 [⟨(.sl false 5 (.int .u8)),x0⟩] [⟨.bool,r⟩]:=by
 refine pcall_intro Try.func5 rfl rfl (Nat.le_of_ble_eq_true rfl) ?_
 intro w0 Zi a w h
 rw [f5] at hF
 refine zs [0] h an fun a w h => ?_
 refine wp_seq ?_
 refine zs [0,15] h an fun a w h => ?_
 refine zi h hF (fun hF => ?_) (fun hF => ?_)
 ·refine zs [2] h an fun a w h => ?_
  cases hF
  exact wp_ret (ret_okR tok h rfl (by kernel_rfl)).1
 ·refine wp_skip ?_
  obtain ⟨r1,hr29,hF⟩:=of_bind hF
  obtain ⟨r2,hr30,hF⟩:=of_bind hF
  refine zc (orcL [(18,[⟨(.sl true 5 (.int .u8)),r1⟩]),(19,[⟨sh14,r2.1⟩,⟨.bool,r2.2⟩]),(16,[⟨.pt false 4294967292 .unit,some ()⟩])]) [0,3,4] h (ac (c25 k x0 r1 hr29) (ac (c24 k r1 r2 hr30) an)) fun a w h => ?_
  obtain ⟨r3,hr28,hF⟩:=of_bind hF
  refine zc (orcL [(23,[⟨(.sl true 5 (.int .u8)),r3⟩])]) [0,3,4,5] h (ac (c25 k x0 r3 hr28) an) fun a w h => ?_
  obtain ⟨r4,hr27,hF⟩:=of_bind hF
  refine zc (orcL [(26,[⟨sh14,r4.1⟩,⟨.bool,r4.2⟩]),(24,[⟨.pt false 4294967292 .unit,some ()⟩])]) [0,3,4,5,6,7] h (ac (c26 k r3 r4 hr27) an) fun a w h => ?_
  refine wp_seq ?_
  obtain ⟨r5,hr26,hF⟩:=of_bind hF
  refine zc (orcL [(31,[⟨.bool,r5⟩])]) [0,3,4,5,6,7,37] h (ac (c20 k r4.1 r2.1 r5 hr26) an) fun a w h => ?_
  refine zi h hF (fun hF => ?_) (fun hF => ?_)
  ·refine zs [2] h an fun a w h => ?_
   cases hF
   exact wp_ret (ret_okR tok h rfl (by kernel_rfl)).1
  ·refine wp_skip ?_
   refine wp_seq ?_
   obtain ⟨r6,hr24,hF⟩:=of_bind hF
   obtain ⟨r7,hr25,hF⟩:=of_bind hF
   refine zc (orcL [(40,[⟨(.sl true 5 (.int .u8)),r6⟩]),(41,[⟨.bool,r7⟩])]) [0,3,4,5,6,7,42] h (ac (c25 k x0 r6 hr24) (ac (c19 k r3 r6 r7 hr25) an)) fun a w h => ?_
   refine zi h hF (fun hF => ?_) (fun hF => ?_)
   ·refine zs [2] h an fun a w h => ?_
    cases hF
    exact wp_ret (ret_okR tok h rfl (by kernel_rfl)).1
   ·refine wp_skip ?_
    refine zs [0,3,4,5,6,7,8] h an fun a w h => ?_
    obtain ⟨r8,hr23,hF⟩:=of_bind hF
    refine zc (orcL [(45,[⟨.pt false 4294967295 (.sl true 5 (.int .u8)),some r8.2⟩,⟨iS,r8.1⟩])]) [0,3,4,6,7,8] h (ac (c22 k r3 (1:Int) r8 hr23) an) fun a w h => ?_
    refine wp_seq ?_
    obtain ⟨r9,hr22,hF⟩:=of_bind hF
    refine zc (orcL [(51,[⟨.bool,r9⟩])]) [0,3,4,6,58] h (ac (fun (hg:((decide (r8.1 < iO))=false)) => c20 k r4.1 r2.1 r9 (of_g hg hr22)) an) fun a w h => ?_
    refine zi h hF (fun hF => ?_) (fun hF => ?_)
    ·refine zs [2] h an fun a w h => ?_
     cases hF
     exact wp_ret (ret_okR tok h rfl (by kernel_rfl)).1
    ·refine wp_skip ?_
     refine zs [0,3,4,6,9] h an fun a w h => ?_
     obtain ⟨r10,hr21,hF⟩:=of_bind hF
     refine zc (orcL [(61,[⟨.pt false 4294967295 (.st (.pair (.st (.pair iS (.pair iS iS))) (.sl true 80 (.st (.pair iS (.pair (.sl true 66 (.st (.pair iS iS))) (.sl true 128 (.st (.pair .str .str))))))))),some r10.2⟩,⟨iS,r10.1⟩])]) [0,3,4,6,9] h (ac (c21 k r4.1 (1:Int) r10 hr21) an) fun a w h => ?_
     refine zs [0,3,4,6,9,10] h an fun a w h => ?_
     obtain ⟨r11,hr20,hF⟩:=of_bind hF
     refine zc (orcL [(64,[⟨iS,r11⟩])]) [0,3,4,6,9,10] h (ac (c27 k r10.2 (1:Int) r11 hr20) an) fun a w h => ?_
     refine wp_seq ?_
     refine zs [0,3,4,6,9,10,66] h an fun a w h => ?_
     refine zi h hF (fun hF => ?_) (fun hF => ?_)
     ·refine zs [2] h an fun a w h => ?_
      cases hF
      exact wp_ret (ret_okR tok h rfl (by kernel_rfl)).1
     ·refine wp_skip ?_
      refine wp_seq ?_
      refine zs [0,3,4,6,9,69] h an fun a w h => ?_
      refine zi h hF (fun hF => ?_) (fun hF => ?_)
      ·refine zs [2] h an fun a w h => ?_
       cases hF
       exact wp_ret (ret_okR tok h rfl (by kernel_rfl)).1
      ·refine wp_skip ?_
       obtain ⟨r12,hr18,hF⟩:=of_bind hF
       obtain ⟨r13,hr19,hF⟩:=of_bind hF
       refine zc (orcL [(72,[⟨(.sl true 5 (.int .u8)),r12⟩]),(73,[⟨sh14,r13.1⟩,⟨.bool,r13.2⟩]),(70,[⟨.pt false 4294967292 .unit,some ()⟩])]) [3,4,6,9,11,12] h (ac (c25 k x0 r12 hr18) (ac (c26 k r12 r13 hr19) an)) fun a w h => ?_
       refine wp_seq ?_
       obtain ⟨r14,hr17,hF⟩:=of_bind hF
       refine zc (orcL [(78,[⟨.bool,r14⟩])]) [6,9,84] h (ac (c20 k r13.1 r2.1 r14 hr17) an) fun a w h => ?_
       refine zi h hF (fun hF => ?_) (fun hF => ?_)
       ·refine zs [2] h an fun a w h => ?_
        cases hF
        exact wp_ret (ret_okR tok h rfl (by kernel_rfl)).1
       ·refine wp_skip ?_
        refine zs [6,9,10] h an fun a w h => ?_
        obtain ⟨r15,hr16,hF⟩:=of_bind hF
        refine zc (orcL [(87,[⟨iS,r15⟩])]) [9,10] h (ac (c27 k r10.2 (1:Int) r15 hr16) an) fun a w h => ?_
        refine wp_seq ?_
        refine zs [9,10,89] h an fun a w h => ?_
        refine zi h hF (fun hF => ?_) (fun hF => ?_)
        ·refine zs [2] h an fun a w h => ?_
         cases hF
         exact wp_ret (ret_okR tok h rfl (by kernel_rfl)).1
        ·refine wp_skip ?_
         refine wp_seq ?_
         refine zs [92] h an fun a w h => ?_
         refine zi h hF (fun hF => ?_) (fun hF => ?_)
         ·refine zs [2] h an fun a w h => ?_
          cases hF
          exact wp_ret (ret_okR tok h rfl (by kernel_rfl)).1
         ·refine wp_skip ?_
          refine zs [2] h an fun a w h => ?_
          cases hF
          exact wp_ret (ret_okR tok h rfl (by kernel_rfl)).1
end Go.Proofs.Ytgfekidehbancaa.V
