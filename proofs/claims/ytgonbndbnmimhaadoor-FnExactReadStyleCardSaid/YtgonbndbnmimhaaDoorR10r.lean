/-
  THE CONTRACTS OF SOME FUNCTIONS OF THIS SEAT, PRINTED BY A PROGRAM OF THIS PROJECT (wip/gen/vgen.py).
-/
import Derived.Test.YtgonbndbnmimhaaDoorProg
import Derived.Test.YtgonbndbnmimhaaDoorVmW
import Derived.Test.YtgonbndbnmimhaaDoorVmAn
import Derived.KernelRfl
import Derived.Test.YtgonbndbnmimhaaDoorVmHo
import Derived.Test.YtgonbndbnmimhaaDoorStyL
set_option linter.unusedVariables false
open Go Go.Vm Go.Proofs
namespace Go.Proofs.YtgonbndbnmimhaaDoor.V
set_option maxRecDepth 100000
abbrev zR:Int × (Int × (Int × (Int × (Int × ByteArray)))):=((0:Int),((0:Int),((0:Int),((0:Int),((0:Int),(⟨#[]⟩:ByteArray))))))
abbrev tG:=((List (Int × (Int × Int))) × ((List (Int × (Int × (Int × (Int × (Int × ByteArray)))))) × (List (Int × Int))))
abbrev tN:=(((List (Int × (Int × Int))) × ((List (Int × (Int × (Int × (Int × (Int × ByteArray)))))) × (List (Int × Int)))) × ((List (List Int)) × ((List (List Int)) × (Option (List ((Int × Int) × Bool))))))
abbrev gD {α:Type} (l:List α) (i:Nat) (d:α):α:=List.getD l i d
abbrev tZ (n:Int):Nat:=Int.toNat n
abbrev iO:Int:=0
abbrev lO:List Int:=[]
theorem nw {p:Prop}:([]:List Nat)=[]∨p:=.inl rfl
abbrev o0:=orcL []
theorem ac {p:Prop} {l:List Prop} (h:p) (t:AllP l):AllP (p :: l):=AllP.cons h t
theorem an:AllP []:=AllP.nil
abbrev sh0:Sh:=(.pt true 53 (.st (.pair .str (.pair (.int .i64) .str))))
abbrev sh1:Sh:=(.st (.pair .str (.pair (.int .i64) .str)))
abbrev sh2:Sh:=(.pt true 37 (.st (.pair (.int .i64) (.pair (.int .i64) (.pair (.sl true 53 (.st (.pair .str (.pair (.int .i64) .str)))) (.pair .bool (.pair .str (.pair (.int .i64) (.int .i64)))))))))
abbrev sh3:Sh:=(.st (.pair (.int .i64) (.pair (.int .i64) (.pair (.sl true 53 (.st (.pair .str (.pair (.int .i64) .str)))) (.pair .bool (.pair .str (.pair (.int .i64) (.int .i64))))))))
abbrev sh4:Sh:=(.st (.pair (.int .i64) (.pair (.int .i64) (.pair (.sl false 53 (.st (.pair .str (.pair (.int .i64) .str)))) (.pair .bool (.pair .str (.pair (.int .i64) (.int .i64))))))))
abbrev sh5:Sh:=(.sl true 37 (.st (.pair (.int .i64) (.pair (.int .i64) (.pair (.sl false 53 (.st (.pair .str (.pair (.int .i64) .str)))) (.pair .bool (.pair .str (.pair (.int .i64) (.int .i64)))))))))
abbrev sh6:Sh:=(.sl true 37 (.st (.pair (.int .i64) (.pair (.int .i64) (.pair (.sl true 53 (.st (.pair .str (.pair (.int .i64) .str)))) (.pair .bool (.pair .str (.pair (.int .i64) (.int .i64)))))))))
abbrev sh7:Sh:=(.sl false 53 (.st (.pair .str (.pair (.int .i64) .str))))
abbrev sh8:Sh:=(.sl false 37 (.st (.pair (.int .i64) (.pair (.int .i64) (.pair (.sl false 53 (.st (.pair .str (.pair (.int .i64) .str)))) (.pair .bool (.pair .str (.pair (.int .i64) (.int .i64)))))))))
abbrev sh9:Sh:=(.sl true 53 (.st (.pair .str (.pair (.int .i64) .str))))
def tbl:Tbl:=[⟨2,.int .i64,1,8,(.int .i64)⟩,
 ⟨3,.int .i64,1,8,(.int .i64)⟩,
 ⟨4,.bool,1,1,.bool⟩,
 ⟨5,.int .u8,1,1,(.int .u8)⟩,
 ⟨9,.string,1,16,.str⟩,
 ⟨22,.slice 37,1,24,(.sl true 37 (.st (.pair (.int .i64) (.pair (.int .i64) (.pair (.sl true 53 (.st (.pair .str (.pair (.int .i64) .str)))) (.pair .bool (.pair .str (.pair (.int .i64) (.int .i64)))))))))⟩,
 ⟨33,.slice 9,1,24,(.sl true 9 .str)⟩,
 ⟨35,.slice 53,1,24,(.sl true 53 (.st (.pair .str (.pair (.int .i64) .str))))⟩,
 ⟨37,.struct [(2,0),(2,1),(35,2),(4,3),(9,4),(2,5),(2,6)],7,80,(.st (.pair (.int .i64) (.pair (.int .i64) (.pair (.sl true 53 (.st (.pair .str (.pair (.int .i64) .str)))) (.pair .bool (.pair .str (.pair (.int .i64) (.int .i64))))))))⟩,
 ⟨48,.slice 5,1,24,(.sl true 5 (.int .u8))⟩,
 ⟨53,.struct [(9,0),(2,1),(9,2)],3,40,(.st (.pair .str (.pair (.int .i64) .str)))⟩]
theorem tok:TOk Tryd.prog tbl:=by unfold TOk; kernel_rfl
abbrev iS:Sh:=.int .i64
section
variable {w0:World} {Wr Zi:Fp} {N:Fr} {S S':SS} {a:Act} {w:World} {Q:Exit→Act→World→Prop} {id:Nat} {ops:Array Oper} {rest:Code} {c:List Prop}
theorem zc (orc:Nat→List TV) (l:List Nat) (h:Rel w0 Wr Zi N S a w) (hc:AllP c) (hr:∀ a w,Rel w0 Wr Zi N (regS tbl Tryd.prog N orc [] ops l S) a w→rest.wp Tryd.prog Q a w) (e:regC tbl Tryd.prog N orc [] ops l S=c:=by kernel_rfl):((Code.region id ops false).seq rest).wp Tryd.prog Q a w:=wp_reg_seq tok nw h e hc hr
theorem zd (orc:Nat→List TV) (l:List Nat) (h:Rel w0 Wr Zi N S a w) (hc:AllP c) (hr:∀ a w,Rel w0 Wr Zi N (regS tbl Tryd.prog N orc [] ops l S) a w→Q .normal a w) (e:regC tbl Tryd.prog N orc [] ops l S=c:=by kernel_rfl):(Code.region id ops false).wp Tryd.prog Q a w:=wp_reg tok nw h e hc hr
theorem zs (l:List Nat) (h:Rel w0 Wr Zi N S a w) (hc:AllP c) (hr:∀ a w,Rel w0 Wr Zi N (regS tbl Tryd.prog N o0 [] ops l S) a w→rest.wp Tryd.prog Q a w) (e:regC tbl Tryd.prog N o0 [] ops l S=c:=by kernel_rfl):((Code.region id ops false).seq rest).wp Tryd.prog Q a w:=wp_reg_seq tok nw h e hc hr
theorem zt (l:List Nat) (h:Rel w0 Wr Zi N S a w) (hc:AllP c) (hr:∀ a w,Rel w0 Wr Zi N (regS tbl Tryd.prog N o0 [] ops l S) a w→Q .normal a w) (e:regC tbl Tryd.prog N o0 [] ops l S=c:=by kernel_rfl):(Code.region id ops false).wp Tryd.prog Q a w:=wp_reg tok nw h e hc hr
theorem ar (h:Rel w0 Wr Zi N S a w) (l:List Nat) (e:arr [] l S=some S':=by kernel_rfl):Rel w0 Wr Zi N S' a w:=h.arrive nw e
theorem zi {α:Type} {t:Nat} {x y:Code} {b:Bool} {X Y:α} {r:α} (h:Rel w0 Wr Zi N S a w) (hF:(if b=true then X else Y)=r) (h1:X=r→x.wp Tryd.prog Q a w) (h2:Y=r→y.wp Tryd.prog Q a w) (hb:boolAt S t=some b:=by kernel_rfl):(Code.cond (.tmp t) x y).wp Tryd.prog Q a w:=wp_if h hb (fun hb => h1 (of_t hb hF)) (fun hb => h2 (of_f hb hF))
end
def f14.j42 (k:Nat):(List ByteArray)→Option (List ByteArray)
 | v41 => some v41
def f14.j79 (k:Nat) (v73:Int) (q43:((List ByteArray) × Int × Int)→Option (List ByteArray)):((List ByteArray) × Int)→Option (List ByteArray)
 | (v77,v78) => q43 (v77,v78,(IntKind.i64.wrap (v73 + (1:Int))))
def f14.l43 (k:Nat) (x0:ByteArray) (q42:(List ByteArray)→Option (List ByteArray)):Nat → ((List ByteArray) × Int × Int)→Option (List ByteArray)
 | 0,_ => none
 | m43+1,(v71,v72,v73) => if (decide (v73 ≤ (ByteArray.size x0:Int))) then (if (bif (v73 == (ByteArray.size x0:Int)) then (v72 == v73) else false) then (q42 v71) else (if (((v73 == (ByteArray.size x0:Int))=false) → ((0:Int)≤v73∧v73 < (ByteArray.size x0:Int))) then (if (bif (v73 == (ByteArray.size x0:Int)) then true else (((byteAt x0 v73):Int) == (10:Int))) then (if (((0:Int)≤v72) ∧ ((0:Int)≤v73) ∧ (Int.toNat v72) ≤ (Int.toNat v73) ∧ (Int.toNat v73) ≤ (ByteArray.size x0)) then (if ((List.length v71+List.length [(ByteArray.extract x0 (Int.toNat v72) (Int.toNat v73))])*16≤140737488355328) then (f14.j79 k v73 ((f14.l43 k x0 q42) m43) ((v71 ++ [(ByteArray.extract x0 (Int.toNat v72) (Int.toNat v73))]),(IntKind.i64.wrap (v73 + (1:Int))))) else none) else none) else (f14.j79 k v73 ((f14.l43 k x0 q42) m43) (v71,v72))) else none)) else (q42 v71)
def f14 (k:Nat) (x0:ByteArray):Option (List ByteArray):=f14.l43 k x0 (f14.j42 k) k (([]:List ByteArray),(0:Int),(0:Int))
theorem c14 (k:Nat) (x0:ByteArray) (r:(List ByteArray)) (hF:f14 k x0=some r):PCall Tryd.prog 14 [⟨.str,x0⟩] [⟨(.sl true 9 .str),r⟩]:=by
 refine pcall_intro Tryd.func14 rfl rfl (Nat.le_of_ble_eq_true rfl) ?_
 intro w0 Zi a w h
 rw [f14] at hF
 refine zs [0] h an fun a w h => ?_
 refine zs [0,3] h an fun a w h => ?_
 refine zs [0,3,4] h an fun a w h => ?_
 refine wp_seq ?_
 refine zs [0,3,4,5] h an fun a w h => ?_
 refine wp_midT (fun a w => ∃ v:(List ByteArray),f14.j42 k v=some r∧Rel w0 (fun _ => False) Zi Tryd.f14.ntmps ((fun (v41:(List ByteArray)) => ([(3,.val (.sl true 9 .str) v41)]:SS)) v) a w) ?_ ?_
 ·
  refine wp_block ?_
  refine wp_loop_fuel (f14.l43 k x0 (f14.j42 k)) (fun ((v71,v72,v73):((List ByteArray) × Int × Int)) => [(0,.val .str x0),(3,.val (.sl true 9 .str) v71),(4,.val iS v72),(5,.val iS v73)]) (fun v h => by obtain ⟨v71,v72,v73⟩:=v; rw [f14.l43] at h; cases h) ?_ hF (ar h [0,3,4,5])
  intro m43 v a w hF h
  obtain ⟨v71,v72,v73⟩:=v
  rw [f14.l43] at hF
  refine wp_seq ?_
  refine zs [0,3,4,5,10] h an fun a w h => ?_
  refine zi h hF (fun hF => ?_) (fun hF => ?_)
  ·refine wp_skip ?_
   refine wp_mid (fun a w => ∃ v:((List ByteArray) × Int),f14.j79 k v73 ((f14.l43 k x0 (f14.j42 k)) m43) v=some r∧Rel w0 (fun _ => False) Zi Tryd.f14.ntmps ((fun ((v77,v78):((List ByteArray) × Int)) => ([(0,.val .str x0),(3,.val (.sl true 9 .str) v77),(4,.val iS v78),(5,.val iS v73)]:SS)) v) a w) ?_ ?_
   ·
    refine wp_block ?_
    refine wp_seq ?_
    refine zs [0,3,4,5,21] h an fun a w h => ?_
    refine zi h hF (fun hF => ?_) (fun hF => ?_)
    ·refine wp_exit ?_
     exact ⟨v71,hF,ar h [3]⟩
    ·refine wp_skip ?_
     obtain ⟨hc82,hF⟩:=of_if hF
     refine zs [0,3,4,5,31] h (ac hc82 an) fun a w h => ?_
     refine zi h hF (fun hF => ?_) (fun hF => ?_)
     ·obtain ⟨hc80,hF⟩:=of_if hF
      obtain ⟨hc81,hF⟩:=of_if hF
      refine zs [0,3,5] h (ac hc80 (ac hc81 an)) fun a w h => ?_
      refine zt [0,3,4,5] h an fun a w h => ?_
      exact ⟨((v71 ++ [(ByteArray.extract x0 (tZ v72) (tZ v73))]),(w64 (v73 + (1:Int)))),hF,ar h [0,3,4,5]⟩
     ·refine wp_skip ?_
      exact ⟨(v71,v72),hF,ar h [0,3,4,5]⟩
   ·rintro a w ⟨v,hF,h⟩
    obtain ⟨v77,v78⟩:=v
    rw [f14.j79] at hF
    refine zt [0,3,4,5] h an fun a w h => ?_
    exact ⟨(v77,v78,(w64 (v73 + (1:Int)))),hF,ar h [0,3,4,5]⟩
  ·refine wp_exit ?_
   exact ⟨v71,hF,ar h [3]⟩
 ·rintro a w ⟨v41,hF,h⟩
  rw [f14.j42] at hF
  refine zs [2,3] h an fun a w h => ?_
  cases hF
  exact wp_ret (ret_okR tok h rfl (by kernel_rfl)).1
def f33.j88 (k:Nat) (v81:Int) (q47:((List ByteArray) × ByteArray × Int)→Option (List ByteArray)):((List ByteArray) × ByteArray)→Option (List ByteArray)
 | (v86,v87) => q47 (v86,v87,(IntKind.i64.wrap (v81 + (1:Int))))
def f33.l47 (k:Nat) (x0:ByteArray):Nat → ((List ByteArray) × ByteArray × Int)→Option (List ByteArray)
 | 0,_ => none
 | m47+1,(v79,v80,v81) => if (decide (v81 ≤ (ByteArray.size x0:Int))) then (if (((decide (v81 < (ByteArray.size x0:Int)))=true) → ((0:Int)≤v81∧v81 < (ByteArray.size x0:Int))) then (if (bif (decide (v81 < (ByteArray.size x0:Int))) then (((byteAt x0 v81):Int) != (32:Int)) else false) then (if (((0:Int)≤v81) ∧ ((0:Int) ≤ (IntKind.i64.wrap (v81 + (1:Int)))) ∧ (Int.toNat v81) ≤ (Int.toNat (IntKind.i64.wrap (v81 + (1:Int)))) ∧ (Int.toNat (IntKind.i64.wrap (v81 + (1:Int)))) ≤ (ByteArray.size x0)) then (if (ByteArray.size v80+ByteArray.size (ByteArray.extract x0 (Int.toNat v81) (Int.toNat (IntKind.i64.wrap (v81 + (1:Int)))))≤9223372036854775807) then (f33.j88 k v81 ((f33.l47 k x0) m47) (v79,(v80 ++ (ByteArray.extract x0 (Int.toNat v81) (Int.toNat (IntKind.i64.wrap (v81 + (1:Int)))))))) else none) else none) else (if (!(ByteArray.toList v80 == ByteArray.toList (⟨#[]⟩:ByteArray))) then (if ((List.length v79+List.length [v80])*16≤140737488355328) then (f33.j88 k v81 ((f33.l47 k x0) m47) ((v79 ++ [v80]),(⟨#[]⟩:ByteArray))) else none) else (f33.j88 k v81 ((f33.l47 k x0) m47) (v79,v80)))) else none) else (some v79)
def f33 (k:Nat) (x0:ByteArray):Option (List ByteArray):=f33.l47 k x0 k (([]:List ByteArray),(⟨#[]⟩:ByteArray),(0:Int))
theorem c33 (k:Nat) (x0:ByteArray) (r:(List ByteArray)) (hF:f33 k x0=some r):PCall Tryd.prog 33 [⟨.str,x0⟩] [⟨(.sl true 9 .str),r⟩]:=by
 refine pcall_intro Tryd.func33 rfl rfl (Nat.le_of_ble_eq_true rfl) ?_
 intro w0 Zi a w h
 rw [f33] at hF
 refine zs [0] h an fun a w h => ?_
 refine zs [0,3] h an fun a w h => ?_
 refine zs [0,3,4] h an fun a w h => ?_
 refine wp_seq ?_
 refine zs [0,3,4,5] h an fun a w h => ?_
 refine wp_block ?_
 refine wp_loop_fuel (f33.l47 k x0) (fun ((v79,v80,v81):((List ByteArray) × ByteArray × Int)) => [(0,.val .str x0),(3,.val (.sl true 9 .str) v79),(4,.val .str v80),(5,.val iS v81)]) (fun v h => by obtain ⟨v79,v80,v81⟩:=v; rw [f33.l47] at h; cases h) ?_ hF (ar h [0,3,4,5])
 intro m47 v a w hF h
 obtain ⟨v79,v80,v81⟩:=v
 rw [f33.l47] at hF
 refine wp_seq ?_
 refine zs [0,3,4,5,10] h an fun a w h => ?_
 refine zi h hF (fun hF => ?_) (fun hF => ?_)
 ·refine wp_skip ?_
  refine wp_mid (fun a w => ∃ v:((List ByteArray) × ByteArray),f33.j88 k v81 ((f33.l47 k x0) m47) v=some r∧Rel w0 (fun _ => False) Zi Tryd.f33.ntmps ((fun ((v86,v87):((List ByteArray) × ByteArray)) => ([(0,.val .str x0),(3,.val (.sl true 9 .str) v86),(4,.val .str v87),(5,.val iS v81)]:SS)) v) a w) ?_ ?_
  ·
   refine wp_block ?_
   obtain ⟨hc92,hF⟩:=of_if hF
   refine zs [0,3,4,5,22] h (ac hc92 an) fun a w h => ?_
   refine zi h hF (fun hF => ?_) (fun hF => ?_)
   ·obtain ⟨hc89,hF⟩:=of_if hF
    obtain ⟨hc90,hF⟩:=of_if hF
    refine zt [0,3,4,5] h (ac hc89 (ac hc90 an)) fun a w h => ?_
    exact ⟨(v79,(v80 ++ (ByteArray.extract x0 (tZ v81) (tZ (w64 (v81 + (1:Int))))))),hF,ar h [0,3,4,5]⟩
   ·refine zs [0,3,4,5,31] h an fun a w h => ?_
    refine zi h hF (fun hF => ?_) (fun hF => ?_)
    ·obtain ⟨hc91,hF⟩:=of_if hF
     refine zs [0,3,5] h (ac hc91 an) fun a w h => ?_
     refine zt [0,3,4,5] h an fun a w h => ?_
     exact ⟨((v79 ++ [v80]),(⟨#[]⟩:ByteArray)),hF,ar h [0,3,4,5]⟩
    ·refine wp_skip ?_
     exact ⟨(v79,v80),hF,ar h [0,3,4,5]⟩
  ·rintro a w ⟨v,hF,h⟩
   obtain ⟨v86,v87⟩:=v
   rw [f33.j88] at hF
   refine zt [0,3,4,5] h an fun a w h => ?_
   exact ⟨(v86,v87,(w64 (v81 + (1:Int)))),hF,ar h [0,3,4,5]⟩
 ·refine wp_exit ?_
  refine zs [2,3] h an fun a w h => ?_
  cases hF
  exact wp_ret (ret_okR tok h rfl (by kernel_rfl)).1
def f37.l28 (k:Nat) (x0:ByteArray) (x1:Int):Nat → (Int × Int)→Option Int
 | 0,_ => none
 | m28+1,(v47,v48) => if (decide (v48 < (ByteArray.size x0:Int))) then (if ((0:Int)≤v48∧v48 < (ByteArray.size x0:Int)) then (if (((decide (((byteAt x0 v48):Int) < (48:Int)))=false) → ((0:Int)≤v48∧v48 < (ByteArray.size x0:Int))) then (if (bif (decide (((byteAt x0 v48):Int) < (48:Int))) then true else (decide (((byteAt x0 v48):Int) > (57:Int)))) then (some (-1:Int)) else (if ((0:Int)≤v48∧v48 < (ByteArray.size x0:Int)) then ((f37.l28 k x0 x1) m28 ((IntKind.i64.wrap ((IntKind.i64.wrap (v47 * (10:Int))) + (IntKind.i64.wrap (IntKind.u8.wrap ((byteAt x0 v48) - (48:Int)))))),(IntKind.i64.wrap (v48 + (1:Int))))) else none)) else none) else none) else (if (decide (v47 > x1)) then (some (-1:Int)) else (some v47))
def f37 (k:Nat) (x0:ByteArray) (x1:Int):Option Int:=if (bif (((ByteArray.size x0:Int):Int) == (0:Int)) then true else (decide (((ByteArray.size x0:Int):Int) > (10:Int)))) then (some (-1:Int)) else (f37.l28 k x0 x1 k ((0:Int),(0:Int)))
theorem c37 (k:Nat) (x0:ByteArray) (x1:Int) (r:Int) (hF:f37 k x0 x1=some r):PCall Tryd.prog 37 [⟨.str,x0⟩,⟨iS,x1⟩] [⟨iS,r⟩]:=by
 refine pcall_intro Tryd.func37 rfl rfl (Nat.le_of_ble_eq_true rfl) ?_
 intro w0 Zi a w h
 rw [f37] at hF
 refine zs [0,1] h an fun a w h => ?_
 refine zs [0,1,5] h an fun a w h => ?_
 refine wp_seq ?_
 refine zs [0,1,5,14] h an fun a w h => ?_
 refine zi h hF (fun hF => ?_) (fun hF => ?_)
 ·refine zs [4] h an fun a w h => ?_
  cases hF
  exact wp_ret (ret_okR tok h rfl (by kernel_rfl)).1
 ·refine wp_skip ?_
  refine wp_seq ?_
  refine zs [0,1,5,6] h an fun a w h => ?_
  refine wp_block ?_
  refine wp_loop_fuel (f37.l28 k x0 x1) (fun ((v47,v48):(Int × Int)) => [(0,.val .str x0),(1,.val iS x1),(5,.val iS v47),(6,.val iS v48)]) (fun v h => by obtain ⟨v47,v48⟩:=v; rw [f37.l28] at h; cases h) ?_ hF (ar h [0,1,5,6])
  intro m28 v a w hF h
  obtain ⟨v47,v48⟩:=v
  rw [f37.l28] at hF
  refine wp_seq ?_
  refine zs [0,1,5,6,18] h an fun a w h => ?_
  refine zi h hF (fun hF => ?_) (fun hF => ?_)
  ·refine wp_skip ?_
   refine wp_seq <| wp_block ?_
   refine wp_seq ?_
   obtain ⟨hc53,hF⟩:=of_if hF
   obtain ⟨hc54,hF⟩:=of_if hF
   refine zs [0,1,5,6,30] h (ac hc53 (ac hc54 an)) fun a w h => ?_
   refine zi h hF (fun hF => ?_) (fun hF => ?_)
   ·refine zs [4] h an fun a w h => ?_
    cases hF
    exact wp_ret (ret_okR tok h rfl (by kernel_rfl)).1
   ·refine wp_skip ?_
    obtain ⟨hc52,hF⟩:=of_if hF
    refine zt [0,1,5,6] h (ac hc52 an) fun a w h => ?_
    refine zt [0,1,5,6] h an fun a w h => ?_
    exact ⟨((w64 ((w64 (v47 * (10:Int))) + (w64 (IntKind.u8.wrap ((byteAt x0 v48) - (48:Int)))))),(w64 (v48 + (1:Int)))),hF,ar h [0,1,5,6]⟩
  ·refine wp_exit ?_
   refine wp_seq ?_
   refine zs [5,41] h an fun a w h => ?_
   refine zi h hF (fun hF => ?_) (fun hF => ?_)
   ·refine zs [4] h an fun a w h => ?_
    cases hF
    exact wp_ret (ret_okR tok h rfl (by kernel_rfl)).1
   ·refine wp_skip ?_
    refine zs [4] h an fun a w h => ?_
    cases hF
    exact wp_ret (ret_okR tok h rfl (by kernel_rfl)).1
def f34.l48 (k:Nat) (x0:ByteArray):Nat→Int→Option (Int × Int × Bool)
 | 0,_ => none
 | m48+1,v80 => if (decide (v80 < (ByteArray.size x0:Int))) then (if ((0:Int)≤v80∧v80 < (ByteArray.size x0:Int)) then (if (((byteAt x0 v80):Int) == (45:Int)) then (if (True ∧ ((0:Int)≤v80)∧0 ≤ (Int.toNat v80) ∧ (Int.toNat v80) ≤ (ByteArray.size x0)) then ((f37 k (ByteArray.extract x0 0 (Int.toNat v80)) (10:Int)).bind fun r88 => (if (((0:Int) ≤ (IntKind.i64.wrap (v80 + (1:Int))))∧True ∧ (Int.toNat (IntKind.i64.wrap (v80 + (1:Int)))) ≤ (ByteArray.size x0) ∧ (ByteArray.size x0) ≤ (ByteArray.size x0)) then ((f37 k (ByteArray.extract x0 (Int.toNat (IntKind.i64.wrap (v80 + (1:Int)))) (ByteArray.size x0)) (10:Int)).bind fun r89 => (some (r88,r89,(bif (decide (r88 ≥ (0:Int))) then (decide (r89 ≥ r88)) else false)))) else none)) else none) else ((f34.l48 k x0) m48 (IntKind.i64.wrap (v80 + (1:Int))))) else none) else (some ((0:Int),(0:Int),false))
def f34 (k:Nat) (x0:ByteArray):Option (Int × Int × Bool):=f34.l48 k x0 k (0:Int)
theorem c34 (k:Nat) (x0:ByteArray) (r:(Int × Int × Bool)) (hF:f34 k x0=some r):PCall Tryd.prog 34 [⟨.str,x0⟩] [⟨iS,r.1⟩,⟨iS,r.2.1⟩,⟨.bool,r.2.2⟩]:=by
 refine pcall_intro Tryd.func34 rfl rfl (Nat.le_of_ble_eq_true rfl) ?_
 intro w0 Zi a w h
 rw [f34] at hF
 refine zs [0] h an fun a w h => ?_
 refine wp_seq ?_
 refine zs [0,5] h an fun a w h => ?_
 refine wp_block ?_
 refine wp_loop_fuel (f34.l48 k x0) (fun v80 => [(0,.val .str x0),(5,.val iS v80)]) (fun v h => by rw [f34.l48] at h; cases h) ?_ hF (ar h [0,5])
 intro m48 v80 a w hF h
 rw [f34.l48] at hF
 refine wp_seq ?_
 refine zs [0,5,11] h an fun a w h => ?_
 refine zi h hF (fun hF => ?_) (fun hF => ?_)
 ·refine wp_skip ?_
  refine wp_seq <| wp_block ?_
  obtain ⟨hc94,hF⟩:=of_if hF
  refine zs [0,5,17] h (ac hc94 an) fun a w h => ?_
  refine zi h hF (fun hF => ?_) (fun hF => ?_)
  ·obtain ⟨hc92,hF⟩:=of_if hF
   obtain ⟨r88,hr93,hF⟩:=of_bind hF
   refine zc (orcL [(21,[⟨iS,r88⟩])]) [0,5,6] h (ac hc92 (ac (c37 k (ByteArray.extract x0 0 (tZ v80)) (10:Int) r88 hr93) an)) fun a w h => ?_
   obtain ⟨hc90,hF⟩:=of_if hF
   obtain ⟨r89,hr91,hF⟩:=of_bind hF
   refine zc (orcL [(26,[⟨iS,r89⟩])]) [6,7] h (ac hc90 (ac (c37 k (ByteArray.extract x0 (tZ (w64 (v80 + (1:Int)))) (ByteArray.size x0)) (10:Int) r89 hr91) an)) fun a w h => ?_
   refine zs [2,3,4] h an fun a w h => ?_
   cases hF
   exact wp_ret (ret_okR tok h rfl (by kernel_rfl)).1
  ·refine wp_skip ?_
   refine zt [0,5] h an fun a w h => ?_
   exact ⟨(w64 (v80 + (1:Int))),hF,ar h [0,5]⟩
 ·refine wp_exit ?_
  refine zs [2,3,4] h an fun a w h => ?_
  cases hF
  exact wp_ret (ret_okR tok h rfl (by kernel_rfl)).1
def f36.l12 (k:Nat) (x0:ByteArray):Nat→Int→Option Bool
 | 0,_ => none
 | m12+1,v20 => if (decide (v20 < (ByteArray.size x0:Int))) then (if ((0:Int)≤v20∧v20 < (ByteArray.size x0:Int)) then (if (!(bif (bif (bif (bif (decide (((byteAt x0 v20):Int) ≥ (97:Int))) then (decide (((byteAt x0 v20):Int) ≤ (122:Int))) else false) then true else (bif (decide (((byteAt x0 v20):Int) ≥ (48:Int))) then (decide (((byteAt x0 v20):Int) ≤ (57:Int))) else false)) then true else (((byteAt x0 v20):Int) == (58:Int))) then true else (((byteAt x0 v20):Int) == (95:Int)))) then (some false) else ((f36.l12 k x0) m12 (IntKind.i64.wrap (v20 + (1:Int))))) else none) else (some (bif (decide (((ByteArray.size x0:Int):Int) ≥ (1:Int))) then (decide (((ByteArray.size x0:Int):Int) ≤ (40:Int))) else false))
def f36 (k:Nat) (x0:ByteArray):Option Bool:=f36.l12 k x0 k (0:Int)
theorem c36 (k:Nat) (x0:ByteArray) (r:Bool) (hF:f36 k x0=some r):PCall Tryd.prog 36 [⟨.str,x0⟩] [⟨.bool,r⟩]:=by
 refine pcall_intro Tryd.func36 rfl rfl (Nat.le_of_ble_eq_true rfl) ?_
 intro w0 Zi a w h
 rw [f36] at hF
 refine zs [0] h an fun a w h => ?_
 refine wp_seq ?_
 refine zs [0,3] h an fun a w h => ?_
 refine wp_block ?_
 refine wp_loop_fuel (f36.l12 k x0) (fun v20 => [(0,.val .str x0),(3,.val iS v20)]) (fun v h => by rw [f36.l12] at h; cases h) ?_ hF (ar h [0,3])
 intro m12 v20 a w hF h
 rw [f36.l12] at hF
 refine wp_seq ?_
 refine zs [0,3,8] h an fun a w h => ?_
 refine zi h hF (fun hF => ?_) (fun hF => ?_)
 ·refine wp_skip ?_
  refine wp_seq <| wp_block ?_
  obtain ⟨hc22,hF⟩:=of_if hF
  refine zs [0,3,4] h (ac hc22 an) fun a w h => ?_
  refine zs [0,3,36] h an fun a w h => ?_
  refine zi h hF (fun hF => ?_) (fun hF => ?_)
  ·refine zs [2] h an fun a w h => ?_
   cases hF
   exact wp_ret (ret_okR tok h rfl (by kernel_rfl)).1
  ·refine wp_skip ?_
   refine zt [0,3] h an fun a w h => ?_
   exact ⟨(w64 (v20 + (1:Int))),hF,ar h [0,3]⟩
 ·refine wp_exit ?_
  refine zs [2] h an fun a w h => ?_
  cases hF
  exact wp_ret (ret_okR tok h rfl (by kernel_rfl)).1
def f48.l18 (k:Nat) (x0:ByteArray):Nat→Int→Option Bool
 | 0,_ => none
 | m18+1,v30 => if (decide (v30 < (ByteArray.size x0:Int))) then (if ((0:Int)≤v30∧v30 < (ByteArray.size x0:Int)) then (if (((decide (((byteAt x0 v30):Int) < (33:Int)))=false) → ((0:Int)≤v30∧v30 < (ByteArray.size x0:Int))) then (if (bif (decide (((byteAt x0 v30):Int) < (33:Int))) then true else (decide (((byteAt x0 v30):Int) > (126:Int)))) then (some false) else ((f48.l18 k x0) m18 (IntKind.i64.wrap (v30 + (1:Int))))) else none) else none) else (some true)
def f48 (k:Nat) (x0:ByteArray):Option Bool:=f48.l18 k x0 k (0:Int)
theorem c48 (k:Nat) (x0:ByteArray) (r:Bool) (hF:f48 k x0=some r):PCall Tryd.prog 48 [⟨.str,x0⟩] [⟨.bool,r⟩]:=by
 refine pcall_intro Tryd.func48 rfl rfl (Nat.le_of_ble_eq_true rfl) ?_
 intro w0 Zi a w h
 rw [f48] at hF
 refine zs [0] h an fun a w h => ?_
 refine wp_seq ?_
 refine zs [0,3] h an fun a w h => ?_
 refine wp_block ?_
 refine wp_loop_fuel (f48.l18 k x0) (fun v30 => [(0,.val .str x0),(3,.val iS v30)]) (fun v h => by rw [f48.l18] at h; cases h) ?_ hF (ar h [0,3])
 intro m18 v30 a w hF h
 rw [f48.l18] at hF
 refine wp_seq ?_
 refine zs [0,3,7] h an fun a w h => ?_
 refine zi h hF (fun hF => ?_) (fun hF => ?_)
 ·refine wp_skip ?_
  refine wp_seq <| wp_block ?_
  obtain ⟨hc33,hF⟩:=of_if hF
  obtain ⟨hc34,hF⟩:=of_if hF
  refine zs [0,3,19] h (ac hc33 (ac hc34 an)) fun a w h => ?_
  refine zi h hF (fun hF => ?_) (fun hF => ?_)
  ·refine zs [2] h an fun a w h => ?_
   cases hF
   exact wp_ret (ret_okR tok h rfl (by kernel_rfl)).1
  ·refine wp_skip ?_
   refine zt [0,3] h an fun a w h => ?_
   exact ⟨(w64 (v30 + (1:Int))),hF,ar h [0,3]⟩
 ·refine wp_exit ?_
  refine zs [2] h an fun a w h => ?_
  cases hF
  exact wp_ret (ret_okR tok h rfl (by kernel_rfl)).1
def f35.j157 (k:Nat) (x0:ByteArray) (v140:Int):(ByteArray × Int)→Option ((ByteArray × (Int × ByteArray)) × Bool)
 | (v155,v156) => (f36 k v155).bind fun r158 => ((if (r158=true) then f48 k (ByteArray.extract x0 (Int.toNat (IntKind.i64.wrap (v140 + (1:Int)))) (ByteArray.size x0)) else some default).bind fun r159 => (some ((v155,(v156,(ByteArray.extract x0 (Int.toNat (IntKind.i64.wrap (v140 + (1:Int)))) (ByteArray.size x0)))),(bif r158 then r159 else false))))
def f35.l84 (k:Nat) (x0:ByteArray):Nat→Int→Option ((ByteArray × (Int × ByteArray)) × Bool)
 | 0,_ => none
 | m84+1,v140 => if (decide (v140 < (ByteArray.size x0:Int))) then (if ((0:Int)≤v140∧v140 < (ByteArray.size x0:Int)) then (if (((byteAt x0 v140):Int) != (61:Int)) then ((f35.l84 k x0) m84 (IntKind.i64.wrap (v140 + (1:Int)))) else (if (True ∧ ((0:Int)≤v140)∧0 ≤ (Int.toNat v140) ∧ (Int.toNat v140) ≤ (ByteArray.size x0)) then (if (((0:Int) ≤ (IntKind.i64.wrap (v140 + (1:Int))))∧True ∧ (Int.toNat (IntKind.i64.wrap (v140 + (1:Int)))) ≤ (ByteArray.size x0) ∧ (ByteArray.size x0) ≤ (ByteArray.size x0)) then (if (((decide (v140 > (0:Int)))=true) → ((0:Int) ≤ (IntKind.i64.wrap (v140 - (1:Int))) ∧ ((IntKind.i64.wrap (v140 - (1:Int))):Int) < (ByteArray.size x0:Int))) then (if (bif (decide (v140 > (0:Int))) then (((byteAt x0 (IntKind.i64.wrap (v140 - (1:Int)))):Int) == (33:Int)) else false) then (if (True ∧ ((0:Int) ≤ (IntKind.i64.wrap (v140 - (1:Int))))∧0 ≤ (Int.toNat (IntKind.i64.wrap (v140 - (1:Int)))) ∧ (Int.toNat (IntKind.i64.wrap (v140 - (1:Int)))) ≤ (ByteArray.size x0)) then (f35.j157 k x0 v140 ((ByteArray.extract x0 0 (Int.toNat (IntKind.i64.wrap (v140 - (1:Int))))),(2:Int))) else none) else (f35.j157 k x0 v140 ((ByteArray.extract x0 0 (Int.toNat v140)),(1:Int)))) else none) else none) else none)) else none) else (if (((decide (((ByteArray.size x0:Int):Int) > (0:Int)))=true) → ((0:Int) ≤ (0:Int) ∧ ((0:Int):Int) < (ByteArray.size x0:Int))) then (if (bif (decide (((ByteArray.size x0:Int):Int) > (0:Int))) then (((byteAt x0 (0:Int)):Int) == (33:Int)) else false) then (if (((0:Int) ≤ (1:Int))∧True ∧ (Int.toNat (1:Int)) ≤ (ByteArray.size x0) ∧ (ByteArray.size x0) ≤ (ByteArray.size x0)) then (if (((0:Int) ≤ (1:Int))∧True ∧ (Int.toNat (1:Int)) ≤ (ByteArray.size x0) ∧ (ByteArray.size x0) ≤ (ByteArray.size x0)) then ((f36 k (ByteArray.extract x0 (Int.toNat (1:Int)) (ByteArray.size x0))).bind fun r171 => (some (((ByteArray.extract x0 (Int.toNat (1:Int)) (ByteArray.size x0)),((4:Int),(⟨#[]⟩:ByteArray))),r171))) else none) else none) else ((f36 k x0).bind fun r175 => (some ((x0,((3:Int),(⟨#[]⟩:ByteArray))),r175)))) else none)
def f35 (k:Nat) (x0:ByteArray):Option ((ByteArray × (Int × ByteArray)) × Bool):=f35.l84 k x0 k (0:Int)
theorem c35 (k:Nat) (x0:ByteArray) (r:((ByteArray × (Int × ByteArray)) × Bool)) (hF:f35 k x0=some r):PCall Tryd.prog 35 [⟨.str,x0⟩] [⟨sh1,r.1⟩,⟨.bool,r.2⟩]:=by
 refine pcall_intro Tryd.func35 rfl rfl (Nat.le_of_ble_eq_true rfl) ?_
 intro w0 Zi a w h
 rw [f35] at hF
 refine zs [0,2] h an fun a w h => ?_
 refine wp_seq ?_
 refine zs [0,2,4] h an fun a w h => ?_
 refine wp_block ?_
 refine wp_loop_fuel (f35.l84 k x0) (fun v140 => [(0,.val .str x0),(2,.val sh0 (some ((⟨#[]⟩:ByteArray),(iO,(⟨#[]⟩:ByteArray))))),(4,.val iS v140)]) (fun v h => by rw [f35.l84] at h; cases h) ?_ hF (ar h [0,2,4])
 intro m84 v140 a w hF h
 rw [f35.l84] at hF
 refine wp_seq ?_
 refine zs [0,2,4,9] h an fun a w h => ?_
 refine zi h hF (fun hF => ?_) (fun hF => ?_)
 ·refine wp_skip ?_
  refine wp_seq <| wp_block ?_
  refine wp_seq ?_
  obtain ⟨hc166,hF⟩:=of_if hF
  refine zs [0,2,4,15] h (ac hc166 an) fun a w h => ?_
  refine zi h hF (fun hF => ?_) (fun hF => ?_)
  ·refine wp_exit ?_
   refine zt [0,2,4] h an fun a w h => ?_
   exact ⟨(w64 (v140 + (1:Int))),hF,ar h [0,2,4]⟩
  ·refine wp_skip ?_
   obtain ⟨hc164,hF⟩:=of_if hF
   obtain ⟨hc165,hF⟩:=of_if hF
   refine wp_regy_seq tok (orc:=o0) (l:=[0,2,4,5]) ([],[],[],[]) 9 nw h (by kernel_rfl) (by kernel_rfl) (ac hc164 (ac hc165 an)) fun a w h => ?_
   refine wp_seq ?_
   obtain ⟨hc163,hF⟩:=of_if hF
   refine zs [0,2,4,5,32] h (ac hc163 an) fun a w h => ?_
   refine wp_midT (fun a w => ∃ v:(ByteArray × Int),f35.j157 k x0 v140 v=some r∧Rel w0 (fun _ => False) Zi Tryd.f35.ntmps ((fun ((v155,v156):(ByteArray × Int)) => ([(2,.val sh0 (some ((⟨#[]⟩:ByteArray),(iO,(⟨#[]⟩:ByteArray))))),(5,.val sh0 (some (v155,(v156,(ByteArray.extract x0 (tZ (w64 (v140 + (1:Int)))) (ByteArray.size x0))))))]:SS)) v) a w) ?_ ?_
   ·
    refine zi h hF (fun hF => ?_) (fun hF => ?_)
    ·obtain ⟨hc162,hF⟩:=of_if hF
     refine zs [2,5] h (ac hc162 an) fun a w h => ?_
     refine zt [2,5] h an fun a w h => ?_
     exact ⟨((ByteArray.extract x0 0 (tZ (w64 (v140 - (1:Int))))),(2:Int)),hF,ar h [2,5]⟩
    ·refine wp_skip ?_
     exact ⟨((ByteArray.extract x0 0 (tZ v140)),(1:Int)),hF,ar h [2,5]⟩
   ·rintro a w ⟨v,hF,h⟩
    obtain ⟨v155,v156⟩:=v
    rw [f35.j157] at hF
    obtain ⟨r158,hr160,hF⟩:=of_bind hF
    obtain ⟨r159,hr161,hF⟩:=of_bind hF
    refine wp_regy_seq tok (orc:=orcL [(42,[⟨.bool,r158⟩]),(46,[⟨.bool,r159⟩])]) (l:=[2,3]) ([(9,2)],[],[],[(8,[43,46])]) 10 nw h (by kernel_rfl) (by kernel_rfl) (ac (c36 k v155 r158 hr160) (ac (fun (hg:(r158=true)) => c48 k (ByteArray.extract x0 (tZ (w64 (v140 + (1:Int)))) (ByteArray.size x0)) r159 (of_g hg hr161)) an)) fun a w h => ?_
    cases hF
    exact wp_ret (ret_okR tok h rfl (by kernel_rfl)).1
 ·refine wp_exit ?_
  refine wp_seq ?_
  obtain ⟨hc177,hF⟩:=of_if hF
  refine zs [0,2,55] h (ac hc177 an) fun a w h => ?_
  refine zi h hF (fun hF => ?_) (fun hF => ?_)
  ·obtain ⟨hc172,hF⟩:=of_if hF
   obtain ⟨hc173,hF⟩:=of_if hF
   obtain ⟨r171,hr174,hF⟩:=of_bind hF
   refine wp_regy_seq tok (orc:=orcL [(61,[⟨.bool,r171⟩])]) (l:=[2,3]) ([],[],[],[]) 6 nw h (by kernel_rfl) (by kernel_rfl) (ac hc172 (ac hc173 (ac (c36 k (ByteArray.extract x0 (tZ (1:Int)) (ByteArray.size x0)) r171 hr174) an))) fun a w h => ?_
   cases hF
   exact wp_ret (ret_okR tok h rfl (by kernel_rfl)).1
  ·refine wp_skip ?_
   obtain ⟨r175,hr176,hF⟩:=of_bind hF
   refine zc (orcL [(65,[⟨.bool,r175⟩])]) [2,3] h (ac (c36 k x0 r175 hr176) an) fun a w h => ?_
   cases hF
   exact wp_ret (ret_okR tok h rfl (by kernel_rfl)).1
def f15.j52 (k:Nat) (r2:(Int × Int × Bool)) (v44:(List (ByteArray × (Int × ByteArray)))):(List ByteArray)→Option ((Int × (Int × ((List (ByteArray × (Int × ByteArray))) × (Bool × (ByteArray × (Int × Int)))))) × Bool)
 | v51 => if (((((List.length v51:Int):Int) == (1:Int))=true) → (0 ≤ (0:Int) ∧ (0:Int) < (List.length v51:Int))) then (if (bif (((List.length v51:Int):Int) == (1:Int)) then (ByteArray.toList (List.getD v51 (Int.toNat (0:Int)) (⟨#[]⟩:ByteArray)) == ByteArray.toList (⟨#[104,105,100,101]⟩:ByteArray)) else false) then (some ((r2.1,(r2.2.1,(v44,(true,((⟨#[]⟩:ByteArray),((0:Int),(0:Int))))))),true)) else (if (((((List.length v51:Int):Int) != (4:Int))=false) → (0 ≤ (0:Int) ∧ (0:Int) < (List.length v51:Int))) then (if (((bif (((List.length v51:Int):Int) != (4:Int)) then true else (!(ByteArray.toList (List.getD v51 (Int.toNat (0:Int)) (⟨#[]⟩:ByteArray)) == ByteArray.toList (⟨#[100,114,97,119]⟩:ByteArray))))=false) → (0 ≤ (1:Int) ∧ (1:Int) < (List.length v51:Int))) then ((if ((bif (((List.length v51:Int):Int) != (4:Int)) then true else (!(ByteArray.toList (List.getD v51 (Int.toNat (0:Int)) (⟨#[]⟩:ByteArray)) == ByteArray.toList (⟨#[100,114,97,119]⟩:ByteArray))))=false) then f36 k (List.getD v51 (Int.toNat (1:Int)) (⟨#[]⟩:ByteArray)) else some default).bind fun r53 => (if (bif (bif (((List.length v51:Int):Int) != (4:Int)) then true else (!(ByteArray.toList (List.getD v51 (Int.toNat (0:Int)) (⟨#[]⟩:ByteArray)) == ByteArray.toList (⟨#[100,114,97,119]⟩:ByteArray)))) then true else (!r53)) then (some ((r2.1,(r2.2.1,(v44,(false,((⟨#[]⟩:ByteArray),((0:Int),(0:Int))))))),false)) else (if (0 ≤ (1:Int) ∧ (1:Int) < (List.length v51:Int)) then (if (0 ≤ (2:Int) ∧ (2:Int) < (List.length v51:Int)) then ((f37 k (List.getD v51 (Int.toNat (2:Int)) (⟨#[]⟩:ByteArray)) (1000:Int)).bind fun r54 => (if (0 ≤ (3:Int) ∧ (3:Int) < (List.length v51:Int)) then ((f37 k (List.getD v51 (Int.toNat (3:Int)) (⟨#[]⟩:ByteArray)) (1000:Int)).bind fun r55 => (some ((r2.1,(r2.2.1,(v44,(false,((List.getD v51 (Int.toNat (1:Int)) (⟨#[]⟩:ByteArray)),(r54,r55)))))),(bif (decide (r54 ≥ (0:Int))) then (decide (r55 ≥ (0:Int))) else false)))) else none)) else none) else none))) else none) else none)) else none
def f15.l27 (k:Nat) (r1:(List ByteArray)) (r2:(Int × Int × Bool)):Nat → ((List (ByteArray × (Int × ByteArray))) × Int)→Option ((Int × (Int × ((List (ByteArray × (Int × ByteArray))) × (Bool × (ByteArray × (Int × Int)))))) × Bool)
 | 0,_ => none
 | m27+1,(v44,v45) => if (((decide (v45 < (List.length r1:Int)))=true) → (0≤v45∧v45 < (List.length r1:Int))) then (if (bif (decide (v45 < (List.length r1:Int))) then (!(ByteArray.toList (List.getD r1 (Int.toNat v45) (⟨#[]⟩:ByteArray)) == ByteArray.toList (⟨#[45,62]⟩:ByteArray))) else false) then (if (0≤v45∧v45 < (List.length r1:Int)) then ((f35 k (List.getD r1 (Int.toNat v45) (⟨#[]⟩:ByteArray))).bind fun r46 => (if (!r46.2) then (some ((r2.1,(r2.2.1,(v44,(false,((⟨#[]⟩:ByteArray),((0:Int),(0:Int))))))),false)) else (if ((List.length v44+List.length [r46.1])*40≤140737488355328) then ((f15.l27 k r1 r2) m27 ((List.append v44 [r46.1]),(IntKind.i64.wrap (v45 + (1:Int))))) else none))) else none) else (if (decide (v45 < (List.length r1:Int))) then (if (((0:Int) ≤ (IntKind.i64.wrap (v45 + (1:Int))))∧True ∧ (Int.toNat (IntKind.i64.wrap (v45 + (1:Int)))) ≤ (List.length r1) ∧ (List.length r1) ≤ (List.length r1)) then (f15.j52 k r2 v44 (List.drop (Int.toNat (IntKind.i64.wrap (v45 + (1:Int)))) (List.take (List.length r1) r1))) else none) else (f15.j52 k r2 v44 ([]:List ByteArray)))) else none
def f15 (k:Nat) (x0:ByteArray):Option ((Int × (Int × ((List (ByteArray × (Int × ByteArray))) × (Bool × (ByteArray × (Int × Int)))))) × Bool):=(f33 k x0).bind fun r1 => (if (((decide (((List.length r1:Int):Int) < (4:Int)))=false) → (0 ≤ (0:Int) ∧ (0:Int) < (List.length r1:Int))) then (if (bif (decide (((List.length r1:Int):Int) < (4:Int))) then true else (!(ByteArray.toList (List.getD r1 (Int.toNat (0:Int)) (⟨#[]⟩:ByteArray)) == ByteArray.toList (⟨#[122,111,111,109]⟩:ByteArray)))) then (some (((0:Int),((0:Int),(([]:(List (ByteArray × (Int × ByteArray)))),(false,((⟨#[]⟩:ByteArray),((0:Int),(0:Int))))))),false)) else (if (0 ≤ (1:Int) ∧ (1:Int) < (List.length r1:Int)) then ((f34 k (List.getD r1 (Int.toNat (1:Int)) (⟨#[]⟩:ByteArray))).bind fun r2 => (if (!r2.2.2) then (some (((0:Int),((0:Int),(([]:(List (ByteArray × (Int × ByteArray)))),(false,((⟨#[]⟩:ByteArray),((0:Int),(0:Int))))))),false)) else (f15.l27 k r1 r2 k (([]:(List (ByteArray × (Int × ByteArray)))),(2:Int))))) else none)) else none)
theorem c15 (k:Nat) (x0:ByteArray) (r:((Int × (Int × ((List (ByteArray × (Int × ByteArray))) × (Bool × (ByteArray × (Int × Int)))))) × Bool)) (hF:f15 k x0=some r):PCall Tryd.prog 15 [⟨.str,x0⟩] [⟨sh4,r.1⟩,⟨.bool,r.2⟩]:=by
 refine pcall_intro Tryd.func15 rfl rfl (Nat.le_of_ble_eq_true rfl) ?_
 intro w0 Zi a w h
 rw [f15] at hF
 refine zs [0,2] h an fun a w h => ?_
 obtain ⟨r1,hr70,hF⟩:=of_bind hF
 refine zc (orcL [(14,[⟨(.sl true 9 .str),r1⟩])]) [2,4] h (ac (c33 k x0 r1 hr70) an) fun a w h => ?_
 refine zs [2,4,5] h an fun a w h => ?_
 refine wp_seq ?_
 obtain ⟨hc69,hF⟩:=of_if hF
 refine zs [2,4,5,24] h (ac hc69 an) fun a w h => ?_
 refine zi h hF (fun hF => ?_) (fun hF => ?_)
 ·refine zs [2,3] h an fun a w h => ?_
  cases hF
  exact wp_ret (ret_frz (outs:=[⟨sh3,(iO,(iO,(([]:(List (ByteArray × (Int × ByteArray)))),(false,((⟨#[]⟩:ByteArray),(iO,iO))))))⟩,⟨.bool,false⟩]) (ret_okR tok h rfl (by kernel_rfl)) (by kernel_rfl)).1
 ·refine wp_skip ?_
  obtain ⟨hc67,hF⟩:=of_if hF
  obtain ⟨r2,hr68,hF⟩:=of_bind hF
  refine zc (orcL [(30,[⟨iS,r2.1⟩,⟨iS,r2.2.1⟩,⟨.bool,r2.2.2⟩])]) [2,4,5,6,7,8] h (ac hc67 (ac (c34 k (gD r1 (tZ (1:Int)) (⟨#[]⟩:ByteArray)) r2 hr68) an)) fun a w h => ?_
  refine wp_seq ?_
  refine zs [2,4,5,6,7,35] h an fun a w h => ?_
  refine zi h hF (fun hF => ?_) (fun hF => ?_)
  ·refine zs [2,3] h an fun a w h => ?_
   cases hF
   exact wp_ret (ret_frz (outs:=[⟨sh3,(iO,(iO,(([]:(List (ByteArray × (Int × ByteArray)))),(false,((⟨#[]⟩:ByteArray),(iO,iO))))))⟩,⟨.bool,false⟩]) (ret_okR tok h rfl (by kernel_rfl)) (by kernel_rfl)).1
  ·refine wp_skip ?_
   refine zs [2,4,5,7] h an fun a w h => ?_
   refine zs [2,4,5] h an fun a w h => ?_
   refine zs [2,4,5,9] h an fun a w h => ?_
   refine wp_seq <| wp_block ?_
   refine wp_loop_fuel (f15.l27 k r1 r2) (fun ((v44,v45):((List (ByteArray × (Int × ByteArray))) × Int)) => [(2,.val sh2 (some (iO,(iO,(([]:(List (ByteArray × (Int × ByteArray)))),(false,((⟨#[]⟩:ByteArray),(iO,iO)))))))),(4,.val (.sl true 9 .str) r1),(5,.val sh2 (some (r2.1,(r2.2.1,(v44,(false,((⟨#[]⟩:ByteArray),(iO,iO)))))))),(9,.val iS v45)]) (fun v h => by obtain ⟨v44,v45⟩:=v; rw [f15.l27] at h; cases h) ?_ hF (ar h [2,4,5,9])
   intro m27 v a w hF h
   obtain ⟨v44,v45⟩:=v
   rw [f15.l27] at hF
   refine wp_seq ?_
   obtain ⟨hc66,hF⟩:=of_if hF
   refine zs [2,4,5,9,51] h (ac hc66 an) fun a w h => ?_
   refine zi h hF (fun hF => ?_) (fun hF => ?_)
   ·refine wp_skip ?_
    refine wp_block ?_
    obtain ⟨hc48,hF⟩:=of_if hF
    obtain ⟨r46,hr49,hF⟩:=of_bind hF
    refine zc (orcL [(57,[⟨sh1,r46.1⟩,⟨.bool,r46.2⟩])]) [2,4,5,9,10,11] h (ac hc48 (ac (c35 k (gD r1 (tZ v45) (⟨#[]⟩:ByteArray)) r46 hr49) an)) fun a w h => ?_
    refine wp_seq ?_
    refine zs [2,4,5,9,10,61] h an fun a w h => ?_
    refine zi h hF (fun hF => ?_) (fun hF => ?_)
    ·refine zs [2,3] h an fun a w h => ?_
     cases hF
     exact wp_ret (ret_frz (outs:=[⟨sh3,(r2.1,(r2.2.1,(v44,(false,((⟨#[]⟩:ByteArray),(iO,iO))))))⟩,⟨.bool,false⟩]) (ret_okR tok h rfl (by kernel_rfl)) (by kernel_rfl)).1
    ·refine wp_skip ?_
     obtain ⟨hc47,hF⟩:=of_if hF
     refine zc (orcL [(67,[⟨.pt false 4294967293 .unit,some ()⟩])]) [2,4,5,9] h (ac (PrefL.mk (l:=[[.der,.snd,.snd,.fst],[.der,.snd,.snd,.fst]]) (p:=[.der,.snd,.snd,.fst]) rfl) (ac hc47 (ac (show ([.der,.snd,.snd,.fst]:Path)=[.der,.snd,.snd,.fst] from rfl) an))) fun a w h => ?_
     refine zt [2,4,5,9] h an fun a w h => ?_
     exact ⟨((List.append v44 [r46.1]),(w64 (v45 + (1:Int)))),hF,ar h [2,4,5,9]⟩
   ·refine wp_exit ?_
    refine zs [2,4,5,9,12] h an fun a w h => ?_
    refine wp_seq ?_
    refine zs [2,4,5,9,12,75] h an fun a w h => ?_
    refine wp_midT (fun a w => ∃ v:(List ByteArray),f15.j52 k r2 v44 v=some r∧Rel w0 (fun _ => False) Zi Tryd.f15.ntmps ((fun (v51:(List ByteArray)) => ([(2,.val sh2 (some (iO,(iO,(([]:(List (ByteArray × (Int × ByteArray)))),(false,((⟨#[]⟩:ByteArray),(iO,iO)))))))),(5,.val sh2 (some (r2.1,(r2.2.1,(v44,(false,((⟨#[]⟩:ByteArray),(iO,iO)))))))),(12,.val (.sl false 9 .str) v51)]:SS)) v) a w) ?_ ?_
    ·
     refine zi h hF (fun hF => ?_) (fun hF => ?_)
     ·obtain ⟨hc65,hF⟩:=of_if hF
      refine wp_reg tok (orc:=o0) (fz:=[4]) (l:=[2,5,12]) (.inr fun i h => h) h (by kernel_rfl) (ac hc65 an) fun a w h => ?_
      exact ⟨(List.drop (tZ (w64 (v45 + (1:Int)))) (List.take (List.length r1) r1)),hF,ar h [2,5,12]⟩
     ·refine wp_skip ?_
      exact ⟨([]:List ByteArray),hF,h.arrive (fz:=[12]) (l:=[2,5,12]) (.inr fun i h => h) (by kernel_rfl)⟩
    ·rintro a w ⟨v51,hF,h⟩
     rw [f15.j52] at hF
     refine wp_seq ?_
     obtain ⟨hc64,hF⟩:=of_if hF
     refine zs [2,5,12,88] h (ac hc64 an) fun a w h => ?_
     refine zi h hF (fun hF => ?_) (fun hF => ?_)
     ·refine zs [2,5] h an fun a w h => ?_
      refine zs [2,3] h an fun a w h => ?_
      cases hF
      exact wp_ret (ret_frz (outs:=[⟨sh3,(r2.1,(r2.2.1,(v44,(true,((⟨#[]⟩:ByteArray),(iO,iO))))))⟩,⟨.bool,true⟩]) (ret_okR tok h rfl (by kernel_rfl)) (by kernel_rfl)).1
     ·refine wp_skip ?_
      refine wp_seq ?_
      obtain ⟨hc61,hF⟩:=of_if hF
      obtain ⟨hc62,hF⟩:=of_if hF
      obtain ⟨r53,hr63,hF⟩:=of_bind hF
      refine zc (orcL [(104,[⟨.bool,r53⟩])]) [2,5,12,106] h (ac hc61 (ac hc62 (ac (fun (hg:((bif (((List.length v51:Int):Int) != (4:Int)) then true else (!(ByteArray.toList (gD v51 (tZ iO) (⟨#[]⟩:ByteArray)) == ByteArray.toList (⟨#[100,114,97,119]⟩:ByteArray))))=false)) => c36 k (gD v51 (tZ (1:Int)) (⟨#[]⟩:ByteArray)) r53 (of_g hg hr63)) an))) fun a w h => ?_
      refine zi h hF (fun hF => ?_) (fun hF => ?_)
      ·refine zs [2,3] h an fun a w h => ?_
       cases hF
       exact wp_ret (ret_frz (outs:=[⟨sh3,(r2.1,(r2.2.1,(v44,(false,((⟨#[]⟩:ByteArray),(iO,iO))))))⟩,⟨.bool,false⟩]) (ret_okR tok h rfl (by kernel_rfl)) (by kernel_rfl)).1
      ·refine wp_skip ?_
       obtain ⟨hc60,hF⟩:=of_if hF
       refine zs [2,5,12] h (ac hc60 an) fun a w h => ?_
       obtain ⟨hc58,hF⟩:=of_if hF
       obtain ⟨r54,hr59,hF⟩:=of_bind hF
       refine zc (orcL [(115,[⟨iS,r54⟩])]) [2,5,12] h (ac hc58 (ac (c37 k (gD v51 (tZ (2:Int)) (⟨#[]⟩:ByteArray)) (1000:Int) r54 hr59) an)) fun a w h => ?_
       obtain ⟨hc56,hF⟩:=of_if hF
       obtain ⟨r55,hr57,hF⟩:=of_bind hF
       refine zc (orcL [(120,[⟨iS,r55⟩])]) [2,5] h (ac hc56 (ac (c37 k (gD v51 (tZ (3:Int)) (⟨#[]⟩:ByteArray)) (1000:Int) r55 hr57) an)) fun a w h => ?_
       refine wp_regy_seq tok (orc:=o0) (fz:=[5]) (l:=[2,3]) ([(9,2)],[],[],[(5,[5,126]),(6,[126,127]),(7,[126,128]),(8,[126,129])]) 10 (.inr fun i h => h) h (by kernel_rfl) (by kernel_rfl) an fun a w h => ?_
       cases hF
       exact wp_ret (ret_okR tok h rfl (by kernel_rfl)).1
def f5.j108 (k:Nat) (v99:Int) (q59:((List (Int × (Int × ((List (ByteArray × (Int × ByteArray))) × (Bool × (ByteArray × (Int × Int))))))) × Int)→Option ((List (Int × (Int × ((List (ByteArray × (Int × ByteArray))) × (Bool × (ByteArray × (Int × Int))))))) × Int)):(List (Int × (Int × ((List (ByteArray × (Int × ByteArray))) × (Bool × (ByteArray × (Int × Int)))))))→Option ((List (Int × (Int × ((List (ByteArray × (Int × ByteArray))) × (Bool × (ByteArray × (Int × Int))))))) × Int)
 | v107 => q59 (v107,(IntKind.i64.wrap (v99 + (1:Int))))
def f5.l59 (k:Nat) (r1:(List ByteArray)):Nat → ((List (Int × (Int × ((List (ByteArray × (Int × ByteArray))) × (Bool × (ByteArray × (Int × Int))))))) × Int)→Option ((List (Int × (Int × ((List (ByteArray × (Int × ByteArray))) × (Bool × (ByteArray × (Int × Int))))))) × Int)
 | 0,_ => none
 | m59+1,(v98,v99) => if (decide (v99 < (List.length r1:Int))) then (if (0≤v99∧v99 < (List.length r1:Int)) then (if (((ByteArray.toList (List.getD r1 (Int.toNat v99) (⟨#[]⟩:ByteArray)) == ByteArray.toList (⟨#[]⟩:ByteArray))=false) → (0≤v99∧v99 < (List.length r1:Int))) then (if (((ByteArray.toList (List.getD r1 (Int.toNat v99) (⟨#[]⟩:ByteArray)) == ByteArray.toList (⟨#[]⟩:ByteArray))=false) → ((0:Int) ≤ (0:Int) ∧ ((0:Int):Int) < (ByteArray.size (List.getD r1 (Int.toNat v99) (⟨#[]⟩:ByteArray)):Int))) then (if (bif (ByteArray.toList (List.getD r1 (Int.toNat v99) (⟨#[]⟩:ByteArray)) == ByteArray.toList (⟨#[]⟩:ByteArray)) then true else (((byteAt (List.getD r1 (Int.toNat v99) (⟨#[]⟩:ByteArray)) (0:Int)):Int) == (35:Int))) then (f5.j108 k v99 ((f5.l59 k r1) m59) v98) else (if (0≤v99∧v99 < (List.length r1:Int)) then ((f15 k (List.getD r1 (Int.toNat v99) (⟨#[]⟩:ByteArray))).bind fun r109 => (if (bif (!r109.2) then true else (((List.length v98:Int):Int) == (100:Int))) then (some (([]:List (Int × (Int × ((List (ByteArray × (Int × ByteArray))) × (Bool × (ByteArray × (Int × Int))))))),(IntKind.i64.wrap (v99 + (1:Int))))) else (if ((List.length v98+List.length [r109.1])*80≤140737488355328) then (f5.j108 k v99 ((f5.l59 k r1) m59) (v98 ++ [r109.1])) else none))) else none)) else none) else none) else none) else (some (v98,(0:Int)))
def f5 (k:Nat) (x0:ByteArray):Option ((List (Int × (Int × ((List (ByteArray × (Int × ByteArray))) × (Bool × (ByteArray × (Int × Int))))))) × Int):=if (decide (((ByteArray.size x0:Int):Int) > (4000:Int))) then (some (([]:List (Int × (Int × ((List (ByteArray × (Int × ByteArray))) × (Bool × (ByteArray × (Int × Int))))))),(-1:Int))) else ((f14 k x0).bind fun r1 => (f5.l59 k r1 k (([]:List (Int × (Int × ((List (ByteArray × (Int × ByteArray))) × (Bool × (ByteArray × (Int × Int))))))),(0:Int))))
theorem c5 (k:Nat) (x0:ByteArray) (r:((List (Int × (Int × ((List (ByteArray × (Int × ByteArray))) × (Bool × (ByteArray × (Int × Int))))))) × Int)) (hF:f5 k x0=some r):PCall Tryd.prog 5 [⟨.str,x0⟩] [⟨sh5,r.1⟩,⟨iS,r.2⟩]:=by
 refine pcall_intro Tryd.func5 rfl rfl (Nat.le_of_ble_eq_true rfl) ?_
 intro w0 Zi a w h
 rw [f5] at hF
 refine zs [0] h an fun a w h => ?_
 refine wp_seqX_seq (sxE_ok [0] (sxA_ok tok (orc:=o0) (spA:=[]) (sp:=[]))) h (by kernel_rfl) an fun a w h => ?_
 refine wp_seq ?_
 refine zs [0,4,12] h an fun a w h => ?_
 refine zi h hF (fun hF => ?_) (fun hF => ?_)
 ·refine zs [2,3,4] h an fun a w h => ?_
  cases hF
  exact wp_ret (ret_okR tok h rfl (by kernel_rfl)).1
 ·refine wp_skip ?_
  obtain ⟨r1,hr116,hF⟩:=of_bind hF
  refine zc (orcL [(15,[⟨(.sl true 9 .str),r1⟩])]) [4,5] h (ac (c14 k x0 r1 hr116) an) fun a w h => ?_
  refine wp_seq ?_
  refine zs [4,5,6] h an fun a w h => ?_
  refine wp_block ?_
  refine wp_loop_fuel (f5.l59 k r1) (fun ((v98,v99):((List (Int × (Int × ((List (ByteArray × (Int × ByteArray))) × (Bool × (ByteArray × (Int × Int))))))) × Int)) => [(4,.val sh5 v98),(5,.val (.sl true 9 .str) r1),(6,.val iS v99)]) (fun v h => by obtain ⟨v98,v99⟩:=v; rw [f5.l59] at h; cases h) ?_ hF (ar h [4,5,6])
  intro m59 v a w hF h
  obtain ⟨v98,v99⟩:=v
  rw [f5.l59] at hF
  refine wp_seq ?_
  refine zs [4,5,6,19] h an fun a w h => ?_
  refine zi h hF (fun hF => ?_) (fun hF => ?_)
  ·refine wp_skip ?_
   refine wp_mid (fun a w => ∃ v:(List (Int × (Int × ((List (ByteArray × (Int × ByteArray))) × (Bool × (ByteArray × (Int × Int))))))),f5.j108 k v99 ((f5.l59 k r1) m59) v=some r∧Rel w0 (fun _ => False) Zi Tryd.f5.ntmps ((fun (v107:(List (Int × (Int × ((List (ByteArray × (Int × ByteArray))) × (Bool × (ByteArray × (Int × Int)))))))) => ([(4,.val sh5 v107),(5,.val (.sl true 9 .str) r1),(6,.val iS v99)]:SS)) v) a w) ?_ ?_
   ·
    refine wp_block ?_
    refine wp_seq ?_
    obtain ⟨hc113,hF⟩:=of_if hF
    obtain ⟨hc114,hF⟩:=of_if hF
    obtain ⟨hc115,hF⟩:=of_if hF
    refine zs [4,5,6,34] h (ac hc113 (ac hc114 (ac hc115 an))) fun a w h => ?_
    refine zi h hF (fun hF => ?_) (fun hF => ?_)
    ·refine wp_exit ?_
     exact ⟨v98,hF,ar h [4,5,6]⟩
    ·refine wp_skip ?_
     obtain ⟨hc111,hF⟩:=of_if hF
     obtain ⟨r109,hr112,hF⟩:=of_bind hF
     refine zc (orcL [(40,[⟨sh4,r109.1⟩,⟨.bool,r109.2⟩])]) [4,5,6,7,8] h (ac hc111 (ac (c15 k (gD r1 (tZ v99) (⟨#[]⟩:ByteArray)) r109 hr112) an)) fun a w h => ?_
     refine wp_seq ?_
     refine zs [4,5,6,7,49] h an fun a w h => ?_
     refine zi h hF (fun hF => ?_) (fun hF => ?_)
     ·refine wp_seqX_seq (sxE_ok [0] (sxA_ok tok (orc:=o0) (spA:=[]) (sp:=[]))) h (by kernel_rfl) an fun a w h => ?_
      cases hF
      exact wp_ret (ret_okR tok h rfl (by kernel_rfl)).1
     ·refine wp_skip ?_
      obtain ⟨hc110,hF⟩:=of_if hF
      refine zt [4,5,6] h (ac hc110 an) fun a w h => ?_
      exact ⟨(v98 ++ [r109.1]),hF,ar h [4,5,6]⟩
   ·rintro a w ⟨v107,hF,h⟩
    rw [f5.j108] at hF
    refine zt [4,5,6] h an fun a w h => ?_
    exact ⟨(v107,(w64 (v99 + (1:Int)))),hF,ar h [4,5,6]⟩
  ·refine wp_exit ?_
   refine zs [2,3,4] h an fun a w h => ?_
   cases hF
   exact wp_ret (ret_okR tok h rfl (by kernel_rfl)).1
def f40.l28 (k:Nat) (x0:ByteArray) (x1:Int):Nat → (Int × Int)→Option (Int × Bool)
 | 0,_ => none
 | m28+1,(v47,v48) => if (decide (v48 < (ByteArray.size x0:Int))) then (if ((0:Int)≤v48∧v48 < (ByteArray.size x0:Int)) then (if (((decide (((byteAt x0 v48):Int) < (48:Int)))=false) → ((0:Int)≤v48∧v48 < (ByteArray.size x0:Int))) then (if (bif (decide (((byteAt x0 v48):Int) < (48:Int))) then true else (decide (((byteAt x0 v48):Int) > (57:Int)))) then (some ((0:Int),false)) else (if ((0:Int)≤v48∧v48 < (ByteArray.size x0:Int)) then (if (decide (((IntKind.i64.wrap ((IntKind.i64.wrap (v47 * (10:Int))) + (IntKind.i64.wrap (IntKind.u8.wrap ((byteAt x0 v48) - (48:Int)))))):Int) > x1)) then (some ((0:Int),false)) else ((f40.l28 k x0 x1) m28 ((IntKind.i64.wrap ((IntKind.i64.wrap (v47 * (10:Int))) + (IntKind.i64.wrap (IntKind.u8.wrap ((byteAt x0 v48) - (48:Int)))))),(IntKind.i64.wrap (v48 + (1:Int)))))) else none)) else none) else none) else (some (v47,true))
def f40 (k:Nat) (x0:ByteArray) (x1:Int):Option (Int × Bool):=if (bif (ByteArray.toList x0 == ByteArray.toList (⟨#[]⟩:ByteArray)) then true else (decide (((ByteArray.size x0:Int):Int) > (10:Int)))) then (some ((0:Int),false)) else (f40.l28 k x0 x1 k ((0:Int),(0:Int)))
theorem c40 (k:Nat) (x0:ByteArray) (x1:Int) (r:(Int × Bool)) (hF:f40 k x0 x1=some r):PCall Tryd.prog 40 [⟨.str,x0⟩,⟨iS,x1⟩] [⟨iS,r.1⟩,⟨.bool,r.2⟩]:=by
 refine pcall_intro Tryd.func40 rfl rfl (Nat.le_of_ble_eq_true rfl) ?_
 intro w0 Zi a w h
 rw [f40] at hF
 refine zs [0,1] h an fun a w h => ?_
 refine wp_seq ?_
 refine zs [0,1,14] h an fun a w h => ?_
 refine zi h hF (fun hF => ?_) (fun hF => ?_)
 ·refine zs [4,5] h an fun a w h => ?_
  cases hF
  exact wp_ret (ret_okR tok h rfl (by kernel_rfl)).1
 ·refine wp_skip ?_
  refine zs [0,1,6] h an fun a w h => ?_
  refine wp_seq ?_
  refine zs [0,1,6,7] h an fun a w h => ?_
  refine wp_block ?_
  refine wp_loop_fuel (f40.l28 k x0 x1) (fun ((v47,v48):(Int × Int)) => [(0,.val .str x0),(1,.val iS x1),(6,.val iS v47),(7,.val iS v48)]) (fun v h => by obtain ⟨v47,v48⟩:=v; rw [f40.l28] at h; cases h) ?_ hF (ar h [0,1,6,7])
  intro m28 v a w hF h
  obtain ⟨v47,v48⟩:=v
  rw [f40.l28] at hF
  refine wp_seq ?_
  refine zs [0,1,6,7,18] h an fun a w h => ?_
  refine zi h hF (fun hF => ?_) (fun hF => ?_)
  ·refine wp_skip ?_
   refine wp_seq <| wp_block ?_
   refine wp_seq ?_
   obtain ⟨hc53,hF⟩:=of_if hF
   obtain ⟨hc54,hF⟩:=of_if hF
   refine zs [0,1,6,7,30] h (ac hc53 (ac hc54 an)) fun a w h => ?_
   refine zi h hF (fun hF => ?_) (fun hF => ?_)
   ·refine zs [4,5] h an fun a w h => ?_
    cases hF
    exact wp_ret (ret_okR tok h rfl (by kernel_rfl)).1
   ·refine wp_skip ?_
    obtain ⟨hc52,hF⟩:=of_if hF
    refine zs [0,1,6,7] h (ac hc52 an) fun a w h => ?_
    refine zs [0,1,6,7,41] h an fun a w h => ?_
    refine zi h hF (fun hF => ?_) (fun hF => ?_)
    ·refine zs [4,5] h an fun a w h => ?_
     cases hF
     exact wp_ret (ret_okR tok h rfl (by kernel_rfl)).1
    ·refine wp_skip ?_
     refine zt [0,1,6,7] h an fun a w h => ?_
     exact ⟨((w64 ((w64 (v47 * (10:Int))) + (w64 (IntKind.u8.wrap ((byteAt x0 v48) - (48:Int)))))),(w64 (v48 + (1:Int)))),hF,ar h [0,1,6,7]⟩
  ·refine wp_exit ?_
   refine zs [4,5] h an fun a w h => ?_
   cases hF
   exact wp_ret (ret_okR tok h rfl (by kernel_rfl)).1
def f42.l12 (k:Nat) (x0:ByteArray):Nat→Int→Option Bool
 | 0,_ => none
 | m12+1,v20 => if (decide (v20 < (ByteArray.size x0:Int))) then (if ((0:Int)≤v20∧v20 < (ByteArray.size x0:Int)) then (if (!(bif (bif (bif (bif (decide (((byteAt x0 v20):Int) ≥ (97:Int))) then (decide (((byteAt x0 v20):Int) ≤ (122:Int))) else false) then true else (bif (decide (((byteAt x0 v20):Int) ≥ (48:Int))) then (decide (((byteAt x0 v20):Int) ≤ (57:Int))) else false)) then true else (((byteAt x0 v20):Int) == (58:Int))) then true else (((byteAt x0 v20):Int) == (95:Int)))) then (some false) else ((f42.l12 k x0) m12 (IntKind.i64.wrap (v20 + (1:Int))))) else none) else (some true)
def f42 (k:Nat) (x0:ByteArray):Option Bool:=if (bif (decide (((ByteArray.size x0:Int):Int) < (1:Int))) then true else (decide (((ByteArray.size x0:Int):Int) > (40:Int)))) then (some false) else (f42.l12 k x0 k (0:Int))
theorem c42 (k:Nat) (x0:ByteArray) (r:Bool) (hF:f42 k x0=some r):PCall Tryd.prog 42 [⟨.str,x0⟩] [⟨.bool,r⟩]:=by
 refine pcall_intro Tryd.func42 rfl rfl (Nat.le_of_ble_eq_true rfl) ?_
 intro w0 Zi a w h
 rw [f42] at hF
 refine zs [0] h an fun a w h => ?_
 refine wp_seq ?_
 refine zs [0,12] h an fun a w h => ?_
 refine zi h hF (fun hF => ?_) (fun hF => ?_)
 ·refine zs [2] h an fun a w h => ?_
  cases hF
  exact wp_ret (ret_okR tok h rfl (by kernel_rfl)).1
 ·refine wp_skip ?_
  refine wp_seq ?_
  refine zs [0,3] h an fun a w h => ?_
  refine wp_block ?_
  refine wp_loop_fuel (f42.l12 k x0) (fun v20 => [(0,.val .str x0),(3,.val iS v20)]) (fun v h => by rw [f42.l12] at h; cases h) ?_ hF (ar h [0,3])
  intro m12 v20 a w hF h
  rw [f42.l12] at hF
  refine wp_seq ?_
  refine zs [0,3,16] h an fun a w h => ?_
  refine zi h hF (fun hF => ?_) (fun hF => ?_)
  ·refine wp_skip ?_
   refine wp_seq <| wp_block ?_
   obtain ⟨hc22,hF⟩:=of_if hF
   refine zs [0,3,4] h (ac hc22 an) fun a w h => ?_
   refine zs [0,3,44] h an fun a w h => ?_
   refine zi h hF (fun hF => ?_) (fun hF => ?_)
   ·refine zs [2] h an fun a w h => ?_
    cases hF
    exact wp_ret (ret_okR tok h rfl (by kernel_rfl)).1
   ·refine wp_skip ?_
    refine zt [0,3] h an fun a w h => ?_
    exact ⟨(w64 (v20 + (1:Int))),hF,ar h [0,3]⟩
  ·refine wp_exit ?_
   refine zs [2] h an fun a w h => ?_
   cases hF
   exact wp_ret (ret_okR tok h rfl (by kernel_rfl)).1
def f41.l67 (k:Nat) (x0:ByteArray) (r1:Int) (v47:ByteArray) (v48:Int):Nat→Int→Option ((ByteArray × (Int × ByteArray)) × Bool)
 | 0,_ => none
 | m67+1,v79 => if (decide (v79 < (ByteArray.size (ByteArray.extract x0 (Int.toNat (IntKind.i64.wrap (r1 + (1:Int)))) (ByteArray.size x0)):Int))) then (if ((0:Int)≤v79∧v79 < (ByteArray.size (ByteArray.extract x0 (Int.toNat (IntKind.i64.wrap (r1 + (1:Int)))) (ByteArray.size x0)):Int)) then (if (((decide (((byteAt (ByteArray.extract x0 (Int.toNat (IntKind.i64.wrap (r1 + (1:Int)))) (ByteArray.size x0)) v79):Int) < (33:Int)))=false) → ((0:Int)≤v79∧v79 < (ByteArray.size (ByteArray.extract x0 (Int.toNat (IntKind.i64.wrap (r1 + (1:Int)))) (ByteArray.size x0)):Int))) then (if (bif (decide (((byteAt (ByteArray.extract x0 (Int.toNat (IntKind.i64.wrap (r1 + (1:Int)))) (ByteArray.size x0)) v79):Int) < (33:Int))) then true else (decide (((byteAt (ByteArray.extract x0 (Int.toNat (IntKind.i64.wrap (r1 + (1:Int)))) (ByteArray.size x0)) v79):Int) > (126:Int)))) then (some (((⟨#[]⟩:ByteArray),((0:Int),(⟨#[]⟩:ByteArray))),false)) else ((f41.l67 k x0 r1 v47 v48) m67 (IntKind.i64.wrap (v79 + (1:Int))))) else none) else none) else ((f42 k v47).bind fun r84 => (some ((v47,(v48,(ByteArray.extract x0 (Int.toNat (IntKind.i64.wrap (r1 + (1:Int)))) (ByteArray.size x0)))),r84)))
def f41.j49 (k:Nat) (x0:ByteArray) (r1:Int):(ByteArray × Int)→Option ((ByteArray × (Int × ByteArray)) × Bool)
 | (v47,v48) => f41.l67 k x0 r1 v47 v48 k (0:Int)
def f41 (k:Nat) (x0:ByteArray):Option ((ByteArray × (Int × ByteArray)) × Bool):=(f53 k x0 (61:Int)).bind fun r1 => (if (decide (r1 ≥ (0:Int))) then (if (True ∧ ((0:Int)≤r1)∧0 ≤ (Int.toNat r1) ∧ (Int.toNat r1) ≤ (ByteArray.size x0)) then (if (((0:Int) ≤ (IntKind.i64.wrap (r1 + (1:Int))))∧True ∧ (Int.toNat (IntKind.i64.wrap (r1 + (1:Int)))) ≤ (ByteArray.size x0) ∧ (ByteArray.size x0) ≤ (ByteArray.size x0)) then (if (((decide (r1 > (0:Int)))=true) → ((0:Int) ≤ (IntKind.i64.wrap (r1 - (1:Int))) ∧ ((IntKind.i64.wrap (r1 - (1:Int))):Int) < (ByteArray.size x0:Int))) then (if (bif (decide (r1 > (0:Int))) then (((byteAt x0 (IntKind.i64.wrap (r1 - (1:Int)))):Int) == (33:Int)) else false) then (if (True ∧ ((0:Int) ≤ (IntKind.i64.wrap (r1 - (1:Int))))∧0 ≤ (Int.toNat (IntKind.i64.wrap (r1 - (1:Int)))) ∧ (Int.toNat (IntKind.i64.wrap (r1 - (1:Int)))) ≤ (ByteArray.size x0)) then (f41.j49 k x0 r1 ((ByteArray.extract x0 0 (Int.toNat (IntKind.i64.wrap (r1 - (1:Int))))),(2:Int))) else none) else (f41.j49 k x0 r1 ((ByteArray.extract x0 0 (Int.toNat r1)),(1:Int)))) else none) else none) else none) else ((f54 k x0 (⟨#[33]⟩:ByteArray)).bind fun r90 => (if r90 then (if (((0:Int) ≤ (1:Int))∧True ∧ (Int.toNat (1:Int)) ≤ (ByteArray.size x0) ∧ (ByteArray.size x0) ≤ (ByteArray.size x0)) then (if (((0:Int) ≤ (1:Int))∧True ∧ (Int.toNat (1:Int)) ≤ (ByteArray.size x0) ∧ (ByteArray.size x0) ≤ (ByteArray.size x0)) then ((f42 k (ByteArray.extract x0 (Int.toNat (1:Int)) (ByteArray.size x0))).bind fun r95 => (some (((ByteArray.extract x0 (Int.toNat (1:Int)) (ByteArray.size x0)),((4:Int),(⟨#[]⟩:ByteArray))),r95))) else none) else none) else ((f42 k x0).bind fun r99 => (some ((x0,((3:Int),(⟨#[]⟩:ByteArray))),r99))))))
theorem c41 (k:Nat) (x0:ByteArray) (r:((ByteArray × (Int × ByteArray)) × Bool)) (hF:f41 k x0=some r):PCall Tryd.prog 41 [⟨.str,x0⟩] [⟨sh1,r.1⟩,⟨.bool,r.2⟩]:=by
 refine pcall_intro Tryd.func41 rfl rfl (Nat.le_of_ble_eq_true rfl) ?_
 intro w0 Zi a w h
 rw [f41] at hF
 refine zs [0,2] h an fun a w h => ?_
 refine wp_seq ?_
 obtain ⟨r1,hr102,hF⟩:=of_bind hF
 refine zc (orcL [(8,[⟨iS,r1⟩])]) [0,2,4] h (ac (c53 k x0 (61:Int) r1 hr102) an) fun a w h => ?_
 refine zs [0,2,4,10] h an fun a w h => ?_
 refine zi h hF (fun hF => ?_) (fun hF => ?_)
 ·obtain ⟨hc88,hF⟩:=of_if hF
  obtain ⟨hc89,hF⟩:=of_if hF
  refine wp_regy_seq tok (orc:=o0) (l:=[0,2,4,5]) ([],[],[],[]) 9 nw h (by kernel_rfl) (by kernel_rfl) (ac hc88 (ac hc89 an)) fun a w h => ?_
  refine wp_seq ?_
  obtain ⟨hc87,hF⟩:=of_if hF
  refine zs [0,2,4,5,27] h (ac hc87 an) fun a w h => ?_
  refine wp_midT (fun a w => ∃ v:(ByteArray × Int),f41.j49 k x0 r1 v=some r∧Rel w0 (fun _ => False) Zi Tryd.f41.ntmps ((fun ((v47,v48):(ByteArray × Int)) => ([(2,.val sh0 (some ((⟨#[]⟩:ByteArray),(iO,(⟨#[]⟩:ByteArray))))),(5,.val sh0 (some (v47,(v48,(ByteArray.extract x0 (tZ (w64 (r1 + (1:Int)))) (ByteArray.size x0))))))]:SS)) v) a w) ?_ ?_
  ·
   refine zi h hF (fun hF => ?_) (fun hF => ?_)
   ·obtain ⟨hc86,hF⟩:=of_if hF
    refine zt [2,5] h (ac hc86 an) fun a w h => ?_
    exact ⟨((ByteArray.extract x0 0 (tZ (w64 (r1 - (1:Int))))),(2:Int)),hF,ar h [2,5]⟩
   ·refine wp_skip ?_
    exact ⟨((ByteArray.extract x0 0 (tZ r1)),(1:Int)),hF,ar h [2,5]⟩
  ·rintro a w ⟨v,hF,h⟩
   obtain ⟨v47,v48⟩:=v
   rw [f41.j49] at hF
   refine wp_seq ?_
   refine zs [2,5,6] h an fun a w h => ?_
   refine wp_block ?_
   refine wp_loop_fuel (f41.l67 k x0 r1 v47 v48) (fun v79 => [(2,.val sh0 (some ((⟨#[]⟩:ByteArray),(iO,(⟨#[]⟩:ByteArray))))),(5,.val sh0 (some (v47,(v48,(ByteArray.extract x0 (tZ (w64 (r1 + (1:Int)))) (ByteArray.size x0)))))),(6,.val iS v79)]) (fun v h => by rw [f41.l67] at h; cases h) ?_ hF (ar h [2,5,6])
   intro m67 v79 a w hF h
   rw [f41.l67] at hF
   refine wp_seq ?_
   refine zs [2,5,6,38] h an fun a w h => ?_
   refine zi h hF (fun hF => ?_) (fun hF => ?_)
   ·refine wp_skip ?_
    refine wp_seq <| wp_block ?_
    obtain ⟨hc82,hF⟩:=of_if hF
    obtain ⟨hc83,hF⟩:=of_if hF
    refine zs [2,5,6,52] h (ac hc82 (ac hc83 an)) fun a w h => ?_
    refine zi h hF (fun hF => ?_) (fun hF => ?_)
    ·refine zs [2,3] h an fun a w h => ?_
     cases hF
     exact wp_ret (ret_okR tok h rfl (by kernel_rfl)).1
    ·refine wp_skip ?_
     refine zt [2,5,6] h an fun a w h => ?_
     exact ⟨(w64 (v79 + (1:Int))),hF,ar h [2,5,6]⟩
   ·refine wp_exit ?_
    obtain ⟨r84,hr85,hF⟩:=of_bind hF
    refine wp_regy_seq tok (orc:=orcL [(57,[⟨.bool,r84⟩])]) (l:=[2,3]) ([],[],[],[]) 4 nw h (by kernel_rfl) (by kernel_rfl) (ac (c42 k v47 r84 hr85) an) fun a w h => ?_
    cases hF
    exact wp_ret (ret_okR tok h rfl (by kernel_rfl)).1
 ·refine wp_skip ?_
  refine wp_seq ?_
  obtain ⟨r90,hr101,hF⟩:=of_bind hF
  refine zc (orcL [(59,[⟨.bool,r90⟩])]) [0,2,59] h (ac (c54 k x0 (⟨#[33]⟩:ByteArray) r90 hr101) an) fun a w h => ?_
  refine zi h hF (fun hF => ?_) (fun hF => ?_)
  ·obtain ⟨hc96,hF⟩:=of_if hF
   obtain ⟨hc97,hF⟩:=of_if hF
   obtain ⟨r95,hr98,hF⟩:=of_bind hF
   refine wp_regy_seq tok (orc:=orcL [(65,[⟨.bool,r95⟩])]) (l:=[2,3]) ([],[],[],[]) 6 nw h (by kernel_rfl) (by kernel_rfl) (ac hc96 (ac hc97 (ac (c42 k (ByteArray.extract x0 (tZ (1:Int)) (ByteArray.size x0)) r95 hr98) an))) fun a w h => ?_
   cases hF
   exact wp_ret (ret_okR tok h rfl (by kernel_rfl)).1
  ·refine wp_skip ?_
   obtain ⟨r99,hr100,hF⟩:=of_bind hF
   refine zc (orcL [(69,[⟨.bool,r99⟩])]) [2,3] h (ac (c42 k x0 r99 hr100) an) fun a w h => ?_
   cases hF
   exact wp_ret (ret_okR tok h rfl (by kernel_rfl)).1
def f17.j53 (k:Nat) (v49:Int) (q29:((List ByteArray) × Int)→Option ((Int × (Int × ((List (ByteArray × (Int × ByteArray))) × (Bool × (ByteArray × (Int × Int)))))) × Bool)):(List ByteArray)→Option ((Int × (Int × ((List (ByteArray × (Int × ByteArray))) × (Bool × (ByteArray × (Int × Int)))))) × Bool)
 | v52 => q29 (v52,(IntKind.i64.wrap (v49 + (1:Int))))
def f17.l86 (k:Nat) (r57:(Int × Bool)) (r58:(Int × Bool)):Nat → ((List ByteArray) × (List (ByteArray × (Int × ByteArray))))→Option ((Int × (Int × ((List (ByteArray × (Int × ByteArray))) × (Bool × (ByteArray × (Int × Int)))))) × Bool)
 | 0,_ => none
 | m86+1,(v105,v106) => if (((decide (((List.length v105:Int):Int) > (0:Int)))=true) → (0 ≤ (0:Int) ∧ (0:Int) < (List.length v105:Int))) then (if (bif (decide (((List.length v105:Int):Int) > (0:Int))) then (!(ByteArray.toList (List.getD v105 (Int.toNat (0:Int)) (⟨#[]⟩:ByteArray)) == ByteArray.toList (⟨#[45,62]⟩:ByteArray))) else false) then (if (0 ≤ (0:Int) ∧ (0:Int) < (List.length v105:Int)) then ((f41 k (List.getD v105 (Int.toNat (0:Int)) (⟨#[]⟩:ByteArray))).bind fun r107 => (if (!r107.2) then (some (((0:Int),((0:Int),(([]:(List (ByteArray × (Int × ByteArray)))),(false,((⟨#[]⟩:ByteArray),((0:Int),(0:Int))))))),false)) else (if ((List.length v106+List.length [r107.1])*40≤140737488355328) then (if (((0:Int) ≤ (1:Int))∧True ∧ (Int.toNat (1:Int)) ≤ (List.length v105) ∧ (List.length v105) ≤ (List.length v105)) then ((f17.l86 k r57 r58) m86 ((List.drop (Int.toNat (1:Int)) (List.take (List.length v105) v105)),(List.append v106 [r107.1]))) else none) else none))) else none) else (if (((((List.length v105:Int):Int) == (2:Int))=true) → (0 ≤ (1:Int) ∧ (1:Int) < (List.length v105:Int))) then (if (bif (((List.length v105:Int):Int) == (2:Int)) then (ByteArray.toList (List.getD v105 (Int.toNat (1:Int)) (⟨#[]⟩:ByteArray)) == ByteArray.toList (⟨#[104,105,100,101]⟩:ByteArray)) else false) then (some ((r57.1,(r58.1,(v106,(true,((⟨#[]⟩:ByteArray),((0:Int),(0:Int))))))),true)) else (if (((((List.length v105:Int):Int) == (5:Int))=true) → (0 ≤ (1:Int) ∧ (1:Int) < (List.length v105:Int))) then (if (((bif (((List.length v105:Int):Int) == (5:Int)) then (ByteArray.toList (List.getD v105 (Int.toNat (1:Int)) (⟨#[]⟩:ByteArray)) == ByteArray.toList (⟨#[100,114,97,119]⟩:ByteArray)) else false)=true) → (0 ≤ (2:Int) ∧ (2:Int) < (List.length v105:Int))) then ((if ((bif (((List.length v105:Int):Int) == (5:Int)) then (ByteArray.toList (List.getD v105 (Int.toNat (1:Int)) (⟨#[]⟩:ByteArray)) == ByteArray.toList (⟨#[100,114,97,119]⟩:ByteArray)) else false)=true) then f42 k (List.getD v105 (Int.toNat (2:Int)) (⟨#[]⟩:ByteArray)) else some default).bind fun r124 => (if (bif (bif (((List.length v105:Int):Int) == (5:Int)) then (ByteArray.toList (List.getD v105 (Int.toNat (1:Int)) (⟨#[]⟩:ByteArray)) == ByteArray.toList (⟨#[100,114,97,119]⟩:ByteArray)) else false) then r124 else false) then (if (0 ≤ (2:Int) ∧ (2:Int) < (List.length v105:Int)) then (if (0 ≤ (3:Int) ∧ (3:Int) < (List.length v105:Int)) then ((f40 k (List.getD v105 (Int.toNat (3:Int)) (⟨#[]⟩:ByteArray)) (1000:Int)).bind fun r125 => (if (!r125.2) then (some (((0:Int),((0:Int),(([]:(List (ByteArray × (Int × ByteArray)))),(false,((⟨#[]⟩:ByteArray),((0:Int),(0:Int))))))),false)) else (if (0 ≤ (4:Int) ∧ (4:Int) < (List.length v105:Int)) then ((f40 k (List.getD v105 (Int.toNat (4:Int)) (⟨#[]⟩:ByteArray)) (1000:Int)).bind fun r126 => (if (!r126.2) then (some (((0:Int),((0:Int),(([]:(List (ByteArray × (Int × ByteArray)))),(false,((⟨#[]⟩:ByteArray),((0:Int),(0:Int))))))),false)) else (some ((r57.1,(r58.1,(v106,(false,((List.getD v105 (Int.toNat (2:Int)) (⟨#[]⟩:ByteArray)),(r125.1,r126.1)))))),true)))) else none))) else none) else none) else (some (((0:Int),((0:Int),(([]:(List (ByteArray × (Int × ByteArray)))),(false,((⟨#[]⟩:ByteArray),((0:Int),(0:Int))))))),false)))) else none) else none)) else none)) else none
def f17.l29 (k:Nat) (r1:(List ByteArray)):Nat → ((List ByteArray) × Int)→Option ((Int × (Int × ((List (ByteArray × (Int × ByteArray))) × (Bool × (ByteArray × (Int × Int)))))) × Bool)
 | 0,_ => none
 | m29+1,(v48,v49) => if (decide (v49 < (List.length r1:Int))) then (if (0≤v49∧v49 < (List.length r1:Int)) then (if (!(ByteArray.toList (List.getD r1 (Int.toNat v49) (⟨#[]⟩:ByteArray)) == ByteArray.toList (⟨#[]⟩:ByteArray))) then (if ((List.length v48+List.length [(List.getD r1 (Int.toNat v49) (⟨#[]⟩:ByteArray))])*16≤140737488355328) then (f17.j53 k v49 ((f17.l29 k r1) m29) (v48 ++ [(List.getD r1 (Int.toNat v49) (⟨#[]⟩:ByteArray))])) else none) else (f17.j53 k v49 ((f17.l29 k r1) m29) v48)) else none) else (if (((decide (((List.length v48:Int):Int) < (4:Int)))=false) → (0 ≤ (0:Int) ∧ (0:Int) < (List.length v48:Int))) then (if (bif (decide (((List.length v48:Int):Int) < (4:Int))) then true else (!(ByteArray.toList (List.getD v48 (Int.toNat (0:Int)) (⟨#[]⟩:ByteArray)) == ByteArray.toList (⟨#[122,111,111,109]⟩:ByteArray)))) then (some (((0:Int),((0:Int),(([]:(List (ByteArray × (Int × ByteArray)))),(false,((⟨#[]⟩:ByteArray),((0:Int),(0:Int))))))),false)) else (if (0 ≤ (1:Int) ∧ (1:Int) < (List.length v48:Int)) then ((f39 k (List.getD v48 (Int.toNat (1:Int)) (⟨#[]⟩:ByteArray)) (⟨#[45]⟩:ByteArray)).bind fun r56 => (if (!r56.2.2) then (some (((0:Int),((0:Int),(([]:(List (ByteArray × (Int × ByteArray)))),(false,((⟨#[]⟩:ByteArray),((0:Int),(0:Int))))))),false)) else ((f40 k r56.1 (10:Int)).bind fun r57 => (if (!r57.2) then (some (((0:Int),((0:Int),(([]:(List (ByteArray × (Int × ByteArray)))),(false,((⟨#[]⟩:ByteArray),((0:Int),(0:Int))))))),false)) else ((f40 k r56.2.1 (10:Int)).bind fun r58 => (if (bif (!r58.2) then true else (decide (r57.1 > r58.1))) then (some (((0:Int),((0:Int),(([]:(List (ByteArray × (Int × ByteArray)))),(false,((⟨#[]⟩:ByteArray),((0:Int),(0:Int))))))),false)) else (if (((0:Int) ≤ (2:Int))∧True ∧ (Int.toNat (2:Int)) ≤ (List.length v48) ∧ (List.length v48) ≤ (List.length v48)) then (f17.l86 k r57 r58 k ((List.drop (Int.toNat (2:Int)) (List.take (List.length v48) v48)),([]:(List (ByteArray × (Int × ByteArray)))))) else none))))))) else none)) else none)
def f17 (k:Nat) (x0:ByteArray):Option ((Int × (Int × ((List (ByteArray × (Int × ByteArray))) × (Bool × (ByteArray × (Int × Int)))))) × Bool):=(f16 k x0 (⟨#[32]⟩:ByteArray)).bind fun r1 => (f17.l29 k r1 k (([]:(List ByteArray)),(0:Int)))
theorem c17 (k:Nat) (x0:ByteArray) (r:((Int × (Int × ((List (ByteArray × (Int × ByteArray))) × (Bool × (ByteArray × (Int × Int)))))) × Bool)) (hF:f17 k x0=some r):PCall Tryd.prog 17 [⟨.str,x0⟩] [⟨sh3,r.1⟩,⟨.bool,r.2⟩]:=by
 refine pcall_intro Tryd.func17 rfl rfl (Nat.le_of_ble_eq_true rfl) ?_
 intro w0 Zi a w h
 rw [f17] at hF
 refine zs [0,2] h an fun a w h => ?_
 refine zs [0,2,4] h an fun a w h => ?_
 refine wp_seq ?_
 obtain ⟨r1,hr143,hF⟩:=of_bind hF
 refine zc (orcL [(14,[⟨(.sl true 9 .str),r1⟩])]) [2,4,14,15,16] h (ac (c16 k x0 (⟨#[32]⟩:ByteArray) r1 hr143) an) fun a w h => ?_
 refine wp_block ?_
 refine wp_loop_fuel (f17.l29 k r1) (fun ((v48,v49):((List ByteArray) × Int)) => [(2,.val sh2 (some (iO,(iO,(([]:(List (ByteArray × (Int × ByteArray)))),(false,((⟨#[]⟩:ByteArray),(iO,iO)))))))),(4,.val (.sl true 9 .str) v48),(14,.val (.sl true 9 .str) r1),(15,.val iS (List.length r1:Int)),(16,.val iS v49)]) (fun v h => by obtain ⟨v48,v49⟩:=v; rw [f17.l29] at h; cases h) ?_ hF (ar h [2,4,14,15,16])
 intro m29 v a w hF h
 obtain ⟨v48,v49⟩:=v
 rw [f17.l29] at hF
 refine zs [2,4,14,15,16,17] h an fun a w h => ?_
 refine wp_seq <| zi h hF (fun hF => ?_) (fun hF => ?_)
 ·refine wp_skip ?_
  refine wp_mid (fun a w => ∃ v:(List ByteArray),f17.j53 k v49 ((f17.l29 k r1) m29) v=some r∧Rel w0 (fun _ => False) Zi Tryd.f17.ntmps ((fun (v52:(List ByteArray)) => ([(2,.val sh2 (some (iO,(iO,(([]:(List (ByteArray × (Int × ByteArray)))),(false,((⟨#[]⟩:ByteArray),(iO,iO)))))))),(4,.val (.sl true 9 .str) v52),(14,.val (.sl true 9 .str) r1),(15,.val iS (List.length r1:Int)),(16,.val iS v49)]:SS)) v) a w) ?_ ?_
  ·
   refine wp_block ?_
   obtain ⟨hc55,hF⟩:=of_if hF
   refine zs [2,4,6,14,15,16] h (ac hc55 an) fun a w h => ?_
   refine zs [2,4,6,14,15,16,21] h an fun a w h => ?_
   refine zi h hF (fun hF => ?_) (fun hF => ?_)
   ·obtain ⟨hc54,hF⟩:=of_if hF
    refine zt [2,4,14,15,16] h (ac hc54 an) fun a w h => ?_
    exact ⟨(v48 ++ [(gD r1 (tZ v49) (⟨#[]⟩:ByteArray))]),hF,ar h [2,4,14,15,16]⟩
   ·refine wp_skip ?_
    exact ⟨v48,hF,ar h [2,4,14,15,16]⟩
  ·rintro a w ⟨v52,hF,h⟩
   rw [f17.j53] at hF
   refine zt [2,4,14,15,16] h an fun a w h => ?_
   exact ⟨(v52,(w64 (v49 + (1:Int)))),hF,ar h [2,4,14,15,16]⟩
 ·refine wp_exit ?_
  refine wp_seq ?_
  obtain ⟨hc142,hF⟩:=of_if hF
  refine zs [2,4,35] h (ac hc142 an) fun a w h => ?_
  refine zi h hF (fun hF => ?_) (fun hF => ?_)
  ·refine zs [2,3] h an fun a w h => ?_
   cases hF
   exact wp_ret (ret_okR tok h rfl (by kernel_rfl)).1
  ·refine wp_skip ?_
   refine zs [2,4,7] h an fun a w h => ?_
   obtain ⟨hc140,hF⟩:=of_if hF
   obtain ⟨r56,hr141,hF⟩:=of_bind hF
   refine zc (orcL [(41,[⟨.str,r56.1⟩,⟨.str,r56.2.1⟩,⟨.bool,r56.2.2⟩])]) [2,4,7,8,9,10] h (ac hc140 (ac (c39 k (gD v48 (tZ (1:Int)) (⟨#[]⟩:ByteArray)) (⟨#[45]⟩:ByteArray) r56 hr141) an)) fun a w h => ?_
   refine wp_seq ?_
   refine zs [2,4,7,8,9,46] h an fun a w h => ?_
   refine zi h hF (fun hF => ?_) (fun hF => ?_)
   ·refine zs [2,3] h an fun a w h => ?_
    cases hF
    exact wp_ret (ret_okR tok h rfl (by kernel_rfl)).1
   ·refine wp_skip ?_
    refine wp_seq ?_
    obtain ⟨r57,hr139,hF⟩:=of_bind hF
    refine zc (orcL [(50,[⟨iS,r57.1⟩,⟨.bool,r57.2⟩])]) [2,4,7,9,10] h (ac (c40 k r56.1 (10:Int) r57 hr139) an) fun a w h => ?_
    refine zs [2,4,7,9,55] h an fun a w h => ?_
    refine zi h hF (fun hF => ?_) (fun hF => ?_)
    ·refine zs [2,3] h an fun a w h => ?_
     cases hF
     exact wp_ret (ret_okR tok h rfl (by kernel_rfl)).1
    ·refine wp_skip ?_
     refine wp_seq ?_
     obtain ⟨r58,hr138,hF⟩:=of_bind hF
     refine zc (orcL [(59,[⟨iS,r58.1⟩,⟨.bool,r58.2⟩])]) [2,4,7,10] h (ac (c40 k r56.2.1 (10:Int) r58 hr138) an) fun a w h => ?_
     refine zs [2,4,7,71] h an fun a w h => ?_
     refine zi h hF (fun hF => ?_) (fun hF => ?_)
     ·refine zs [2,3] h an fun a w h => ?_
      cases hF
      exact wp_ret (ret_okR tok h rfl (by kernel_rfl)).1
     ·refine wp_skip ?_
      obtain ⟨hc137,hF⟩:=of_if hF
      refine wp_reg_seq tok (orc:=o0) (fz:=[4]) (l:=[2,4,7]) (.inr fun i h => h) h (by kernel_rfl) (ac hc137 an) fun a w h => ?_
      refine wp_seq <| wp_block ?_
      refine wp_loop_fuel (f17.l86 k r57 r58) (fun ((v105,v106):((List ByteArray) × (List (ByteArray × (Int × ByteArray))))) => [(2,.val sh2 (some (iO,(iO,(([]:(List (ByteArray × (Int × ByteArray)))),(false,((⟨#[]⟩:ByteArray),(iO,iO)))))))),(4,.val (.sl false 9 .str) v105),(7,.val sh2 (some (r57.1,(r58.1,(v106,(false,((⟨#[]⟩:ByteArray),(iO,iO))))))))]) (fun v h => by obtain ⟨v105,v106⟩:=v; rw [f17.l86] at h; cases h) ?_ hF (ar h [2,4,7])
      intro m86 v a w hF h
      obtain ⟨v105,v106⟩:=v
      rw [f17.l86] at hF
      refine wp_seq ?_
      obtain ⟨hc136,hF⟩:=of_if hF
      refine zs [2,4,7,83] h (ac hc136 an) fun a w h => ?_
      refine zi h hF (fun hF => ?_) (fun hF => ?_)
      ·refine wp_skip ?_
       refine wp_block ?_
       obtain ⟨hc110,hF⟩:=of_if hF
       obtain ⟨r107,hr111,hF⟩:=of_bind hF
       refine zc (orcL [(88,[⟨sh1,r107.1⟩,⟨.bool,r107.2⟩])]) [2,4,7,11,12] h (ac hc110 (ac (c41 k (gD v105 (tZ iO) (⟨#[]⟩:ByteArray)) r107 hr111) an)) fun a w h => ?_
       refine wp_seq ?_
       refine zs [2,4,7,11,92] h an fun a w h => ?_
       refine zi h hF (fun hF => ?_) (fun hF => ?_)
       ·refine zs [2,3] h an fun a w h => ?_
        cases hF
        exact wp_ret (ret_okR tok h rfl (by kernel_rfl)).1
       ·refine wp_skip ?_
        obtain ⟨hc109,hF⟩:=of_if hF
        refine zc (orcL [(98,[⟨.pt false 4294967293 .unit,some ()⟩])]) [2,4,7] h (ac (PrefL.mk (l:=[[.der,.snd,.snd,.fst],[.der,.snd,.snd,.fst]]) (p:=[.der,.snd,.snd,.fst]) rfl) (ac hc109 (ac (show ([.der,.snd,.snd,.fst]:Path)=[.der,.snd,.snd,.fst] from rfl) an))) fun a w h => ?_
        obtain ⟨hc108,hF⟩:=of_if hF
        refine zt [2,4,7] h (ac hc108 an) fun a w h => ?_
        exact ⟨((List.drop (tZ (1:Int)) (List.take (List.length v105) v105)),(List.append v106 [r107.1])),hF,ar h [2,4,7]⟩
      ·refine wp_exit ?_
       refine wp_seq <| wp_block ?_
       obtain ⟨hc135,hF⟩:=of_if hF
       refine zs [2,4,7,102] h (ac hc135 an) fun a w h => ?_
       refine zi h hF (fun hF => ?_) (fun hF => ?_)
       ·refine zs [2,7] h an fun a w h => ?_
        refine zs [2,3] h an fun a w h => ?_
        cases hF
        exact wp_ret (ret_okR tok h rfl (by kernel_rfl)).1
       ·obtain ⟨hc132,hF⟩:=of_if hF
        obtain ⟨hc133,hF⟩:=of_if hF
        obtain ⟨r124,hr134,hF⟩:=of_bind hF
        refine zc (orcL [(128,[⟨.bool,r124⟩])]) [2,4,7,114] h (ac hc132 (ac hc133 (ac (fun (hg:((bif (((List.length v105:Int):Int) == (5:Int)) then (ByteArray.toList (gD v105 (tZ (1:Int)) (⟨#[]⟩:ByteArray)) == ByteArray.toList (⟨#[100,114,97,119]⟩:ByteArray)) else false)=true)) => c42 k (gD v105 (tZ (2:Int)) (⟨#[]⟩:ByteArray)) r124 (of_g hg hr134)) an))) fun a w h => ?_
        refine zi h hF (fun hF => ?_) (fun hF => ?_)
        ·obtain ⟨hc131,hF⟩:=of_if hF
         refine zs [2,4,7] h (ac hc131 an) fun a w h => ?_
         refine wp_seq ?_
         obtain ⟨hc129,hF⟩:=of_if hF
         obtain ⟨r125,hr130,hF⟩:=of_bind hF
         refine zc (orcL [(138,[⟨iS,r125.1⟩,⟨.bool,r125.2⟩])]) [2,4,7,10] h (ac hc129 (ac (c40 k (gD v105 (tZ (3:Int)) (⟨#[]⟩:ByteArray)) (1000:Int) r125 hr130) an)) fun a w h => ?_
         refine zs [2,4,7,143] h an fun a w h => ?_
         refine zi h hF (fun hF => ?_) (fun hF => ?_)
         ·refine zs [2,3] h an fun a w h => ?_
          cases hF
          exact wp_ret (ret_okR tok h rfl (by kernel_rfl)).1
         ·refine wp_skip ?_
          refine wp_seq ?_
          obtain ⟨hc127,hF⟩:=of_if hF
          obtain ⟨r126,hr128,hF⟩:=of_bind hF
          refine zc (orcL [(149,[⟨iS,r126.1⟩,⟨.bool,r126.2⟩])]) [2,7,10] h (ac hc127 (ac (c40 k (gD v105 (tZ (4:Int)) (⟨#[]⟩:ByteArray)) (1000:Int) r126 hr128) an)) fun a w h => ?_
          refine zs [2,7,154] h an fun a w h => ?_
          refine zi h hF (fun hF => ?_) (fun hF => ?_)
          ·refine zs [2,3] h an fun a w h => ?_
           cases hF
           exact wp_ret (ret_okR tok h rfl (by kernel_rfl)).1
          ·refine wp_skip ?_
           refine zs [2,3] h an fun a w h => ?_
           cases hF
           exact wp_ret (ret_okR tok h rfl (by kernel_rfl)).1
        ·refine wp_skip ?_
         refine zs [2,3] h an fun a w h => ?_
         cases hF
         exact wp_ret (ret_okR tok h rfl (by kernel_rfl)).1
def f6.j86 (k:Nat) (v79:Int) (q47:((List (Int × (Int × ((List (ByteArray × (Int × ByteArray))) × (Bool × (ByteArray × (Int × Int))))))) × Int)→Option ((List (Int × (Int × ((List (ByteArray × (Int × ByteArray))) × (Bool × (ByteArray × (Int × Int))))))) × Int)):(List (Int × (Int × ((List (ByteArray × (Int × ByteArray))) × (Bool × (ByteArray × (Int × Int)))))))→Option ((List (Int × (Int × ((List (ByteArray × (Int × ByteArray))) × (Bool × (ByteArray × (Int × Int))))))) × Int)
 | v85 => q47 (v85,(IntKind.i64.wrap (v79 + (1:Int))))
def f6.l47 (k:Nat) (r1:(List ByteArray)):Nat → ((List (Int × (Int × ((List (ByteArray × (Int × ByteArray))) × (Bool × (ByteArray × (Int × Int))))))) × Int)→Option ((List (Int × (Int × ((List (ByteArray × (Int × ByteArray))) × (Bool × (ByteArray × (Int × Int))))))) × Int)
 | 0,_ => none
 | m47+1,(v78,v79) => if (decide (v79 < (List.length r1:Int))) then (if (0≤v79∧v79 < (List.length r1:Int)) then (if (((ByteArray.toList (List.getD r1 (Int.toNat v79) (⟨#[]⟩:ByteArray)) == ByteArray.toList (⟨#[]⟩:ByteArray))=false) → ((0:Int) ≤ (0:Int) ∧ ((0:Int):Int) < (ByteArray.size (List.getD r1 (Int.toNat v79) (⟨#[]⟩:ByteArray)):Int))) then (if (bif (ByteArray.toList (List.getD r1 (Int.toNat v79) (⟨#[]⟩:ByteArray)) == ByteArray.toList (⟨#[]⟩:ByteArray)) then true else (((byteAt (List.getD r1 (Int.toNat v79) (⟨#[]⟩:ByteArray)) (0:Int)):Int) == (35:Int))) then (f6.j86 k v79 ((f6.l47 k r1) m47) v78) else ((f17 k (List.getD r1 (Int.toNat v79) (⟨#[]⟩:ByteArray))).bind fun r87 => (if (bif (!r87.2) then true else (((List.length v78:Int):Int) == (100:Int))) then (some (([]:(List (Int × (Int × ((List (ByteArray × (Int × ByteArray))) × (Bool × (ByteArray × (Int × Int)))))))),(IntKind.i64.wrap (v79 + (1:Int))))) else (if ((List.length v78+List.length [r87.1])*80≤140737488355328) then (f6.j86 k v79 ((f6.l47 k r1) m47) (v78 ++ [r87.1])) else none)))) else none) else none) else (some (v78,(0:Int)))
def f6 (k:Nat) (x0:ByteArray):Option ((List (Int × (Int × ((List (ByteArray × (Int × ByteArray))) × (Bool × (ByteArray × (Int × Int))))))) × Int):=if (decide (((ByteArray.size x0:Int):Int) > (4000:Int))) then (some (([]:(List (Int × (Int × ((List (ByteArray × (Int × ByteArray))) × (Bool × (ByteArray × (Int × Int)))))))),(-1:Int))) else ((f16 k x0 (⟨#[10]⟩:ByteArray)).bind fun r1 => (f6.l47 k r1 k (([]:(List (Int × (Int × ((List (ByteArray × (Int × ByteArray))) × (Bool × (ByteArray × (Int × Int)))))))),(0:Int))))
theorem c6 (k:Nat) (x0:ByteArray) (r:((List (Int × (Int × ((List (ByteArray × (Int × ByteArray))) × (Bool × (ByteArray × (Int × Int))))))) × Int)) (hF:f6 k x0=some r):PCall Tryd.prog 6 [⟨.str,x0⟩] [⟨sh6,r.1⟩,⟨iS,r.2⟩]:=by
 refine pcall_intro Tryd.func6 rfl rfl (Nat.le_of_ble_eq_true rfl) ?_
 intro w0 Zi a w h
 rw [f6] at hF
 refine zs [0] h an fun a w h => ?_
 refine wp_seq ?_
 refine zs [0,11] h an fun a w h => ?_
 refine zi h hF (fun hF => ?_) (fun hF => ?_)
 ·refine zs [2,3] h an fun a w h => ?_
  cases hF
  exact wp_ret (ret_okR tok h rfl (by kernel_rfl)).1
 ·refine wp_skip ?_
  refine zs [0,4] h an fun a w h => ?_
  refine wp_seq ?_
  obtain ⟨r1,hr92,hF⟩:=of_bind hF
  refine zc (orcL [(13,[⟨(.sl true 9 .str),r1⟩])]) [4,13,14,15] h (ac (c16 k x0 (⟨#[10]⟩:ByteArray) r1 hr92) an) fun a w h => ?_
  refine wp_block ?_
  refine wp_loop_fuel (f6.l47 k r1) (fun ((v78,v79):((List (Int × (Int × ((List (ByteArray × (Int × ByteArray))) × (Bool × (ByteArray × (Int × Int))))))) × Int)) => [(4,.val sh6 v78),(13,.val (.sl true 9 .str) r1),(14,.val iS (List.length r1:Int)),(15,.val iS v79)]) (fun v h => by obtain ⟨v78,v79⟩:=v; rw [f6.l47] at h; cases h) ?_ hF (ar h [4,13,14,15])
  intro m47 v a w hF h
  obtain ⟨v78,v79⟩:=v
  rw [f6.l47] at hF
  refine zs [4,13,14,15,16] h an fun a w h => ?_
  refine wp_seq <| zi h hF (fun hF => ?_) (fun hF => ?_)
  ·refine wp_skip ?_
   refine wp_mid (fun a w => ∃ v:(List (Int × (Int × ((List (ByteArray × (Int × ByteArray))) × (Bool × (ByteArray × (Int × Int))))))),f6.j86 k v79 ((f6.l47 k r1) m47) v=some r∧Rel w0 (fun _ => False) Zi Tryd.f6.ntmps ((fun (v85:(List (Int × (Int × ((List (ByteArray × (Int × ByteArray))) × (Bool × (ByteArray × (Int × Int)))))))) => ([(4,.val sh6 v85),(13,.val (.sl true 9 .str) r1),(14,.val iS (List.length r1:Int)),(15,.val iS v79)]:SS)) v) a w) ?_ ?_
   ·
    refine wp_block ?_
    obtain ⟨hc91,hF⟩:=of_if hF
    refine zs [4,5,6,13,14,15] h (ac hc91 an) fun a w h => ?_
    refine wp_seq ?_
    obtain ⟨hc90,hF⟩:=of_if hF
    refine zs [4,5,6,13,14,15,26] h (ac hc90 an) fun a w h => ?_
    refine zi h hF (fun hF => ?_) (fun hF => ?_)
    ·refine wp_exit ?_
     exact ⟨v78,hF,ar h [4,13,14,15]⟩
    ·refine wp_skip ?_
     obtain ⟨r87,hr89,hF⟩:=of_bind hF
     refine zc (orcL [(29,[⟨sh3,r87.1⟩,⟨.bool,r87.2⟩]),(27,[⟨.pt false 4294967292 .unit,some ()⟩])]) [4,5,7,8,13,14,15] h (ac (c17 k (gD r1 (tZ v79) (⟨#[]⟩:ByteArray)) r87 hr89) an) fun a w h => ?_
     refine wp_seq ?_
     refine zs [4,5,7,13,14,15,38] h an fun a w h => ?_
     refine zi h hF (fun hF => ?_) (fun hF => ?_)
     ·refine zs [2,3] h an fun a w h => ?_
      cases hF
      exact wp_ret (ret_okR tok h rfl (by kernel_rfl)).1
     ·refine wp_skip ?_
      obtain ⟨hc88,hF⟩:=of_if hF
      refine zt [4,13,14,15] h (ac hc88 an) fun a w h => ?_
      exact ⟨(v78 ++ [r87.1]),hF,ar h [4,13,14,15]⟩
   ·rintro a w ⟨v85,hF,h⟩
    rw [f6.j86] at hF
    refine zt [4,13,14,15] h an fun a w h => ?_
    exact ⟨(v85,(w64 (v79 + (1:Int)))),hF,ar h [4,13,14,15]⟩
  ·refine wp_exit ?_
   refine zs [2,3,4] h an fun a w h => ?_
   cases hF
   exact wp_ret (ret_okR tok h rfl (by kernel_rfl)).1
def f55 (k:Nat) (x0:(ByteArray × (Int × ByteArray))) (x1:(ByteArray × (Int × ByteArray))):Option Bool:=if (!(ByteArray.toList x0.1 == ByteArray.toList x1.1)) then (some false) else (if (x0.2.1 != x1.2.1) then (some false) else (if (!(ByteArray.toList x0.2.2 == ByteArray.toList x1.2.2)) then (some false) else (some true)))
theorem c55 (k:Nat) (x0:(ByteArray × (Int × ByteArray))) (x1:(ByteArray × (Int × ByteArray))) (r:Bool) (hF:f55 k x0 x1=some r):PCall Tryd.prog 55 [⟨sh1,x0⟩,⟨sh1,x1⟩] [⟨.bool,r⟩]:=by
 refine pcall_intro Tryd.func55 rfl rfl (Nat.le_of_ble_eq_true rfl) ?_
 intro w0 Zi a w h
 rw [f55] at hF
 refine zs [2,3] h an fun a w h => ?_
 refine wp_seq ?_
 refine zs [2,3,9] h an fun a w h => ?_
 refine zi h hF (fun hF => ?_) (fun hF => ?_)
 ·refine zs [4] h an fun a w h => ?_
  cases hF
  exact wp_ret (ret_okR tok h rfl (by kernel_rfl)).1
 ·refine wp_skip ?_
  refine wp_seq ?_
  refine zs [2,3,14] h an fun a w h => ?_
  refine zi h hF (fun hF => ?_) (fun hF => ?_)
  ·refine zs [4] h an fun a w h => ?_
   cases hF
   exact wp_ret (ret_okR tok h rfl (by kernel_rfl)).1
  ·refine wp_skip ?_
   refine wp_seq ?_
   refine zs [19] h an fun a w h => ?_
   refine zi h hF (fun hF => ?_) (fun hF => ?_)
   ·refine zs [4] h an fun a w h => ?_
    cases hF
    exact wp_ret (ret_okR tok h rfl (by kernel_rfl)).1
   ·refine wp_skip ?_
    refine zs [4] h an fun a w h => ?_
    cases hF
    exact wp_ret (ret_okR tok h rfl (by kernel_rfl)).1
def f43.l30 (k:Nat) (x0:(List (ByteArray × (Int × ByteArray)))) (x1:(List (ByteArray × (Int × ByteArray)))):Nat→Int→Option Bool
 | 0,_ => none
 | m30+1,v50 => if (decide (v50 < (List.length x0:Int))) then (if (0≤v50∧v50 < (List.length x0:Int)) then (if (0≤v50∧v50 < (List.length x1:Int)) then ((f55 k (List.getD x0 (Int.toNat v50) ((⟨#[]⟩:ByteArray),((0:Int),(⟨#[]⟩:ByteArray)))) (List.getD x1 (Int.toNat v50) ((⟨#[]⟩:ByteArray),((0:Int),(⟨#[]⟩:ByteArray))))).bind fun r55 => (if (!r55) then (some false) else ((f43.l30 k x0 x1) m30 (IntKind.i64.wrap (v50 + (1:Int)))))) else none) else none) else (some true)
def f43 (k:Nat) (x0:(List (ByteArray × (Int × ByteArray)))) (x1:(List (ByteArray × (Int × ByteArray)))):Option Bool:=if (((List.length x0:Int):Int) != (List.length x1:Int)) then (some false) else (f43.l30 k x0 x1 k (0:Int))
theorem c43 (k:Nat) (x0:(List (ByteArray × (Int × ByteArray)))) (x1:(List (ByteArray × (Int × ByteArray)))) (r:Bool) (hF:f43 k x0 x1=some r):PCall Tryd.prog 43 [⟨sh7,x0⟩,⟨sh7,x1⟩] [⟨.bool,r⟩]:=by
 refine pcall_intro Tryd.func43 rfl rfl (Nat.le_of_ble_eq_true rfl) ?_
 intro w0 Zi a w h
 rw [f43] at hF
 refine zs [0,1] h an fun a w h => ?_
 refine wp_seq ?_
 refine zs [0,1,10] h an fun a w h => ?_
 refine zi h hF (fun hF => ?_) (fun hF => ?_)
 ·refine zs [4] h an fun a w h => ?_
  cases hF
  exact wp_ret (ret_okR tok h rfl (by kernel_rfl)).1
 ·refine wp_skip ?_
  refine wp_seq ?_
  refine zs [0,1,5] h an fun a w h => ?_
  refine wp_block ?_
  refine wp_loop_fuel (f43.l30 k x0 x1) (fun v50 => [(0,.val sh7 x0),(1,.val sh7 x1),(5,.val iS v50)]) (fun v h => by rw [f43.l30] at h; cases h) ?_ hF (ar h [0,1,5])
  intro m30 v50 a w hF h
  rw [f43.l30] at hF
  refine wp_seq ?_
  refine zs [0,1,5,14] h an fun a w h => ?_
  refine zi h hF (fun hF => ?_) (fun hF => ?_)
  ·refine wp_skip ?_
   refine wp_seq <| wp_block ?_
   obtain ⟨hc56,hF⟩:=of_if hF
   obtain ⟨hc57,hF⟩:=of_if hF
   obtain ⟨r55,hr58,hF⟩:=of_bind hF
   refine wp_regy_seq tok (orc:=orcL [(25,[⟨.bool,r55⟩])]) (l:=[0,1,5,26]) ([],[],[],[]) 10 nw h (by kernel_rfl) (by kernel_rfl) (ac hc56 (ac hc57 (ac (c55 k (gD x0 (tZ v50) ((⟨#[]⟩:ByteArray),(iO,(⟨#[]⟩:ByteArray)))) (gD x1 (tZ v50) ((⟨#[]⟩:ByteArray),(iO,(⟨#[]⟩:ByteArray)))) r55 hr58) an))) fun a w h => ?_
   refine zi h hF (fun hF => ?_) (fun hF => ?_)
   ·refine zs [4] h an fun a w h => ?_
    cases hF
    exact wp_ret (ret_okR tok h rfl (by kernel_rfl)).1
   ·refine wp_skip ?_
    refine zt [0,1,5] h an fun a w h => ?_
    exact ⟨(w64 (v50 + (1:Int))),hF,ar h [0,1,5]⟩
  ·refine wp_exit ?_
   refine zs [4] h an fun a w h => ?_
   cases hF
   exact wp_ret (ret_okR tok h rfl (by kernel_rfl)).1
def f18 (k:Nat) (x0:(Int × (Int × ((List (ByteArray × (Int × ByteArray))) × (Bool × (ByteArray × (Int × Int))))))) (x1:(Int × (Int × ((List (ByteArray × (Int × ByteArray))) × (Bool × (ByteArray × (Int × Int))))))):Option Bool:=if (x0.1 != x1.1) then (some false) else (if (x0.2.1 != x1.2.1) then (some false) else ((f43 k x0.2.2.1 x1.2.2.1).bind fun r1 => (if (!r1) then (some false) else (if (!((x0.2.2.2.1:Bool) == x1.2.2.2.1)) then (some false) else (if (!(ByteArray.toList x0.2.2.2.2.1 == ByteArray.toList x1.2.2.2.2.1)) then (some false) else (if (x0.2.2.2.2.2.1 != x1.2.2.2.2.2.1) then (some false) else (if (x0.2.2.2.2.2.2 != x1.2.2.2.2.2.2) then (some false) else (some true))))))))
theorem c18 (k:Nat) (x0:(Int × (Int × ((List (ByteArray × (Int × ByteArray))) × (Bool × (ByteArray × (Int × Int))))))) (x1:(Int × (Int × ((List (ByteArray × (Int × ByteArray))) × (Bool × (ByteArray × (Int × Int))))))) (r:Bool) (hF:f18 k x0 x1=some r):PCall Tryd.prog 18 [⟨sh4,x0⟩,⟨sh4,x1⟩] [⟨.bool,r⟩]:=by
 refine pcall_intro Tryd.func18 rfl rfl (Nat.le_of_ble_eq_true rfl) ?_
 intro w0 Zi a w h
 rw [f18] at hF
 refine zs [2,3] h an fun a w h => ?_
 refine wp_seq ?_
 refine zs [2,3,9] h an fun a w h => ?_
 refine zi h hF (fun hF => ?_) (fun hF => ?_)
 ·refine zs [4] h an fun a w h => ?_
  cases hF
  exact wp_ret (ret_okR tok h rfl (by kernel_rfl)).1
 ·refine wp_skip ?_
  refine wp_seq ?_
  refine zs [2,3,14] h an fun a w h => ?_
  refine zi h hF (fun hF => ?_) (fun hF => ?_)
  ·refine zs [4] h an fun a w h => ?_
   cases hF
   exact wp_ret (ret_okR tok h rfl (by kernel_rfl)).1
  ·refine wp_skip ?_
   refine wp_seq ?_
   obtain ⟨r1,hr2,hF⟩:=of_bind hF
   refine zc (orcL [(19,[⟨.bool,r1⟩])]) [2,3,20] h (ac (c43 k x0.2.2.1 x1.2.2.1 r1 hr2) an) fun a w h => ?_
   refine zi h hF (fun hF => ?_) (fun hF => ?_)
   ·refine zs [4] h an fun a w h => ?_
    cases hF
    exact wp_ret (ret_okR tok h rfl (by kernel_rfl)).1
   ·refine wp_skip ?_
    refine wp_seq ?_
    refine zs [2,3,25] h an fun a w h => ?_
    refine zi h hF (fun hF => ?_) (fun hF => ?_)
    ·refine zs [4] h an fun a w h => ?_
     cases hF
     exact wp_ret (ret_okR tok h rfl (by kernel_rfl)).1
    ·refine wp_skip ?_
     refine wp_seq ?_
     refine zs [2,3,30] h an fun a w h => ?_
     refine zi h hF (fun hF => ?_) (fun hF => ?_)
     ·refine zs [4] h an fun a w h => ?_
      cases hF
      exact wp_ret (ret_okR tok h rfl (by kernel_rfl)).1
     ·refine wp_skip ?_
      refine wp_seq ?_
      refine zs [2,3,35] h an fun a w h => ?_
      refine zi h hF (fun hF => ?_) (fun hF => ?_)
      ·refine zs [4] h an fun a w h => ?_
       cases hF
       exact wp_ret (ret_okR tok h rfl (by kernel_rfl)).1
      ·refine wp_skip ?_
       refine wp_seq ?_
       refine zs [40] h an fun a w h => ?_
       refine zi h hF (fun hF => ?_) (fun hF => ?_)
       ·refine zs [4] h an fun a w h => ?_
        cases hF
        exact wp_ret (ret_okR tok h rfl (by kernel_rfl)).1
       ·refine wp_skip ?_
        refine zs [4] h an fun a w h => ?_
        cases hF
        exact wp_ret (ret_okR tok h rfl (by kernel_rfl)).1
def f7.l30 (k:Nat) (x0:(List (Int × (Int × ((List (ByteArray × (Int × ByteArray))) × (Bool × (ByteArray × (Int × Int)))))))) (x1:(List (Int × (Int × ((List (ByteArray × (Int × ByteArray))) × (Bool × (ByteArray × (Int × Int)))))))):Nat→Int→Option Bool
 | 0,_ => none
 | m30+1,v50 => if (decide (v50 < (List.length x0:Int))) then (if (0≤v50∧v50 < (List.length x0:Int)) then (if (0≤v50∧v50 < (List.length x1:Int)) then ((f18 k (List.getD x0 (Int.toNat v50) ((0:Int),((0:Int),(([]:(List (ByteArray × (Int × ByteArray)))),(false,((⟨#[]⟩:ByteArray),((0:Int),(0:Int)))))))) (List.getD x1 (Int.toNat v50) ((0:Int),((0:Int),(([]:(List (ByteArray × (Int × ByteArray)))),(false,((⟨#[]⟩:ByteArray),((0:Int),(0:Int))))))))).bind fun r55 => (if (!r55) then (some false) else ((f7.l30 k x0 x1) m30 (IntKind.i64.wrap (v50 + (1:Int)))))) else none) else none) else (some true)
def f7 (k:Nat) (x0:(List (Int × (Int × ((List (ByteArray × (Int × ByteArray))) × (Bool × (ByteArray × (Int × Int)))))))) (x1:(List (Int × (Int × ((List (ByteArray × (Int × ByteArray))) × (Bool × (ByteArray × (Int × Int)))))))):Option Bool:=if (((List.length x0:Int):Int) != (List.length x1:Int)) then (some false) else (f7.l30 k x0 x1 k (0:Int))
theorem c7 (k:Nat) (x0:(List (Int × (Int × ((List (ByteArray × (Int × ByteArray))) × (Bool × (ByteArray × (Int × Int)))))))) (x1:(List (Int × (Int × ((List (ByteArray × (Int × ByteArray))) × (Bool × (ByteArray × (Int × Int)))))))) (r:Bool) (hF:f7 k x0 x1=some r):PCall Tryd.prog 7 [⟨sh8,x0⟩,⟨sh8,x1⟩] [⟨.bool,r⟩]:=by
 refine pcall_intro Tryd.func7 rfl rfl (Nat.le_of_ble_eq_true rfl) ?_
 intro w0 Zi a w h
 rw [f7] at hF
 refine zs [0,1] h an fun a w h => ?_
 refine wp_seq ?_
 refine zs [0,1,10] h an fun a w h => ?_
 refine zi h hF (fun hF => ?_) (fun hF => ?_)
 ·refine zs [4] h an fun a w h => ?_
  cases hF
  exact wp_ret (ret_okR tok h rfl (by kernel_rfl)).1
 ·refine wp_skip ?_
  refine wp_seq ?_
  refine zs [0,1,5] h an fun a w h => ?_
  refine wp_block ?_
  refine wp_loop_fuel (f7.l30 k x0 x1) (fun v50 => [(0,.val sh8 x0),(1,.val sh8 x1),(5,.val iS v50)]) (fun v h => by rw [f7.l30] at h; cases h) ?_ hF (ar h [0,1,5])
  intro m30 v50 a w hF h
  rw [f7.l30] at hF
  refine wp_seq ?_
  refine zs [0,1,5,14] h an fun a w h => ?_
  refine zi h hF (fun hF => ?_) (fun hF => ?_)
  ·refine wp_skip ?_
   refine wp_seq <| wp_block ?_
   obtain ⟨hc56,hF⟩:=of_if hF
   obtain ⟨hc57,hF⟩:=of_if hF
   obtain ⟨r55,hr58,hF⟩:=of_bind hF
   refine wp_regy_seq tok (orc:=orcL [(25,[⟨.bool,r55⟩])]) (l:=[0,1,5,26]) ([],[],[],[]) 10 nw h (by kernel_rfl) (by kernel_rfl) (ac hc56 (ac hc57 (ac (c18 k (gD x0 (tZ v50) (iO,(iO,(([]:(List (ByteArray × (Int × ByteArray)))),(false,((⟨#[]⟩:ByteArray),(iO,iO))))))) (gD x1 (tZ v50) (iO,(iO,(([]:(List (ByteArray × (Int × ByteArray)))),(false,((⟨#[]⟩:ByteArray),(iO,iO))))))) r55 hr58) an))) fun a w h => ?_
   refine zi h hF (fun hF => ?_) (fun hF => ?_)
   ·refine zs [4] h an fun a w h => ?_
    cases hF
    exact wp_ret (ret_okR tok h rfl (by kernel_rfl)).1
   ·refine wp_skip ?_
    refine zt [0,1,5] h an fun a w h => ?_
    exact ⟨(w64 (v50 + (1:Int))),hF,ar h [0,1,5]⟩
  ·refine wp_exit ?_
   refine zs [4] h an fun a w h => ?_
   cases hF
   exact wp_ret (ret_okR tok h rfl (by kernel_rfl)).1
def f20.l19 (k:Nat):Nat → (Int × ByteArray)→Option ByteArray
 | 0,_ => none
 | m19+1,(v32,v33) => if (decide (v32 > (0:Int))) then (if (((10:Int):Int)≠0) then (if (ByteArray.size (strOfNums [(IntKind.u8.wrap (IntKind.i64.wrap ((48:Int) + (Int.tmod v32 (10:Int)))))])+ByteArray.size v33≤9223372036854775807) then (if (((10:Int):Int)≠0) then ((f20.l19 k) m19 ((IntKind.i64.wrap (Int.tdiv v32 (10:Int))),((strOfNums [(IntKind.u8.wrap (IntKind.i64.wrap ((48:Int) + (Int.tmod v32 (10:Int)))))]) ++ v33))) else none) else none) else none) else (if (ByteArray.size (⟨#[109]⟩:ByteArray)+ByteArray.size v33≤9223372036854775807) then (some ((⟨#[109]⟩:ByteArray) ++ v33)) else none)
def f20 (k:Nat) (x0:Int):Option ByteArray:=if (decide (x0 ≤ (0:Int))) then (some (⟨#[109,48]⟩:ByteArray)) else (f20.l19 k k (x0,(⟨#[]⟩:ByteArray)))
theorem c20 (k:Nat) (x0:Int) (r:ByteArray) (hF:f20 k x0=some r):PCall Tryd.prog 20 [⟨iS,x0⟩] [⟨.str,r⟩]:=by
 refine pcall_intro Tryd.func20 rfl rfl (Nat.le_of_ble_eq_true rfl) ?_
 intro w0 Zi a w h
 rw [f20] at hF
 refine zs [0] h an fun a w h => ?_
 refine wp_seq ?_
 refine zs [0,5] h an fun a w h => ?_
 refine zi h hF (fun hF => ?_) (fun hF => ?_)
 ·refine zs [2] h an fun a w h => ?_
  cases hF
  exact wp_ret (ret_okR tok h rfl (by kernel_rfl)).1
 ·refine wp_skip ?_
  refine zs [0,3] h an fun a w h => ?_
  refine wp_seq <| wp_block ?_
  refine wp_loop_fuel (f20.l19 k) (fun ((v32,v33):(Int × ByteArray)) => [(0,.val iS v32),(3,.val .str v33)]) (fun v h => by obtain ⟨v32,v33⟩:=v; rw [f20.l19] at h; cases h) ?_ hF (ar h [0,3])
  intro m19 v a w hF h
  obtain ⟨v32,v33⟩:=v
  rw [f20.l19] at hF
  refine wp_seq ?_
  refine zs [0,3,7] h an fun a w h => ?_
  refine zi h hF (fun hF => ?_) (fun hF => ?_)
  ·refine wp_skip ?_
   refine wp_block ?_
   obtain ⟨hc35,hF⟩:=of_if hF
   obtain ⟨hc36,hF⟩:=of_if hF
   refine zs [0,3] h (ac hc35 (ac hc36 an)) fun a w h => ?_
   obtain ⟨hc34,hF⟩:=of_if hF
   refine zt [0,3] h (ac hc34 an) fun a w h => ?_
   exact ⟨((w64 (Int.tdiv v32 (10:Int))),((strOfNums [(IntKind.u8.wrap (w64 ((48:Int) + (Int.tmod v32 (10:Int)))))]) ++ v33)),hF,ar h [0,3]⟩
  ·refine wp_exit ?_
   obtain ⟨hc37,hF⟩:=of_if hF
   refine zs [2] h (ac hc37 an) fun a w h => ?_
   cases hF
   exact wp_ret (ret_okR tok h rfl (by kernel_rfl)).1
def f19.l68 (k:Nat):Nat → ((List (ByteArray × (Int × ByteArray))) × Int × Int)→Option (Int × (List (ByteArray × (Int × ByteArray))))
 | 0,_ => none
 | m68+1,(v114,v115,v116) => if (decide (v116 < (List.length v114:Int))) then ((f20 k v115).bind fun r126 => (if (0≤v116∧v116 < (List.length v114:Int)) then (if (0≤v116∧v116 < (List.length (List.set v114 (Int.toNat v116) (r126,(List.getD v114 (Int.toNat v116) ((⟨#[]⟩:ByteArray),((0:Int),(⟨#[]⟩:ByteArray)))).2)):Int)) then ((some ((List.set (List.set v114 (Int.toNat v116) (r126,(List.getD v114 (Int.toNat v116) ((⟨#[]⟩:ByteArray),((0:Int),(⟨#[]⟩:ByteArray)))).2)) (Int.toNat v116) ((List.getD (List.set v114 (Int.toNat v116) (r126,(List.getD v114 (Int.toNat v116) ((⟨#[]⟩:ByteArray),((0:Int),(⟨#[]⟩:ByteArray)))).2)) (Int.toNat v116) ((⟨#[]⟩:ByteArray),((0:Int),(⟨#[]⟩:ByteArray)))).1,((IntKind.i64.wrap (v115 + (1:Int))),(List.getD (List.set v114 (Int.toNat v116) (r126,(List.getD v114 (Int.toNat v116) ((⟨#[]⟩:ByteArray),((0:Int),(⟨#[]⟩:ByteArray)))).2)) (Int.toNat v116) ((⟨#[]⟩:ByteArray),((0:Int),(⟨#[]⟩:ByteArray)))).2.2))):(List (ByteArray × (Int × ByteArray))))).bind fun v127 => ((f20 k (IntKind.i64.wrap ((IntKind.i64.wrap (v115 + (1:Int))) + (1:Int)))).bind fun r128 => (if (0≤v116∧v116 < (List.length v127:Int)) then ((f19.l68 k) m68 ((List.set v127 (Int.toNat v116) ((List.getD v127 (Int.toNat v116) ((⟨#[]⟩:ByteArray),((0:Int),(⟨#[]⟩:ByteArray)))).1,((List.getD v127 (Int.toNat v116) ((⟨#[]⟩:ByteArray),((0:Int),(⟨#[]⟩:ByteArray)))).2.1,r128))),(IntKind.i64.wrap ((IntKind.i64.wrap ((IntKind.i64.wrap (v115 + (1:Int))) + (1:Int))) + (1:Int))),(IntKind.i64.wrap (v116 + (1:Int))))) else none))) else none) else none)) else (some (v115,v114))
def f19 (k:Nat) (x0:(List (ByteArray × (Int × ByteArray)))) (x1:Int):Option (Int × (List (ByteArray × (Int × ByteArray)))):=f19.l68 k k (x0,x1,(0:Int))
theorem c19 (k:Nat) (x0:(List (ByteArray × (Int × ByteArray)))) (x1:Int) (r:(Int × (List (ByteArray × (Int × ByteArray))))) (hF:f19 k x0 x1=some r):PMut Tryd.prog 19 [⟨sh9,x0⟩,⟨iS,x1⟩] [⟨iS,r.1⟩] (List.set [⟨sh9,x0⟩,⟨iS,x1⟩] 0 ⟨sh9,r.2⟩):=by
 refine pmut_intro (j:=0) (fin:=⟨sh9,r.2⟩) Tryd.func19 rfl rfl (Nat.le_of_ble_eq_true rfl) (Nat.le_of_ble_eq_true rfl) (by kernel_rfl) ?_
 intro w0 Zi f0 v0 a w h
 rw [f19] at hF
 refine wp_reg_seq tok (orc:=o0) (fz:=[]) (l:=[0,1]) (.inl rfl) h (by kernel_rfl) an fun a w h => ?_
 refine wp_seq ?_
 refine wp_reg_seq tok (orc:=o0) (fz:=[]) (l:=[0,1,5]) (.inl rfl) h (by kernel_rfl) an fun a w h => ?_
 refine wp_block ?_
 refine wp_loop_fuel (f19.l68 k) (fun ((v114,v115,v116):((List (ByteArray × (Int × ByteArray))) × Int × Int)) => [(0,.val sh9 v114),(1,.val iS v115),(5,.val iS v116)]) (fun v h => by obtain ⟨v114,v115,v116⟩:=v; rw [f19.l68] at h; cases h) ?_ hF (h.arrive (fz:=[]) (l:=[0,1,5]) (.inl rfl) (by kernel_rfl))
 intro m68 v a w hF h
 obtain ⟨v114,v115,v116⟩:=v
 rw [f19.l68] at hF
 refine wp_seq ?_
 refine wp_reg_seq tok (orc:=o0) (fz:=[]) (l:=[0,1,5,9]) (.inl rfl) h (by kernel_rfl) an fun a w h => ?_
 refine zi h hF (fun hF => ?_) (fun hF => ?_)
 ·refine wp_skip ?_
  refine wp_seq <| wp_block ?_
  obtain ⟨r126,hr133,hF⟩:=of_bind hF
  obtain ⟨hc134,hF⟩:=of_if hF
  refine wp_reg_seq tok (orc:=orcL [(15,[⟨.str,r126⟩])]) (fz:=[]) (l:=[0,1,5]) (.inl rfl) h (by kernel_rfl) (ac (c20 k v115 r126 hr133) (ac hc134 an)) fun a w h => ?_
  refine wp_reg_seq tok (orc:=o0) (fz:=[]) (l:=[0,1,5]) (.inl rfl) h (by kernel_rfl) an fun a w h => ?_
  obtain ⟨hc132,hF⟩:=of_if hF
  refine wp_reg_seq tok (orc:=o0) (fz:=[]) (l:=[0,1,5]) (.inl rfl) h (by kernel_rfl) (ac hc132 an) fun a w h => ?_
  obtain ⟨v127,hv131,hF⟩:=of_bind hF
  replace h:=h.cast (S':=[(0,.val sh9 v127),(1,.val iS (w64 (v115 + (1:Int)))),(5,.val iS v116)]) (by cases hv131; kernel_rfl)
  refine wp_reg_seq tok (orc:=o0) (fz:=[]) (l:=[0,1,5]) (.inl rfl) h (by kernel_rfl) an fun a w h => ?_
  obtain ⟨r128,hr129,hF⟩:=of_bind hF
  obtain ⟨hc130,hF⟩:=of_if hF
  refine wp_reg_seq tok (orc:=orcL [(30,[⟨.str,r128⟩])]) (fz:=[]) (l:=[0,1,5]) (.inl rfl) h (by kernel_rfl) (ac (c20 k (w64 ((w64 (v115 + (1:Int))) + (1:Int))) r128 hr129) (ac hc130 an)) fun a w h => ?_
  refine wp_reg tok (orc:=o0) (fz:=[]) (l:=[0,1,5]) (.inl rfl) h (by kernel_rfl) an fun a w h => ?_
  refine wp_reg tok (orc:=o0) (fz:=[]) (l:=[0,1,5]) (.inl rfl) h (by kernel_rfl) an fun a w h => ?_
  exact ⟨((List.set v127 (tZ v116) ((gD v127 (tZ v116) ((⟨#[]⟩:ByteArray),(iO,(⟨#[]⟩:ByteArray)))).1,((gD v127 (tZ v116) ((⟨#[]⟩:ByteArray),(iO,(⟨#[]⟩:ByteArray)))).2.1,r128))),(w64 ((w64 ((w64 (v115 + (1:Int))) + (1:Int))) + (1:Int))),(w64 (v116 + (1:Int)))),hF,h.arrive (fz:=[]) (l:=[0,1,5]) (.inl rfl) (by kernel_rfl)⟩
 ·refine wp_exit ?_
  refine wp_reg_seq tok (orc:=o0) (fz:=[]) (l:=[0,4]) (.inl rfl) h (by kernel_rfl) an fun a w h => ?_
  cases hF
  exact wp_ret (retM_ok tok h rfl (by kernel_rfl) (by kernel_rfl)).1
def f8.l158 (k:Nat):Nat → ((List (Int × (Int × ((List (ByteArray × (Int × ByteArray))) × (Bool × (ByteArray × (Int × Int))))))) × Int × Int)→Option (Int × (List (Int × (Int × ((List (ByteArray × (Int × ByteArray))) × (Bool × (ByteArray × (Int × Int))))))))
 | 0,_ => none
 | m158+1,(v264,v265,v266) => if (decide (v266 < (List.length v264:Int))) then (if (0≤v266∧v266 < (List.length v264:Int)) then (if (0≤v266∧v266 < (List.length (List.set v264 (Int.toNat v266) (v265,(List.getD v264 (Int.toNat v266) ((0:Int),((0:Int),(([]:(List (ByteArray × (Int × ByteArray)))),(false,((⟨#[]⟩:ByteArray),((0:Int),(0:Int)))))))).2)):Int)) then ((some ((List.set (List.set v264 (Int.toNat v266) (v265,(List.getD v264 (Int.toNat v266) ((0:Int),((0:Int),(([]:(List (ByteArray × (Int × ByteArray)))),(false,((⟨#[]⟩:ByteArray),((0:Int),(0:Int)))))))).2)) (Int.toNat v266) ((List.getD (List.set v264 (Int.toNat v266) (v265,(List.getD v264 (Int.toNat v266) ((0:Int),((0:Int),(([]:(List (ByteArray × (Int × ByteArray)))),(false,((⟨#[]⟩:ByteArray),((0:Int),(0:Int)))))))).2)) (Int.toNat v266) ((0:Int),((0:Int),(([]:(List (ByteArray × (Int × ByteArray)))),(false,((⟨#[]⟩:ByteArray),((0:Int),(0:Int)))))))).1,((IntKind.i64.wrap (v265 + (1:Int))),(List.getD (List.set v264 (Int.toNat v266) (v265,(List.getD v264 (Int.toNat v266) ((0:Int),((0:Int),(([]:(List (ByteArray × (Int × ByteArray)))),(false,((⟨#[]⟩:ByteArray),((0:Int),(0:Int)))))))).2)) (Int.toNat v266) ((0:Int),((0:Int),(([]:(List (ByteArray × (Int × ByteArray)))),(false,((⟨#[]⟩:ByteArray),((0:Int),(0:Int)))))))).2.2))):(List (Int × (Int × ((List (ByteArray × (Int × ByteArray))) × (Bool × (ByteArray × (Int × Int))))))))).bind fun v291 => (if (0≤v266∧v266 < (List.length v291:Int)) then ((f19 k (List.getD v291 (Int.toNat v266) ((0:Int),((0:Int),(([]:(List (ByteArray × (Int × ByteArray)))),(false,((⟨#[]⟩:ByteArray),((0:Int),(0:Int)))))))).2.2.1 (IntKind.i64.wrap ((IntKind.i64.wrap (v265 + (1:Int))) + (1:Int)))).bind fun r292 => ((some ((List.set v291 (Int.toNat v266) ((List.getD v291 (Int.toNat v266) ((0:Int),((0:Int),(([]:(List (ByteArray × (Int × ByteArray)))),(false,((⟨#[]⟩:ByteArray),((0:Int),(0:Int)))))))).1,((List.getD v291 (Int.toNat v266) ((0:Int),((0:Int),(([]:(List (ByteArray × (Int × ByteArray)))),(false,((⟨#[]⟩:ByteArray),((0:Int),(0:Int)))))))).2.1,(r292.2,(List.getD v291 (Int.toNat v266) ((0:Int),((0:Int),(([]:(List (ByteArray × (Int × ByteArray)))),(false,((⟨#[]⟩:ByteArray),((0:Int),(0:Int)))))))).2.2.2)))):(List (Int × (Int × ((List (ByteArray × (Int × ByteArray))) × (Bool × (ByteArray × (Int × Int))))))))).bind fun v293 => (if (((3:Int):Int)≠0) then (if (0≤v266∧v266 < (List.length v293:Int)) then ((some ((List.set v293 (Int.toNat v266) ((List.getD v293 (Int.toNat v266) ((0:Int),((0:Int),(([]:(List (ByteArray × (Int × ByteArray)))),(false,((⟨#[]⟩:ByteArray),((0:Int),(0:Int)))))))).1,((List.getD v293 (Int.toNat v266) ((0:Int),((0:Int),(([]:(List (ByteArray × (Int × ByteArray)))),(false,((⟨#[]⟩:ByteArray),((0:Int),(0:Int)))))))).2.1,((List.getD v293 (Int.toNat v266) ((0:Int),((0:Int),(([]:(List (ByteArray × (Int × ByteArray)))),(false,((⟨#[]⟩:ByteArray),((0:Int),(0:Int)))))))).2.2.1,((((Int.tmod r292.1 (3:Int)):Int) == (0:Int)),(List.getD v293 (Int.toNat v266) ((0:Int),((0:Int),(([]:(List (ByteArray × (Int × ByteArray)))),(false,((⟨#[]⟩:ByteArray),((0:Int),(0:Int)))))))).2.2.2.2))))):(List (Int × (Int × ((List (ByteArray × (Int × ByteArray))) × (Bool × (ByteArray × (Int × Int))))))))).bind fun v294 => ((f20 k (IntKind.i64.wrap (r292.1 + (1:Int)))).bind fun r295 => (if (0≤v266∧v266 < (List.length v294:Int)) then ((some ((List.set v294 (Int.toNat v266) ((List.getD v294 (Int.toNat v266) ((0:Int),((0:Int),(([]:(List (ByteArray × (Int × ByteArray)))),(false,((⟨#[]⟩:ByteArray),((0:Int),(0:Int)))))))).1,((List.getD v294 (Int.toNat v266) ((0:Int),((0:Int),(([]:(List (ByteArray × (Int × ByteArray)))),(false,((⟨#[]⟩:ByteArray),((0:Int),(0:Int)))))))).2.1,((List.getD v294 (Int.toNat v266) ((0:Int),((0:Int),(([]:(List (ByteArray × (Int × ByteArray)))),(false,((⟨#[]⟩:ByteArray),((0:Int),(0:Int)))))))).2.2.1,((List.getD v294 (Int.toNat v266) ((0:Int),((0:Int),(([]:(List (ByteArray × (Int × ByteArray)))),(false,((⟨#[]⟩:ByteArray),((0:Int),(0:Int)))))))).2.2.2.1,(r295,(List.getD v294 (Int.toNat v266) ((0:Int),((0:Int),(([]:(List (ByteArray × (Int × ByteArray)))),(false,((⟨#[]⟩:ByteArray),((0:Int),(0:Int)))))))).2.2.2.2.2)))))):(List (Int × (Int × ((List (ByteArray × (Int × ByteArray))) × (Bool × (ByteArray × (Int × Int))))))))).bind fun v296 => (if (0≤v266∧v266 < (List.length v296:Int)) then ((some ((List.set v296 (Int.toNat v266) ((List.getD v296 (Int.toNat v266) ((0:Int),((0:Int),(([]:(List (ByteArray × (Int × ByteArray)))),(false,((⟨#[]⟩:ByteArray),((0:Int),(0:Int)))))))).1,((List.getD v296 (Int.toNat v266) ((0:Int),((0:Int),(([]:(List (ByteArray × (Int × ByteArray)))),(false,((⟨#[]⟩:ByteArray),((0:Int),(0:Int)))))))).2.1,((List.getD v296 (Int.toNat v266) ((0:Int),((0:Int),(([]:(List (ByteArray × (Int × ByteArray)))),(false,((⟨#[]⟩:ByteArray),((0:Int),(0:Int)))))))).2.2.1,((List.getD v296 (Int.toNat v266) ((0:Int),((0:Int),(([]:(List (ByteArray × (Int × ByteArray)))),(false,((⟨#[]⟩:ByteArray),((0:Int),(0:Int)))))))).2.2.2.1,((List.getD v296 (Int.toNat v266) ((0:Int),((0:Int),(([]:(List (ByteArray × (Int × ByteArray)))),(false,((⟨#[]⟩:ByteArray),((0:Int),(0:Int)))))))).2.2.2.2.1,((IntKind.i64.wrap ((IntKind.i64.wrap (r292.1 + (1:Int))) + (1:Int))),(List.getD v296 (Int.toNat v266) ((0:Int),((0:Int),(([]:(List (ByteArray × (Int × ByteArray)))),(false,((⟨#[]⟩:ByteArray),((0:Int),(0:Int)))))))).2.2.2.2.2.2))))))):(List (Int × (Int × ((List (ByteArray × (Int × ByteArray))) × (Bool × (ByteArray × (Int × Int))))))))).bind fun v297 => (if (0≤v266∧v266 < (List.length v297:Int)) then ((some ((List.set v297 (Int.toNat v266) ((List.getD v297 (Int.toNat v266) ((0:Int),((0:Int),(([]:(List (ByteArray × (Int × ByteArray)))),(false,((⟨#[]⟩:ByteArray),((0:Int),(0:Int)))))))).1,((List.getD v297 (Int.toNat v266) ((0:Int),((0:Int),(([]:(List (ByteArray × (Int × ByteArray)))),(false,((⟨#[]⟩:ByteArray),((0:Int),(0:Int)))))))).2.1,((List.getD v297 (Int.toNat v266) ((0:Int),((0:Int),(([]:(List (ByteArray × (Int × ByteArray)))),(false,((⟨#[]⟩:ByteArray),((0:Int),(0:Int)))))))).2.2.1,((List.getD v297 (Int.toNat v266) ((0:Int),((0:Int),(([]:(List (ByteArray × (Int × ByteArray)))),(false,((⟨#[]⟩:ByteArray),((0:Int),(0:Int)))))))).2.2.2.1,((List.getD v297 (Int.toNat v266) ((0:Int),((0:Int),(([]:(List (ByteArray × (Int × ByteArray)))),(false,((⟨#[]⟩:ByteArray),((0:Int),(0:Int)))))))).2.2.2.2.1,((List.getD v297 (Int.toNat v266) ((0:Int),((0:Int),(([]:(List (ByteArray × (Int × ByteArray)))),(false,((⟨#[]⟩:ByteArray),((0:Int),(0:Int)))))))).2.2.2.2.2.1,(IntKind.i64.wrap ((IntKind.i64.wrap ((IntKind.i64.wrap (r292.1 + (1:Int))) + (1:Int))) + (1:Int)))))))))):(List (Int × (Int × ((List (ByteArray × (Int × ByteArray))) × (Bool × (ByteArray × (Int × Int))))))))).bind fun v298 => ((f8.l158 k) m158 (v298,(IntKind.i64.wrap ((IntKind.i64.wrap ((IntKind.i64.wrap ((IntKind.i64.wrap (r292.1 + (1:Int))) + (1:Int))) + (1:Int))) + (1:Int))),(IntKind.i64.wrap (v266 + (1:Int)))))) else none)) else none)) else none))) else none) else none))) else none)) else none) else none) else (some (v265,v264))
def f8 (k:Nat) (x0:(List (Int × (Int × ((List (ByteArray × (Int × ByteArray))) × (Bool × (ByteArray × (Int × Int)))))))) (x1:Int):Option (Int × (List (Int × (Int × ((List (ByteArray × (Int × ByteArray))) × (Bool × (ByteArray × (Int × Int)))))))):=f8.l158 k k (x0,x1,(0:Int))
theorem c8 (k:Nat) (x0:(List (Int × (Int × ((List (ByteArray × (Int × ByteArray))) × (Bool × (ByteArray × (Int × Int)))))))) (x1:Int) (r:(Int × (List (Int × (Int × ((List (ByteArray × (Int × ByteArray))) × (Bool × (ByteArray × (Int × Int))))))))) (hF:f8 k x0 x1=some r):PMut Tryd.prog 8 [⟨sh6,x0⟩,⟨iS,x1⟩] [⟨iS,r.1⟩] (List.set [⟨sh6,x0⟩,⟨iS,x1⟩] 0 ⟨sh6,r.2⟩):=by
 refine pmut_intro (j:=0) (fin:=⟨sh6,r.2⟩) Tryd.func8 rfl rfl (Nat.le_of_ble_eq_true rfl) (Nat.le_of_ble_eq_true rfl) (by kernel_rfl) ?_
 intro w0 Zi f0 v0 a w h
 rw [f8] at hF
 refine wp_reg_seq tok (orc:=o0) (fz:=[]) (l:=[0,1]) (.inl rfl) h (by kernel_rfl) an fun a w h => ?_
 refine wp_seq ?_
 refine wp_reg_seq tok (orc:=o0) (fz:=[]) (l:=[0,1,5]) (.inl rfl) h (by kernel_rfl) an fun a w h => ?_
 refine wp_block ?_
 refine wp_loop_fuel (f8.l158 k) (fun ((v264,v265,v266):((List (Int × (Int × ((List (ByteArray × (Int × ByteArray))) × (Bool × (ByteArray × (Int × Int))))))) × Int × Int)) => [(0,.val sh6 v264),(1,.val iS v265),(5,.val iS v266)]) (fun v h => by obtain ⟨v264,v265,v266⟩:=v; rw [f8.l158] at h; cases h) ?_ hF (h.arrive (fz:=[]) (l:=[0,1,5]) (.inl rfl) (by kernel_rfl))
 intro m158 v a w hF h
 obtain ⟨v264,v265,v266⟩:=v
 rw [f8.l158] at hF
 refine wp_seq ?_
 refine wp_reg_seq tok (orc:=o0) (fz:=[]) (l:=[0,1,5,9]) (.inl rfl) h (by kernel_rfl) an fun a w h => ?_
 refine zi h hF (fun hF => ?_) (fun hF => ?_)
 ·refine wp_skip ?_
  refine wp_seq <| wp_block ?_
  obtain ⟨hc314,hF⟩:=of_if hF
  refine wp_reg_seq tok (orc:=o0) (fz:=[]) (l:=[0,1,5]) (.inl rfl) h (by kernel_rfl) (ac hc314 an) fun a w h => ?_
  refine wp_reg_seq tok (orc:=o0) (fz:=[]) (l:=[0,1,5]) (.inl rfl) h (by kernel_rfl) an fun a w h => ?_
  obtain ⟨hc313,hF⟩:=of_if hF
  refine wp_reg_seq tok (orc:=o0) (fz:=[]) (l:=[0,1,5]) (.inl rfl) h (by kernel_rfl) (ac hc313 an) fun a w h => ?_
  obtain ⟨v291,hv312,hF⟩:=of_bind hF
  replace h:=h.cast (S':=[(0,.val sh6 v291),(1,.val iS (w64 (v265 + (1:Int)))),(5,.val iS v266)]) (by cases hv312; kernel_rfl)
  refine wp_reg_seq tok (orc:=o0) (fz:=[]) (l:=[0,1,5]) (.inl rfl) h (by kernel_rfl) an fun a w h => ?_
  obtain ⟨hc310,hF⟩:=of_if hF
  obtain ⟨r292,hr311,hF⟩:=of_bind hF
  refine wp_reg_seq tok (orc:=orcL [(32,[⟨.pt false 4294967295 (.sl true 53 (.st (.pair .str (.pair iS .str)))),some r292.2⟩,⟨iS,r292.1⟩])]) (fz:=[]) (l:=[0,1,5]) (.inl rfl) h (by kernel_rfl) (ac hc310 (ac (c19 k (gD v291 (tZ v266) (iO,(iO,(([]:(List (ByteArray × (Int × ByteArray)))),(false,((⟨#[]⟩:ByteArray),(iO,iO))))))).2.2.1 (w64 ((w64 (v265 + (1:Int))) + (1:Int))) r292 hr311) an)) fun a w h => ?_
  obtain ⟨v293,hv309,hF⟩:=of_bind hF
  replace h:=h.cast (S':=[(0,.val sh6 v293),(1,.val iS r292.1),(5,.val iS v266)]) (by cases hv309; kernel_rfl)
  obtain ⟨hc307,hF⟩:=of_if hF
  obtain ⟨hc308,hF⟩:=of_if hF
  refine wp_reg_seq tok (orc:=o0) (fz:=[]) (l:=[0,1,5]) (.inl rfl) h (by kernel_rfl) (ac hc307 (ac hc308 an)) fun a w h => ?_
  obtain ⟨v294,hv306,hF⟩:=of_bind hF
  replace h:=h.cast (S':=[(0,.val sh6 v294),(1,.val iS r292.1),(5,.val iS v266)]) (by cases hv306; kernel_rfl)
  refine wp_reg_seq tok (orc:=o0) (fz:=[]) (l:=[0,1,5]) (.inl rfl) h (by kernel_rfl) an fun a w h => ?_
  obtain ⟨r295,hr304,hF⟩:=of_bind hF
  obtain ⟨hc305,hF⟩:=of_if hF
  refine wp_reg_seq tok (orc:=orcL [(45,[⟨.str,r295⟩])]) (fz:=[]) (l:=[0,1,5]) (.inl rfl) h (by kernel_rfl) (ac (c20 k (w64 (r292.1 + (1:Int))) r295 hr304) (ac hc305 an)) fun a w h => ?_
  obtain ⟨v296,hv303,hF⟩:=of_bind hF
  replace h:=h.cast (S':=[(0,.val sh6 v296),(1,.val iS (w64 (r292.1 + (1:Int)))),(5,.val iS v266)]) (by cases hv303; kernel_rfl)
  refine wp_reg_seq tok (orc:=o0) (fz:=[]) (l:=[0,1,5]) (.inl rfl) h (by kernel_rfl) an fun a w h => ?_
  obtain ⟨hc302,hF⟩:=of_if hF
  refine wp_reg_seq tok (orc:=o0) (fz:=[]) (l:=[0,1,5]) (.inl rfl) h (by kernel_rfl) (ac hc302 an) fun a w h => ?_
  obtain ⟨v297,hv301,hF⟩:=of_bind hF
  replace h:=h.cast (S':=[(0,.val sh6 v297),(1,.val iS (w64 ((w64 (r292.1 + (1:Int))) + (1:Int)))),(5,.val iS v266)]) (by cases hv301; kernel_rfl)
  refine wp_reg_seq tok (orc:=o0) (fz:=[]) (l:=[0,1,5]) (.inl rfl) h (by kernel_rfl) an fun a w h => ?_
  obtain ⟨hc300,hF⟩:=of_if hF
  refine wp_reg_seq tok (orc:=o0) (fz:=[]) (l:=[0,1,5]) (.inl rfl) h (by kernel_rfl) (ac hc300 an) fun a w h => ?_
  obtain ⟨v298,hv299,hF⟩:=of_bind hF
  replace h:=h.cast (S':=[(0,.val sh6 v298),(1,.val iS (w64 ((w64 ((w64 (r292.1 + (1:Int))) + (1:Int))) + (1:Int)))),(5,.val iS v266)]) (by cases hv299; kernel_rfl)
  refine wp_reg tok (orc:=o0) (fz:=[]) (l:=[0,1,5]) (.inl rfl) h (by kernel_rfl) an fun a w h => ?_
  refine wp_reg tok (orc:=o0) (fz:=[]) (l:=[0,1,5]) (.inl rfl) h (by kernel_rfl) an fun a w h => ?_
  exact ⟨(v298,(w64 ((w64 ((w64 ((w64 (r292.1 + (1:Int))) + (1:Int))) + (1:Int))) + (1:Int))),(w64 (v266 + (1:Int)))),hF,h.arrive (fz:=[]) (l:=[0,1,5]) (.inl rfl) (by kernel_rfl)⟩
 ·refine wp_exit ?_
  refine wp_reg_seq tok (orc:=o0) (fz:=[]) (l:=[0,4]) (.inl rfl) h (by kernel_rfl) an fun a w h => ?_
  cases hF
  exact wp_ret (retM_ok tok h rfl (by kernel_rfl) (by kernel_rfl)).1
def f21.l52 (k:Nat) (x0:(List (ByteArray × (Int × ByteArray)))):Nat → (Int × Int)→Option Int
 | 0,_ => none
 | m52+1,(v87,v88) => if (decide (v88 < (List.length x0:Int))) then (if (0≤v88∧v88 < (List.length x0:Int)) then ((f20 k v87).bind fun r96 => (if (!(ByteArray.toList (List.getD x0 (Int.toNat v88) ((⟨#[]⟩:ByteArray),((0:Int),(⟨#[]⟩:ByteArray)))).1 == ByteArray.toList r96)) then (some (-1:Int)) else (if (0≤v88∧v88 < (List.length x0:Int)) then (if (((List.getD x0 (Int.toNat v88) ((⟨#[]⟩:ByteArray),((0:Int),(⟨#[]⟩:ByteArray)))).2.1:Int) != (IntKind.i64.wrap (v87 + (1:Int)))) then (some (-1:Int)) else (if (0≤v88∧v88 < (List.length x0:Int)) then ((f20 k (IntKind.i64.wrap ((IntKind.i64.wrap (v87 + (1:Int))) + (1:Int)))).bind fun r97 => (if (!(ByteArray.toList (List.getD x0 (Int.toNat v88) ((⟨#[]⟩:ByteArray),((0:Int),(⟨#[]⟩:ByteArray)))).2.2 == ByteArray.toList r97)) then (some (-1:Int)) else ((f21.l52 k x0) m52 ((IntKind.i64.wrap ((IntKind.i64.wrap ((IntKind.i64.wrap (v87 + (1:Int))) + (1:Int))) + (1:Int))),(IntKind.i64.wrap (v88 + (1:Int))))))) else none)) else none))) else none) else (some v87)
def f21 (k:Nat) (x0:(List (ByteArray × (Int × ByteArray)))) (x1:Int):Option Int:=f21.l52 k x0 k (x1,(0:Int))
theorem c21 (k:Nat) (x0:(List (ByteArray × (Int × ByteArray)))) (x1:Int) (r:Int) (hF:f21 k x0 x1=some r):PCall Tryd.prog 21 [⟨sh7,x0⟩,⟨iS,x1⟩] [⟨iS,r⟩]:=by
 refine pcall_intro Tryd.func21 rfl rfl (Nat.le_of_ble_eq_true rfl) ?_
 intro w0 Zi a w h
 rw [f21] at hF
 refine zs [0,1] h an fun a w h => ?_
 refine wp_seq ?_
 refine zs [0,1,5] h an fun a w h => ?_
 refine wp_block ?_
 refine wp_loop_fuel (f21.l52 k x0) (fun ((v87,v88):(Int × Int)) => [(0,.val sh7 x0),(1,.val iS v87),(5,.val iS v88)]) (fun v h => by obtain ⟨v87,v88⟩:=v; rw [f21.l52] at h; cases h) ?_ hF (ar h [0,1,5])
 intro m52 v a w hF h
 obtain ⟨v87,v88⟩:=v
 rw [f21.l52] at hF
 refine wp_seq ?_
 refine zs [0,1,5,9] h an fun a w h => ?_
 refine zi h hF (fun hF => ?_) (fun hF => ?_)
 ·refine wp_skip ?_
  refine wp_seq <| wp_block ?_
  refine wp_seq ?_
  obtain ⟨hc101,hF⟩:=of_if hF
  obtain ⟨r96,hr102,hF⟩:=of_bind hF
  refine wp_regy_seq tok (orc:=orcL [(18,[⟨.str,r96⟩])]) (l:=[0,1,5,19]) ([],[],[],[]) 8 nw h (by kernel_rfl) (by kernel_rfl) (ac hc101 (ac (c20 k v87 r96 hr102) an)) fun a w h => ?_
  refine zi h hF (fun hF => ?_) (fun hF => ?_)
  ·refine zs [4] h an fun a w h => ?_
   cases hF
   exact wp_ret (ret_okR tok h rfl (by kernel_rfl)).1
  ·refine wp_skip ?_
   refine zs [0,1,5] h an fun a w h => ?_
   refine wp_seq ?_
   obtain ⟨hc100,hF⟩:=of_if hF
   refine zs [0,1,5,28] h (ac hc100 an) fun a w h => ?_
   refine zi h hF (fun hF => ?_) (fun hF => ?_)
   ·refine zs [4] h an fun a w h => ?_
    cases hF
    exact wp_ret (ret_okR tok h rfl (by kernel_rfl)).1
   ·refine wp_skip ?_
    refine zs [0,1,5] h an fun a w h => ?_
    refine wp_seq ?_
    obtain ⟨hc98,hF⟩:=of_if hF
    obtain ⟨r97,hr99,hF⟩:=of_bind hF
    refine wp_regy_seq tok (orc:=orcL [(37,[⟨.str,r97⟩])]) (l:=[0,1,5,38]) ([],[],[],[]) 8 nw h (by kernel_rfl) (by kernel_rfl) (ac hc98 (ac (c20 k (w64 ((w64 (v87 + (1:Int))) + (1:Int))) r97 hr99) an)) fun a w h => ?_
    refine zi h hF (fun hF => ?_) (fun hF => ?_)
    ·refine zs [4] h an fun a w h => ?_
     cases hF
     exact wp_ret (ret_okR tok h rfl (by kernel_rfl)).1
    ·refine wp_skip ?_
     refine zt [0,1,5] h an fun a w h => ?_
     refine zt [0,1,5] h an fun a w h => ?_
     exact ⟨((w64 ((w64 ((w64 (v87 + (1:Int))) + (1:Int))) + (1:Int))),(w64 (v88 + (1:Int)))),hF,ar h [0,1,5]⟩
 ·refine wp_exit ?_
  refine zs [4] h an fun a w h => ?_
  cases hF
  exact wp_ret (ret_okR tok h rfl (by kernel_rfl)).1
def f9.l82 (k:Nat) (x0:(List (Int × (Int × ((List (ByteArray × (Int × ByteArray))) × (Bool × (ByteArray × (Int × Int)))))))):Nat → (Int × Int)→Option Int
 | 0,_ => none
 | m82+1,(v137,v138) => if (decide (v138 < (List.length x0:Int))) then (if (0≤v138∧v138 < (List.length x0:Int)) then (if (((List.getD x0 (Int.toNat v138) ((0:Int),((0:Int),(([]:(List (ByteArray × (Int × ByteArray)))),(false,((⟨#[]⟩:ByteArray),((0:Int),(0:Int)))))))).1:Int) != v137) then (some (-1:Int)) else (if (0≤v138∧v138 < (List.length x0:Int)) then (if (((List.getD x0 (Int.toNat v138) ((0:Int),((0:Int),(([]:(List (ByteArray × (Int × ByteArray)))),(false,((⟨#[]⟩:ByteArray),((0:Int),(0:Int)))))))).2.1:Int) != (IntKind.i64.wrap (v137 + (1:Int)))) then (some (-1:Int)) else (if (0≤v138∧v138 < (List.length x0:Int)) then ((f21 k (List.getD x0 (Int.toNat v138) ((0:Int),((0:Int),(([]:(List (ByteArray × (Int × ByteArray)))),(false,((⟨#[]⟩:ByteArray),((0:Int),(0:Int)))))))).2.2.1 (IntKind.i64.wrap ((IntKind.i64.wrap (v137 + (1:Int))) + (1:Int)))).bind fun r151 => (if (decide (r151 < (0:Int))) then (some (-1:Int)) else (if (0≤v138∧v138 < (List.length x0:Int)) then (if (((3:Int):Int)≠0) then (if (!(((List.getD x0 (Int.toNat v138) ((0:Int),((0:Int),(([]:(List (ByteArray × (Int × ByteArray)))),(false,((⟨#[]⟩:ByteArray),((0:Int),(0:Int)))))))).2.2.2.1:Bool) == (((Int.tmod r151 (3:Int)):Int) == (0:Int)))) then (some (-1:Int)) else (if (0≤v138∧v138 < (List.length x0:Int)) then ((f20 k (IntKind.i64.wrap (r151 + (1:Int)))).bind fun r152 => (if (!(ByteArray.toList (List.getD x0 (Int.toNat v138) ((0:Int),((0:Int),(([]:(List (ByteArray × (Int × ByteArray)))),(false,((⟨#[]⟩:ByteArray),((0:Int),(0:Int)))))))).2.2.2.2.1 == ByteArray.toList r152)) then (some (-1:Int)) else (if (0≤v138∧v138 < (List.length x0:Int)) then (if (((List.getD x0 (Int.toNat v138) ((0:Int),((0:Int),(([]:(List (ByteArray × (Int × ByteArray)))),(false,((⟨#[]⟩:ByteArray),((0:Int),(0:Int)))))))).2.2.2.2.2.1:Int) != (IntKind.i64.wrap ((IntKind.i64.wrap (r151 + (1:Int))) + (1:Int)))) then (some (-1:Int)) else (if (0≤v138∧v138 < (List.length x0:Int)) then (if (((List.getD x0 (Int.toNat v138) ((0:Int),((0:Int),(([]:(List (ByteArray × (Int × ByteArray)))),(false,((⟨#[]⟩:ByteArray),((0:Int),(0:Int)))))))).2.2.2.2.2.2:Int) != (IntKind.i64.wrap ((IntKind.i64.wrap ((IntKind.i64.wrap (r151 + (1:Int))) + (1:Int))) + (1:Int)))) then (some (-1:Int)) else ((f9.l82 k x0) m82 ((IntKind.i64.wrap ((IntKind.i64.wrap ((IntKind.i64.wrap ((IntKind.i64.wrap (r151 + (1:Int))) + (1:Int))) + (1:Int))) + (1:Int))),(IntKind.i64.wrap (v138 + (1:Int)))))) else none)) else none))) else none)) else none) else none))) else none)) else none)) else none) else (some v137)
def f9 (k:Nat) (x0:(List (Int × (Int × ((List (ByteArray × (Int × ByteArray))) × (Bool × (ByteArray × (Int × Int)))))))) (x1:Int):Option Int:=f9.l82 k x0 k (x1,(0:Int))
theorem c9 (k:Nat) (x0:(List (Int × (Int × ((List (ByteArray × (Int × ByteArray))) × (Bool × (ByteArray × (Int × Int)))))))) (x1:Int) (r:Int) (hF:f9 k x0 x1=some r):PCall Tryd.prog 9 [⟨sh8,x0⟩,⟨iS,x1⟩] [⟨iS,r⟩]:=by
 refine pcall_intro Tryd.func9 rfl rfl (Nat.le_of_ble_eq_true rfl) ?_
 intro w0 Zi a w h
 rw [f9] at hF
 refine zs [0,1] h an fun a w h => ?_
 refine wp_seq ?_
 refine zs [0,1,5] h an fun a w h => ?_
 refine wp_block ?_
 refine wp_loop_fuel (f9.l82 k x0) (fun ((v137,v138):(Int × Int)) => [(0,.val sh8 x0),(1,.val iS v137),(5,.val iS v138)]) (fun v h => by obtain ⟨v137,v138⟩:=v; rw [f9.l82] at h; cases h) ?_ hF (ar h [0,1,5])
 intro m82 v a w hF h
 obtain ⟨v137,v138⟩:=v
 rw [f9.l82] at hF
 refine wp_seq ?_
 refine zs [0,1,5,9] h an fun a w h => ?_
 refine zi h hF (fun hF => ?_) (fun hF => ?_)
 ·refine wp_skip ?_
  refine wp_seq <| wp_block ?_
  refine wp_seq ?_
  obtain ⟨hc162,hF⟩:=of_if hF
  refine zs [0,1,5,18] h (ac hc162 an) fun a w h => ?_
  refine zi h hF (fun hF => ?_) (fun hF => ?_)
  ·refine zs [4] h an fun a w h => ?_
   cases hF
   exact wp_ret (ret_okR tok h rfl (by kernel_rfl)).1
  ·refine wp_skip ?_
   refine zs [0,1,5] h an fun a w h => ?_
   refine wp_seq ?_
   obtain ⟨hc161,hF⟩:=of_if hF
   refine zs [0,1,5,27] h (ac hc161 an) fun a w h => ?_
   refine zi h hF (fun hF => ?_) (fun hF => ?_)
   ·refine zs [4] h an fun a w h => ?_
    cases hF
    exact wp_ret (ret_okR tok h rfl (by kernel_rfl)).1
   ·refine wp_skip ?_
    refine zs [0,1,5] h an fun a w h => ?_
    obtain ⟨hc159,hF⟩:=of_if hF
    obtain ⟨r151,hr160,hF⟩:=of_bind hF
    refine zc (orcL [(36,[⟨iS,r151⟩])]) [0,1,5] h (ac hc159 (ac (c21 k (gD x0 (tZ v138) (iO,(iO,(([]:(List (ByteArray × (Int × ByteArray)))),(false,((⟨#[]⟩:ByteArray),(iO,iO))))))).2.2.1 (w64 ((w64 (v137 + (1:Int))) + (1:Int))) r151 hr160) an)) fun a w h => ?_
    refine wp_seq ?_
    refine zs [0,1,5,38] h an fun a w h => ?_
    refine zi h hF (fun hF => ?_) (fun hF => ?_)
    ·refine zs [4] h an fun a w h => ?_
     cases hF
     exact wp_ret (ret_okR tok h rfl (by kernel_rfl)).1
    ·refine wp_skip ?_
     refine wp_seq ?_
     obtain ⟨hc157,hF⟩:=of_if hF
     obtain ⟨hc158,hF⟩:=of_if hF
     refine zs [0,1,5,47] h (ac hc157 (ac hc158 an)) fun a w h => ?_
     refine zi h hF (fun hF => ?_) (fun hF => ?_)
     ·refine zs [4] h an fun a w h => ?_
      cases hF
      exact wp_ret (ret_okR tok h rfl (by kernel_rfl)).1
     ·refine wp_skip ?_
      refine zs [0,1,5] h an fun a w h => ?_
      refine wp_seq ?_
      obtain ⟨hc155,hF⟩:=of_if hF
      obtain ⟨r152,hr156,hF⟩:=of_bind hF
      refine wp_regy_seq tok (orc:=orcL [(56,[⟨.str,r152⟩])]) (l:=[0,1,5,57]) ([],[],[],[]) 8 nw h (by kernel_rfl) (by kernel_rfl) (ac hc155 (ac (c20 k (w64 (r151 + (1:Int))) r152 hr156) an)) fun a w h => ?_
      refine zi h hF (fun hF => ?_) (fun hF => ?_)
      ·refine zs [4] h an fun a w h => ?_
       cases hF
       exact wp_ret (ret_okR tok h rfl (by kernel_rfl)).1
      ·refine wp_skip ?_
       refine zs [0,1,5] h an fun a w h => ?_
       refine wp_seq ?_
       obtain ⟨hc154,hF⟩:=of_if hF
       refine zs [0,1,5,66] h (ac hc154 an) fun a w h => ?_
       refine zi h hF (fun hF => ?_) (fun hF => ?_)
       ·refine zs [4] h an fun a w h => ?_
        cases hF
        exact wp_ret (ret_okR tok h rfl (by kernel_rfl)).1
       ·refine wp_skip ?_
        refine zs [0,1,5] h an fun a w h => ?_
        refine wp_seq ?_
        obtain ⟨hc153,hF⟩:=of_if hF
        refine zs [0,1,5,75] h (ac hc153 an) fun a w h => ?_
        refine zi h hF (fun hF => ?_) (fun hF => ?_)
        ·refine zs [4] h an fun a w h => ?_
         cases hF
         exact wp_ret (ret_okR tok h rfl (by kernel_rfl)).1
        ·refine wp_skip ?_
         refine zt [0,1,5] h an fun a w h => ?_
         refine zt [0,1,5] h an fun a w h => ?_
         exact ⟨((w64 ((w64 ((w64 ((w64 (r151 + (1:Int))) + (1:Int))) + (1:Int))) + (1:Int))),(w64 (v138 + (1:Int)))),hF,ar h [0,1,5]⟩
 ·refine wp_exit ?_
  refine zs [4] h an fun a w h => ?_
  cases hF
  exact wp_ret (ret_okR tok h rfl (by kernel_rfl)).1
def f3 (k:Nat) (x0:ByteArray):Option Bool:=if (decide (((ByteArray.size x0:Int):Int) > (1048576:Int))) then (some true) else ((f5 k x0).bind fun r1 => ((f6 k x0).bind fun r2 => ((f7 k r2.1 r1.1).bind fun r3 => (if (bif (!r3) then true else (r2.2 != r1.2)) then (some false) else ((f8 k r2.1 (1:Int)).bind fun r4 => ((f9 k r4.2 (1:Int)).bind fun r5 => (if (decide (r5 < (0:Int))) then (some false) else (if (r5 != r4.1) then (some false) else ((f6 k x0).bind fun r6 => ((f7 k r6.1 r1.1).bind fun r7 => (if (bif (!r7) then true else (r6.2 != r1.2)) then (some false) else ((f9 k r4.2 (1:Int)).bind fun r8 => (if (decide (r8 < (0:Int))) then (some false) else (if (r8 != r4.1) then (some false) else (some true)))))))))))))))
theorem c3 (k:Nat) (x0:ByteArray) (r:Bool) (hF:f3 k x0=some r):PCall Tryd.prog 3 [⟨.str,x0⟩] [⟨.bool,r⟩]:=by
 refine pcall_intro Tryd.func3 rfl rfl (Nat.le_of_ble_eq_true rfl) ?_
 intro w0 Zi a w h
 rw [f3] at hF
 refine zs [0] h an fun a w h => ?_
 refine wp_seq ?_
 refine zs [0,13] h an fun a w h => ?_
 refine zi h hF (fun hF => ?_) (fun hF => ?_)
 ·refine zs [2] h an fun a w h => ?_
  cases hF
  exact wp_ret (ret_okR tok h rfl (by kernel_rfl)).1
 ·refine wp_skip ?_
  obtain ⟨r1,hr16,hF⟩:=of_bind hF
  refine zc (orcL [(16,[⟨sh5,r1.1⟩,⟨iS,r1.2⟩]),(14,[⟨.pt false 4294967292 .unit,some ()⟩])]) [0,3,4] h (ac (c5 k x0 r1 hr16) an) fun a w h => ?_
  obtain ⟨r2,hr15,hF⟩:=of_bind hF
  refine zc (orcL [(21,[⟨sh6,r2.1⟩,⟨iS,r2.2⟩]),(19,[⟨.pt false 4294967292 .unit,some ()⟩])]) [0,3,4,5,6] h (ac (c6 k x0 r2 hr15) an) fun a w h => ?_
  refine wp_seq ?_
  obtain ⟨r3,hr14,hF⟩:=of_bind hF
  refine zc (orcL [(26,[⟨.bool,r3⟩])]) [0,3,4,5,32] h (ac (c7 k r2.1 r1.1 r3 hr14) an) fun a w h => ?_
  refine zi h hF (fun hF => ?_) (fun hF => ?_)
  ·refine zs [2] h an fun a w h => ?_
   cases hF
   exact wp_ret (ret_okR tok h rfl (by kernel_rfl)).1
  ·refine wp_skip ?_
   refine zs [0,3,4,5,7] h an fun a w h => ?_
   obtain ⟨r4,hr13,hF⟩:=of_bind hF
   refine zc (orcL [(35,[⟨.pt false 4294967295 (.sl true 37 (.st (.pair iS (.pair iS (.pair (.sl true 53 (.st (.pair .str (.pair iS .str)))) (.pair .bool (.pair .str (.pair iS iS)))))))),some r4.2⟩,⟨iS,r4.1⟩])]) [0,3,4,5,7] h (ac (c8 k r2.1 (1:Int) r4 hr13) an) fun a w h => ?_
   refine zs [0,3,4,5,7,8] h an fun a w h => ?_
   obtain ⟨r5,hr12,hF⟩:=of_bind hF
   refine zc (orcL [(38,[⟨iS,r5⟩])]) [0,3,4,5,7,8] h (ac (c9 k r4.2 (1:Int) r5 hr12) an) fun a w h => ?_
   refine wp_seq ?_
   refine zs [0,3,4,5,7,8,40] h an fun a w h => ?_
   refine zi h hF (fun hF => ?_) (fun hF => ?_)
   ·refine zs [2] h an fun a w h => ?_
    cases hF
    exact wp_ret (ret_okR tok h rfl (by kernel_rfl)).1
   ·refine wp_skip ?_
    refine wp_seq ?_
    refine zs [0,3,4,5,7,43] h an fun a w h => ?_
    refine zi h hF (fun hF => ?_) (fun hF => ?_)
    ·refine zs [2] h an fun a w h => ?_
     cases hF
     exact wp_ret (ret_okR tok h rfl (by kernel_rfl)).1
    ·refine wp_skip ?_
     obtain ⟨r6,hr11,hF⟩:=of_bind hF
     refine zc (orcL [(46,[⟨sh6,r6.1⟩,⟨iS,r6.2⟩]),(44,[⟨.pt false 4294967292 .unit,some ()⟩])]) [3,4,5,7,9,10] h (ac (c6 k x0 r6 hr11) an) fun a w h => ?_
     refine wp_seq ?_
     obtain ⟨r7,hr10,hF⟩:=of_bind hF
     refine zc (orcL [(51,[⟨.bool,r7⟩])]) [5,7,57] h (ac (c7 k r6.1 r1.1 r7 hr10) an) fun a w h => ?_
     refine zi h hF (fun hF => ?_) (fun hF => ?_)
     ·refine zs [2] h an fun a w h => ?_
      cases hF
      exact wp_ret (ret_okR tok h rfl (by kernel_rfl)).1
     ·refine wp_skip ?_
      refine zs [5,7,8] h an fun a w h => ?_
      obtain ⟨r8,hr9,hF⟩:=of_bind hF
      refine zc (orcL [(60,[⟨iS,r8⟩])]) [7,8] h (ac (c9 k r4.2 (1:Int) r8 hr9) an) fun a w h => ?_
      refine wp_seq ?_
      refine zs [7,8,62] h an fun a w h => ?_
      refine zi h hF (fun hF => ?_) (fun hF => ?_)
      ·refine zs [2] h an fun a w h => ?_
       cases hF
       exact wp_ret (ret_okR tok h rfl (by kernel_rfl)).1
      ·refine wp_skip ?_
       refine wp_seq ?_
       refine zs [65] h an fun a w h => ?_
       refine zi h hF (fun hF => ?_) (fun hF => ?_)
       ·refine zs [2] h an fun a w h => ?_
        cases hF
        exact wp_ret (ret_okR tok h rfl (by kernel_rfl)).1
       ·refine wp_skip ?_
        refine zs [2] h an fun a w h => ?_
        cases hF
        exact wp_ret (ret_okR tok h rfl (by kernel_rfl)).1
end Go.Proofs.YtgonbndbnmimhaaDoor.V
