/-
  THE CONTRACTS OF SOME FUNCTIONS OF THIS SEAT, PRINTED BY A PROGRAM OF THIS PROJECT (wip/gen/vgen.py).
-/
import Derived.Test.YtdjadmdiehkfdaaProg
import Derived.Test.YtdjadmdiehkfdaaVmW
import Derived.Test.YtdjadmdiehkfdaaVmAn
import Derived.KernelRfl
import Derived.Test.YtdjadmdiehkfdaaR6rB
set_option linter.unusedVariables false
open Go Go.Vm Go.Proofs
namespace Go.Proofs.Ytdjadmdiehkfdaa.V
set_option maxRecDepth 100000
def f107 (k:Nat) (x0:(Int × Int)) (x1:(Int × Int)):Option Int:=(if ((Sh.beq sh5 x0 x1)=false) then f35 k x0 else some default).bind fun r1 => ((if ((bif (Sh.beq sh5 x0 x1) then true else (!r1))=false) then f35 k x1 else some default).bind fun r2 => (if (bif (bif (Sh.beq sh5 x0 x1) then true else (!r1)) then true else (!r2)) then (some (-1:Int)) else ((f116 k (IntKind.i64.wrap (x1.1 - x0.1))).bind fun r3 => ((f116 k (IntKind.i64.wrap (x1.2 - x0.2))).bind fun r4 => ((f116 k (IntKind.i64.wrap (x1.1 - x0.1))).bind fun r5 => ((f116 k (IntKind.i64.wrap (x1.2 - x0.2))).bind fun r6 => (if (decide (((IntKind.i64.wrap ((5:Int) * (if (r6:Int) < r5 then r6 else r5))):Int) < (IntKind.i64.wrap ((2:Int) * (if (r4:Int) > r3 then r4 else r3))))) then ((f116 k (IntKind.i64.wrap (x1.1 - x0.1))).bind fun r31 => ((f116 k (IntKind.i64.wrap (x1.2 - x0.2))).bind fun r32 => (if (bif (decide ((r31:Int) > r32)) then (decide (((IntKind.i64.wrap (x1.1 - x0.1)):Int) > (0:Int))) else false) then (some (0:Int)) else ((f116 k (IntKind.i64.wrap (x1.1 - x0.1))).bind fun r33 => ((f116 k (IntKind.i64.wrap (x1.2 - x0.2))).bind fun r34 => (if (decide ((r33:Int) > r34)) then (some (4:Int)) else (if (decide (((IntKind.i64.wrap (x1.2 - x0.2)):Int) > (0:Int))) then (some (2:Int)) else (some (6:Int))))))))) else (if (bif (decide (((IntKind.i64.wrap (x1.1 - x0.1)):Int) > (0:Int))) then (decide (((IntKind.i64.wrap (x1.2 - x0.2)):Int) > (0:Int))) else false) then (some (1:Int)) else (if (bif (decide (((IntKind.i64.wrap (x1.1 - x0.1)):Int) < (0:Int))) then (decide (((IntKind.i64.wrap (x1.2 - x0.2)):Int) > (0:Int))) else false) then (some (3:Int)) else (if (bif (decide (((IntKind.i64.wrap (x1.1 - x0.1)):Int) < (0:Int))) then (decide (((IntKind.i64.wrap (x1.2 - x0.2)):Int) < (0:Int))) else false) then (some (5:Int)) else (some (7:Int))))))))))))
theorem c107 (k:Nat) (x0:(Int × Int)) (x1:(Int × Int)) (r:Int) (hF:f107 k x0 x1=some r):PCall Try.prog 107 [⟨sh5,x0⟩,⟨sh5,x1⟩] [⟨(.int .i64),r⟩]:=by
 refine pcall_intro Try.func107 rfl rfl (Nat.le_of_ble_eq_true rfl) ?_
 intro w0 Zi a w h
 rw [f107] at hF
 refine wp_reg_seq tok (orc:=o0) (l:=[2,3]) nw h (by kernel_rfl) an fun a w h => ?_
 refine wp_seq ?_
 obtain ⟨r1,hr43,hF⟩:=of_bind hF
 obtain ⟨r2,hr44,hF⟩:=of_bind hF
 refine wp_reg_seq tok (orc:=orcL [(14,[⟨.bool,r1⟩]),(19,[⟨.bool,r2⟩])]) (l:=[2,3,21]) nw h (by kernel_rfl) (ac (And.intro (show eqTy Try.prog 9 63 (.st (.pair (.int .i64) (.int .i64)))=true from by kernel_rfl) (show Try.prog.eqGuardType Try.prog.depth 63=false from by kernel_rfl)) (ac (fun (hg:((Sh.beq sh5 x0 x1)=false)) => c35 k x0 r1 (of_g hg hr43)) (ac (fun (hg:((bif (Sh.beq sh5 x0 x1) then true else (!r1))=false)) => c35 k x1 r2 (of_g hg hr44)) an))) fun a w h => ?_
 refine wp_if h (b:=(bif (bif (Sh.beq sh5 x0 x1) then true else (!r1)) then true else (!r2))) (by kernel_rfl) (fun hb => ?_) (fun hb => ?_)
 ·replace hF:=of_t hb hF
  refine wp_reg_seq tok (orc:=o0) (l:=[4]) nw h (by kernel_rfl) an fun a w h => ?_
  cases hF
  exact wp_ret (ret_okR tok h rfl (by kernel_rfl)).1
 ·replace hF:=of_f hb hF
  refine wp_skip ?_
  refine wp_regy_seq tok (orc:=o0) (l:=[5,6]) ([],[],[],[]) 12 nw h (by kernel_rfl) (by kernel_rfl) an fun a w h => ?_
  obtain ⟨r3,hr39,hF⟩:=of_bind hF
  obtain ⟨r4,hr40,hF⟩:=of_bind hF
  obtain ⟨r5,hr41,hF⟩:=of_bind hF
  obtain ⟨r6,hr42,hF⟩:=of_bind hF
  refine wp_reg_seq tok (orc:=orcL [(33,[⟨(.int .i64),r3⟩]),(35,[⟨(.int .i64),r4⟩]),(38,[⟨(.int .i64),r5⟩]),(40,[⟨(.int .i64),r6⟩])]) (l:=[5,6,7,8]) nw h (by kernel_rfl) (ac (c116 k (w64 (x1.1 - x0.1)) r3 hr39) (ac (c116 k (w64 (x1.2 - x0.2)) r4 hr40) (ac (c116 k (w64 (x1.1 - x0.1)) r5 hr41) (ac (c116 k (w64 (x1.2 - x0.2)) r6 hr42) an)))) fun a w h => ?_
  refine wp_seq ?_
  refine wp_reg_seq tok (orc:=o0) (l:=[5,6,46]) nw h (by kernel_rfl) an fun a w h => ?_
  refine wp_if h (b:=(decide (((w64 ((5:Int) * (if (r6:Int) < r5 then r6 else r5))):Int) < (w64 ((2:Int) * (if (r4:Int) > r3 then r4 else r3)))))) (by kernel_rfl) (fun hb => ?_) (fun hb => ?_)
  ·replace hF:=of_t hb hF
   refine wp_seq <| wp_block ?_
   obtain ⟨r31,hr37,hF⟩:=of_bind hF
   obtain ⟨r32,hr38,hF⟩:=of_bind hF
   refine wp_reg_seq tok (orc:=orcL [(49,[⟨(.int .i64),r31⟩]),(51,[⟨(.int .i64),r32⟩])]) (l:=[5,6,47]) nw h (by kernel_rfl) (ac (c116 k (w64 (x1.1 - x0.1)) r31 hr37) (ac (c116 k (w64 (x1.2 - x0.2)) r32 hr38) an)) fun a w h => ?_
   refine wp_if h (b:=(bif (decide ((r31:Int) > r32)) then (decide (((w64 (x1.1 - x0.1)):Int) > iO)) else false)) (by kernel_rfl) (fun hb => ?_) (fun hb => ?_)
   ·replace hF:=of_t hb hF
    refine wp_reg_seq tok (orc:=o0) (l:=[4]) nw h (by kernel_rfl) an fun a w h => ?_
    cases hF
    exact wp_ret (ret_okR tok h rfl (by kernel_rfl)).1
   ·replace hF:=of_f hb hF
    obtain ⟨r33,hr35,hF⟩:=of_bind hF
    obtain ⟨r34,hr36,hF⟩:=of_bind hF
    refine wp_reg_seq tok (orc:=orcL [(59,[⟨(.int .i64),r33⟩]),(61,[⟨(.int .i64),r34⟩])]) (l:=[6,57]) nw h (by kernel_rfl) (ac (c116 k (w64 (x1.1 - x0.1)) r33 hr35) (ac (c116 k (w64 (x1.2 - x0.2)) r34 hr36) an)) fun a w h => ?_
    refine wp_if h (b:=(decide ((r33:Int) > r34))) (by kernel_rfl) (fun hb => ?_) (fun hb => ?_)
    ·replace hF:=of_t hb hF
     refine wp_reg_seq tok (orc:=o0) (l:=[4]) nw h (by kernel_rfl) an fun a w h => ?_
     cases hF
     exact wp_ret (ret_okR tok h rfl (by kernel_rfl)).1
    ·replace hF:=of_f hb hF
     refine wp_reg_seq tok (orc:=o0) (l:=[63]) nw h (by kernel_rfl) an fun a w h => ?_
     refine wp_if h (b:=(decide (((w64 (x1.2 - x0.2)):Int) > iO))) (by kernel_rfl) (fun hb => ?_) (fun hb => ?_)
     ·replace hF:=of_t hb hF
      refine wp_reg_seq tok (orc:=o0) (l:=[4]) nw h (by kernel_rfl) an fun a w h => ?_
      cases hF
      exact wp_ret (ret_okR tok h rfl (by kernel_rfl)).1
     ·replace hF:=of_f hb hF
      refine wp_skip ?_
      refine wp_reg_seq tok (orc:=o0) (l:=[4]) nw h (by kernel_rfl) an fun a w h => ?_
      cases hF
      exact wp_ret (ret_okR tok h rfl (by kernel_rfl)).1
  ·replace hF:=of_f hb hF
   refine wp_skip ?_
   refine wp_seq <| wp_block ?_
   refine wp_reg_seq tok (orc:=o0) (l:=[5,6,66]) nw h (by kernel_rfl) an fun a w h => ?_
   refine wp_if h (b:=(bif (decide (((w64 (x1.1 - x0.1)):Int) > iO)) then (decide (((w64 (x1.2 - x0.2)):Int) > iO)) else false)) (by kernel_rfl) (fun hb => ?_) (fun hb => ?_)
   ·replace hF:=of_t hb hF
    refine wp_reg_seq tok (orc:=o0) (l:=[4]) nw h (by kernel_rfl) an fun a w h => ?_
    cases hF
    exact wp_ret (ret_okR tok h rfl (by kernel_rfl)).1
   ·replace hF:=of_f hb hF
    refine wp_reg_seq tok (orc:=o0) (l:=[5,6,73]) nw h (by kernel_rfl) an fun a w h => ?_
    refine wp_if h (b:=(bif (decide (((w64 (x1.1 - x0.1)):Int) < iO)) then (decide (((w64 (x1.2 - x0.2)):Int) > iO)) else false)) (by kernel_rfl) (fun hb => ?_) (fun hb => ?_)
    ·replace hF:=of_t hb hF
     refine wp_reg_seq tok (orc:=o0) (l:=[4]) nw h (by kernel_rfl) an fun a w h => ?_
     cases hF
     exact wp_ret (ret_okR tok h rfl (by kernel_rfl)).1
    ·replace hF:=of_f hb hF
     refine wp_reg_seq tok (orc:=o0) (l:=[80]) nw h (by kernel_rfl) an fun a w h => ?_
     refine wp_if h (b:=(bif (decide (((w64 (x1.1 - x0.1)):Int) < iO)) then (decide (((w64 (x1.2 - x0.2)):Int) < iO)) else false)) (by kernel_rfl) (fun hb => ?_) (fun hb => ?_)
     ·replace hF:=of_t hb hF
      refine wp_reg_seq tok (orc:=o0) (l:=[4]) nw h (by kernel_rfl) an fun a w h => ?_
      cases hF
      exact wp_ret (ret_okR tok h rfl (by kernel_rfl)).1
     ·replace hF:=of_f hb hF
      refine wp_skip ?_
      refine wp_reg_seq tok (orc:=o0) (l:=[4]) nw h (by kernel_rfl) an fun a w h => ?_
      cases hF
      exact wp_ret (ret_okR tok h rfl (by kernel_rfl)).1
def f86 (k:Nat) (x0:(((List (Int × (Int × Int))) × ((List (Int × (Int × (Int × (Int × (Int × ByteArray)))))) × (List (Int × Int)))) × ((List (List Int)) × ((List (List Int)) × (Option (List ((Int × Int) × Bool))))))) (x1:Int) (x2:Int):Option Int:=if (0≤x1∧x1 < (List.length x0.1.2.1:Int)) then (if (0≤x2∧x2 < (List.length x0.1.2.1:Int)) then (if (0 ≤ (List.getD x0.1.2.1 (Int.toNat x1) ((0:Int),((0:Int),((0:Int),((0:Int),((0:Int),(⟨#[]⟩:ByteArray))))))).1 ∧ (List.getD x0.1.2.1 (Int.toNat x1) ((0:Int),((0:Int),((0:Int),((0:Int),((0:Int),(⟨#[]⟩:ByteArray))))))).1 < (List.length x0.1.1:Int)) then (if (0 ≤ (List.getD x0.1.2.1 (Int.toNat x1) ((0:Int),((0:Int),((0:Int),((0:Int),((0:Int),(⟨#[]⟩:ByteArray))))))).2.1 ∧ (List.getD x0.1.2.1 (Int.toNat x1) ((0:Int),((0:Int),((0:Int),((0:Int),((0:Int),(⟨#[]⟩:ByteArray))))))).2.1 < (List.length x0.1.1:Int)) then ((f107 k (List.getD x0.1.1 (Int.toNat (List.getD x0.1.2.1 (Int.toNat x1) ((0:Int),((0:Int),((0:Int),((0:Int),((0:Int),(⟨#[]⟩:ByteArray))))))).1) ((0:Int),((0:Int),(0:Int)))).2 (List.getD x0.1.1 (Int.toNat (List.getD x0.1.2.1 (Int.toNat x1) ((0:Int),((0:Int),((0:Int),((0:Int),((0:Int),(⟨#[]⟩:ByteArray))))))).2.1) ((0:Int),((0:Int),(0:Int)))).2).bind fun r1 => (if (0 ≤ (List.getD x0.1.2.1 (Int.toNat x2) ((0:Int),((0:Int),((0:Int),((0:Int),((0:Int),(⟨#[]⟩:ByteArray))))))).1 ∧ (List.getD x0.1.2.1 (Int.toNat x2) ((0:Int),((0:Int),((0:Int),((0:Int),((0:Int),(⟨#[]⟩:ByteArray))))))).1 < (List.length x0.1.1:Int)) then (if (0 ≤ (List.getD x0.1.2.1 (Int.toNat x2) ((0:Int),((0:Int),((0:Int),((0:Int),((0:Int),(⟨#[]⟩:ByteArray))))))).2.1 ∧ (List.getD x0.1.2.1 (Int.toNat x2) ((0:Int),((0:Int),((0:Int),((0:Int),((0:Int),(⟨#[]⟩:ByteArray))))))).2.1 < (List.length x0.1.1:Int)) then ((f107 k (List.getD x0.1.1 (Int.toNat (List.getD x0.1.2.1 (Int.toNat x2) ((0:Int),((0:Int),((0:Int),((0:Int),((0:Int),(⟨#[]⟩:ByteArray))))))).1) ((0:Int),((0:Int),(0:Int)))).2 (List.getD x0.1.1 (Int.toNat (List.getD x0.1.2.1 (Int.toNat x2) ((0:Int),((0:Int),((0:Int),((0:Int),((0:Int),(⟨#[]⟩:ByteArray))))))).2.1) ((0:Int),((0:Int),(0:Int)))).2).bind fun r2 => (if (bif (decide ((r1:Int) < (0:Int))) then true else (decide ((r2:Int) < (0:Int)))) then (some (-1:Int)) else (if (((8:Int):Int)≠0) then (some (Int.tmod (IntKind.i64.wrap ((IntKind.i64.wrap (r2 - r1)) + (8:Int))) (8:Int))) else none))) else none) else none)) else none) else none) else none) else none
theorem c86 (k:Nat) (x0:tN) (x1:Int) (x2:Int) (r:Int) (hF:f86 k x0 x1 x2=some r):PCall Try.prog 86 [⟨sh32,some x0⟩,⟨(.int .i64),x1⟩,⟨(.int .i64),x2⟩] [⟨(.int .i64),r⟩]:=by
 refine pcall_intro Try.func86 rfl rfl (Nat.le_of_ble_eq_true rfl) ?_
 intro w0 Zi a w h
 rw [f86] at hF
 refine wp_reg_seq tok (orc:=o0) (l:=[0,1,2]) nw h (by kernel_rfl) an fun a w h => ?_
 obtain ⟨hc10,hF⟩:=of_if hF
 obtain ⟨hc11,hF⟩:=of_if hF
 refine wp_regy_seq tok (orc:=o0) (l:=[0,7,8]) ([(18,7)],[],[],[(8,[0]),(9,[19]),(10,[20]),(11,[21]),(12,[22]),(13,[2]),(14,[23,24]),(15,[25])]) 19 nw h (by kernel_rfl) (by kernel_rfl) (ac hc10 (ac hc11 an)) fun a w h => ?_
 obtain ⟨hc7,hF⟩:=of_if hF
 obtain ⟨hc8,hF⟩:=of_if hF
 obtain ⟨r1,hr9,hF⟩:=of_bind hF
 refine wp_regy_seq tok (orc:=orcL [(47,[⟨(.int .i64),r1⟩])]) (l:=[0,8,9]) ([],[],[],[]) 22 nw h (by kernel_rfl) (by kernel_rfl) (ac hc7 (ac hc8 (ac (c107 k (gD x0.1.1 (tZ (gD x0.1.2.1 (tZ x1) zR).1) (iO,(iO,iO))).2 (gD x0.1.1 (tZ (gD x0.1.2.1 (tZ x1) zR).2.1) (iO,(iO,iO))).2 r1 hr9) an))) fun a w h => ?_
 obtain ⟨hc4,hF⟩:=of_if hF
 obtain ⟨hc5,hF⟩:=of_if hF
 obtain ⟨r2,hr6,hF⟩:=of_bind hF
 refine wp_regy_seq tok (orc:=orcL [(68,[⟨(.int .i64),r2⟩])]) (l:=[9,10]) ([],[],[],[]) 22 nw h (by kernel_rfl) (by kernel_rfl) (ac hc4 (ac hc5 (ac (c107 k (gD x0.1.1 (tZ (gD x0.1.2.1 (tZ x2) zR).1) (iO,(iO,iO))).2 (gD x0.1.1 (tZ (gD x0.1.2.1 (tZ x2) zR).2.1) (iO,(iO,iO))).2 r2 hr6) an))) fun a w h => ?_
 refine wp_seq ?_
 refine wp_reg_seq tok (orc:=o0) (l:=[9,10,74]) nw h (by kernel_rfl) an fun a w h => ?_
 refine wp_if h (b:=(bif (decide ((r1:Int) < iO)) then true else (decide ((r2:Int) < iO)))) (by kernel_rfl) (fun hb => ?_) (fun hb => ?_)
 ·replace hF:=of_t hb hF
  refine wp_reg_seq tok (orc:=o0) (l:=[6]) nw h (by kernel_rfl) an fun a w h => ?_
  cases hF
  exact wp_ret (ret_okR tok h rfl (by kernel_rfl)).1
 ·replace hF:=of_f hb hF
  refine wp_skip ?_
  obtain ⟨hc3,hF⟩:=of_if hF
  refine wp_reg_seq tok (orc:=o0) (l:=[6]) nw h (by kernel_rfl) (ac hc3 an) fun a w h => ?_
  cases hF
  exact wp_ret (ret_okR tok h rfl (by kernel_rfl)).1
def f66.j9 (k:Nat):Bool→Option Int
 | v8 => if v8 then (some (3:Int)) else (some (0:Int))
def f66.j7 (k:Nat) (r1:Int):Bool→Option Int
 | v6 => if v6 then (some (5:Int)) else (if ((r1:Int) == (5:Int)) then (f66.j9 k ((r1:Int) == (5:Int))) else (f66.j9 k ((r1:Int) == (6:Int))))
def f66 (k:Nat) (x0:(((List (Int × (Int × Int))) × ((List (Int × (Int × (Int × (Int × (Int × ByteArray)))))) × (List (Int × Int)))) × ((List (List Int)) × ((List (List Int)) × (Option (List ((Int × Int) × Bool))))))) (x1:Int) (x2:Int):Option Int:=if (0≤x1∧x1 < (List.length x0.1.2.1:Int)) then (if (0≤x2∧x2 < (List.length x0.1.2.1:Int)) then (if (bif (((List.getD x0.1.2.1 (Int.toNat x1) ((0:Int),((0:Int),((0:Int),((0:Int),((0:Int),(⟨#[]⟩:ByteArray))))))).2.1:Int) != (List.getD x0.1.2.1 (Int.toNat x2) ((0:Int),((0:Int),((0:Int),((0:Int),((0:Int),(⟨#[]⟩:ByteArray))))))).1) then true else (mget (Sh.beq sh5) x0.2.2.2 (x1,x2) false)) then (some (-1:Int)) else (if (((List.getD x0.1.2.1 (Int.toNat x2) ((0:Int),((0:Int),((0:Int),((0:Int),((0:Int),(⟨#[]⟩:ByteArray))))))).2.1:Int) == (List.getD x0.1.2.1 (Int.toNat x1) ((0:Int),((0:Int),((0:Int),((0:Int),((0:Int),(⟨#[]⟩:ByteArray))))))).1) then (some (20:Int)) else ((f86 k x0 x1 x2).bind fun r1 => (if ((r1:Int) == (2:Int)) then (f66.j7 k r1 ((r1:Int) == (2:Int))) else (if ((r1:Int) == (3:Int)) then (f66.j7 k r1 ((r1:Int) == (3:Int))) else (f66.j7 k r1 ((r1:Int) == (4:Int)))))))) else none) else none
theorem c66 (k:Nat) (x0:tN) (x1:Int) (x2:Int) (r:Int) (hF:f66 k x0 x1 x2=some r):PCall Try.prog 66 [⟨sh32,some x0⟩,⟨(.int .i64),x1⟩,⟨(.int .i64),x2⟩] [⟨(.int .i64),r⟩]:=by
 refine pcall_intro Try.func66 rfl rfl (Nat.le_of_ble_eq_true rfl) ?_
 intro w0 Zi a w h
 rw [f66] at hF
 refine wp_reg_seq tok (orc:=o0) (l:=[0,1,2]) nw h (by kernel_rfl) an fun a w h => ?_
 obtain ⟨hc11,hF⟩:=of_if hF
 obtain ⟨hc12,hF⟩:=of_if hF
 refine wp_regy_seq tok (orc:=o0) (l:=[0,1,2,7,8]) ([(18,7)],[],[],[(8,[0]),(9,[17]),(10,[18]),(11,[19]),(12,[20]),(13,[2]),(14,[21,22]),(15,[23])]) 19 nw h (by kernel_rfl) (by kernel_rfl) (ac hc11 (ac hc12 an)) fun a w h => ?_
 refine wp_seq ?_
 refine wp_reg_seq tok (orc:=o0) (l:=[0,1,2,7,8,39]) nw h (by kernel_rfl) (ac (fun (_:((((gD x0.1.2.1 (tZ x1) zR).2.1:Int) != (gD x0.1.2.1 (tZ x2) zR).1)=false)) => (show eqTy Try.prog 9 69 (.st (.pair (.int .i64) (.int .i64)))=true from by kernel_rfl)) an) fun a w h => ?_
 refine wp_if h (b:=(bif (((gD x0.1.2.1 (tZ x1) zR).2.1:Int) != (gD x0.1.2.1 (tZ x2) zR).1) then true else (mget (Sh.beq sh5) x0.2.2.2 (x1,x2) false))) (by kernel_rfl) (fun hb => ?_) (fun hb => ?_)
 ·replace hF:=of_t hb hF
  refine wp_reg_seq tok (orc:=o0) (l:=[6]) nw h (by kernel_rfl) an fun a w h => ?_
  cases hF
  exact wp_ret (ret_okR tok h rfl (by kernel_rfl)).1
 ·replace hF:=of_f hb hF
  refine wp_skip ?_
  refine wp_seq ?_
  refine wp_reg_seq tok (orc:=o0) (l:=[0,1,2,44]) nw h (by kernel_rfl) an fun a w h => ?_
  refine wp_if h (b:=(((gD x0.1.2.1 (tZ x2) zR).2.1:Int) == (gD x0.1.2.1 (tZ x1) zR).1)) (by kernel_rfl) (fun hb => ?_) (fun hb => ?_)
  ·replace hF:=of_t hb hF
   refine wp_reg_seq tok (orc:=o0) (l:=[6]) nw h (by kernel_rfl) an fun a w h => ?_
   cases hF
   exact wp_ret (ret_okR tok h rfl (by kernel_rfl)).1
  ·replace hF:=of_f hb hF
   refine wp_skip ?_
   refine wp_seq ?_
   obtain ⟨r1,hr10,hF⟩:=of_bind hF
   refine wp_reg_seq tok (orc:=orcL [(48,[⟨(.int .i64),r1⟩])]) (l:=[48]) nw h (by kernel_rfl) (ac (c86 k x0 x1 x2 r1 hr10) an) fun a w h => ?_
   refine wp_block ?_
   refine wp_seq ?_
   refine wp_reg_seq tok (orc:=o0) (l:=[48,49]) nw h (by kernel_rfl) an fun a w h => ?_
   refine wp_midT (fun a w => ∃ v:Bool,f66.j7 k r1 v=some r∧Rel w0 (fun _ => False) Zi Try.f66.ntmps ((fun (v6:Bool) => ([(48,.val (.int .i64) r1),(49,.val .bool v6)]:SS)) v) a w) ?_ ?_
   ·
    refine wp_if h (b:=((r1:Int) == (2:Int))) (by kernel_rfl) (fun hb => ?_) (fun hb => ?_)
    ·replace hF:=of_t hb hF
     refine wp_skip ?_
     exact ⟨((r1:Int) == (2:Int)),hF,h.arrive (l:=[48,49]) nw (by kernel_rfl)⟩
    ·replace hF:=of_f hb hF
     refine wp_reg_seq tok (orc:=o0) (l:=[48,49]) nw h (by kernel_rfl) an fun a w h => ?_
     refine wp_if h (b:=((r1:Int) == (3:Int))) (by kernel_rfl) (fun hb => ?_) (fun hb => ?_)
     ·replace hF:=of_t hb hF
      refine wp_skip ?_
      exact ⟨((r1:Int) == (3:Int)),hF,h.arrive (l:=[48,49]) nw (by kernel_rfl)⟩
     ·replace hF:=of_f hb hF
      refine wp_reg tok (orc:=o0) (l:=[48,49]) nw h (by kernel_rfl) an fun a w h => ?_
      exact ⟨((r1:Int) == (4:Int)),hF,h.arrive (l:=[48,49]) nw (by kernel_rfl)⟩
   ·rintro a w ⟨v6,hF,h⟩
    rw [f66.j7] at hF
    refine wp_if h (b:=v6) (by kernel_rfl) (fun hb => ?_) (fun hb => ?_)
    ·replace hF:=of_t hb hF
     refine wp_reg_seq tok (orc:=o0) (l:=[6]) nw h (by kernel_rfl) an fun a w h => ?_
     cases hF
     exact wp_ret (ret_okR tok h rfl (by kernel_rfl)).1
    ·replace hF:=of_f hb hF
     refine wp_seq ?_
     refine wp_reg_seq tok (orc:=o0) (l:=[48,53]) nw h (by kernel_rfl) an fun a w h => ?_
     refine wp_midT (fun a w => ∃ v:Bool,f66.j9 k v=some r∧Rel w0 (fun _ => False) Zi Try.f66.ntmps ((fun (v8:Bool) => ([(53,.val .bool v8)]:SS)) v) a w) ?_ ?_
     ·
      refine wp_if h (b:=((r1:Int) == (5:Int))) (by kernel_rfl) (fun hb => ?_) (fun hb => ?_)
      ·replace hF:=of_t hb hF
       refine wp_skip ?_
       exact ⟨((r1:Int) == (5:Int)),hF,h.arrive (l:=[53]) nw (by kernel_rfl)⟩
      ·replace hF:=of_f hb hF
       refine wp_reg tok (orc:=o0) (l:=[53]) nw h (by kernel_rfl) an fun a w h => ?_
       exact ⟨((r1:Int) == (6:Int)),hF,h.arrive (l:=[53]) nw (by kernel_rfl)⟩
     ·rintro a w ⟨v8,hF,h⟩
      rw [f66.j9] at hF
      refine wp_if h (b:=v8) (by kernel_rfl) (fun hb => ?_) (fun hb => ?_)
      ·replace hF:=of_t hb hF
       refine wp_reg_seq tok (orc:=o0) (l:=[6]) nw h (by kernel_rfl) an fun a w h => ?_
       cases hF
       exact wp_ret (ret_okR tok h rfl (by kernel_rfl)).1
      ·replace hF:=of_f hb hF
       refine wp_skip ?_
       refine wp_reg_seq tok (orc:=o0) (l:=[6]) nw h (by kernel_rfl) an fun a w h => ?_
       cases hF
       exact wp_ret (ret_okR tok h rfl (by kernel_rfl)).1
def f67.j807 (k:Nat) (v790:Int) (q716:((List Int) × ((List (Int × (Int × Int))) × Unit) × Int)→Option (List Int)):((List Int) × ((List (Int × (Int × Int))) × Unit))→Option (List Int)
 | (v805,v806) => q716 (v805,v806,(IntKind.i64.wrap (v790 + (1:Int))))
def f67.l716 (k:Nat) (x0:(((List (Int × (Int × Int))) × ((List (Int × (Int × (Int × (Int × (Int × ByteArray)))))) × (List (Int × Int)))) × ((List (List Int)) × ((List (List Int)) × (Option (List ((Int × Int) × Bool))))))) (r715:((Int × (Int × Int)) × ((List (Int × (Int × Int))) × Unit))) (v713:(List Bool)) (q478:((List Int) × (List Bool) × ((List (Int × (Int × Int))) × Unit))→Option (List Int)):Nat → ((List Int) × ((List (Int × (Int × Int))) × Unit) × Int)→Option (List Int)
 | 0,_ => none
 | m716+1,(v788,v789,v790) => if (decide ((v790:Int) < (List.length (List.getD x0.2.1 (Int.toNat (List.getD x0.1.2.1 (Int.toNat r715.1.2.2) ((0:Int),((0:Int),((0:Int),((0:Int),((0:Int),(⟨#[]⟩:ByteArray))))))).2.1) ([]:(List Int))):Int))) then (if (0≤v790∧v790 < (List.length (List.getD x0.2.1 (Int.toNat (List.getD x0.1.2.1 (Int.toNat r715.1.2.2) ((0:Int),((0:Int),((0:Int),((0:Int),((0:Int),(⟨#[]⟩:ByteArray))))))).2.1) ([]:(List Int))):Int)) then (if (0 ≤ (List.getD (List.getD x0.2.1 (Int.toNat (List.getD x0.1.2.1 (Int.toNat r715.1.2.2) ((0:Int),((0:Int),((0:Int),((0:Int),((0:Int),(⟨#[]⟩:ByteArray))))))).2.1) ([]:(List Int))) (Int.toNat v790) (0:Int)) ∧ (List.getD (List.getD x0.2.1 (Int.toNat (List.getD x0.1.2.1 (Int.toNat r715.1.2.2) ((0:Int),((0:Int),((0:Int),((0:Int),((0:Int),(⟨#[]⟩:ByteArray))))))).2.1) ([]:(List Int))) (Int.toNat v790) (0:Int)) < (List.length (List.set v713 (Int.toNat r715.1.2.2) true):Int)) then (if (List.getD (List.set v713 (Int.toNat r715.1.2.2) true) (Int.toNat (List.getD (List.getD x0.2.1 (Int.toNat (List.getD x0.1.2.1 (Int.toNat r715.1.2.2) ((0:Int),((0:Int),((0:Int),((0:Int),((0:Int),(⟨#[]⟩:ByteArray))))))).2.1) ([]:(List Int))) (Int.toNat v790) (0:Int))) false) then (f67.j807 k v790 ((f67.l716 k x0 r715 v713 q478) m716) (v788,v789)) else ((f66 k x0 r715.1.2.2 (List.getD (List.getD x0.2.1 (Int.toNat (List.getD x0.1.2.1 (Int.toNat r715.1.2.2) ((0:Int),((0:Int),((0:Int),((0:Int),((0:Int),(⟨#[]⟩:ByteArray))))))).2.1) ([]:(List Int))) (Int.toNat v790) (0:Int))).bind fun r808 => (if (decide ((r808:Int) < (0:Int))) then (f67.j807 k v790 ((f67.l716 k x0 r715 v713 q478) m716) (v788,v789)) else (if (0 ≤ (List.getD (List.getD x0.2.1 (Int.toNat (List.getD x0.1.2.1 (Int.toNat r715.1.2.2) ((0:Int),((0:Int),((0:Int),((0:Int),((0:Int),(⟨#[]⟩:ByteArray))))))).2.1) ([]:(List Int))) (Int.toNat v790) (0:Int)) ∧ (List.getD (List.getD x0.2.1 (Int.toNat (List.getD x0.1.2.1 (Int.toNat r715.1.2.2) ((0:Int),((0:Int),((0:Int),((0:Int),((0:Int),(⟨#[]⟩:ByteArray))))))).2.1) ([]:(List Int))) (Int.toNat v790) (0:Int)) < (List.length x0.1.2.1:Int)) then (if (0 ≤ (List.getD (List.getD x0.2.1 (Int.toNat (List.getD x0.1.2.1 (Int.toNat r715.1.2.2) ((0:Int),((0:Int),((0:Int),((0:Int),((0:Int),(⟨#[]⟩:ByteArray))))))).2.1) ([]:(List Int))) (Int.toNat v790) (0:Int)) ∧ (List.getD (List.getD x0.2.1 (Int.toNat (List.getD x0.1.2.1 (Int.toNat r715.1.2.2) ((0:Int),((0:Int),((0:Int),((0:Int),((0:Int),(⟨#[]⟩:ByteArray))))))).2.1) ([]:(List Int))) (Int.toNat v790) (0:Int)) < (List.length v788:Int)) then (if (((decide (((List.getD v788 (Int.toNat (List.getD (List.getD x0.2.1 (Int.toNat (List.getD x0.1.2.1 (Int.toNat r715.1.2.2) ((0:Int),((0:Int),((0:Int),((0:Int),((0:Int),(⟨#[]⟩:ByteArray))))))).2.1) ([]:(List Int))) (Int.toNat v790) (0:Int))) (0:Int)):Int) < (0:Int)))=false) → (0 ≤ (List.getD (List.getD x0.2.1 (Int.toNat (List.getD x0.1.2.1 (Int.toNat r715.1.2.2) ((0:Int),((0:Int),((0:Int),((0:Int),((0:Int),(⟨#[]⟩:ByteArray))))))).2.1) ([]:(List Int))) (Int.toNat v790) (0:Int)) ∧ (List.getD (List.getD x0.2.1 (Int.toNat (List.getD x0.1.2.1 (Int.toNat r715.1.2.2) ((0:Int),((0:Int),((0:Int),((0:Int),((0:Int),(⟨#[]⟩:ByteArray))))))).2.1) ([]:(List Int))) (Int.toNat v790) (0:Int)) < (List.length v788:Int))) then ((some ((bif (decide (((List.getD v788 (Int.toNat (List.getD (List.getD x0.2.1 (Int.toNat (List.getD x0.1.2.1 (Int.toNat r715.1.2.2) ((0:Int),((0:Int),((0:Int),((0:Int),((0:Int),(⟨#[]⟩:ByteArray))))))).2.1) ([]:(List Int))) (Int.toNat v790) (0:Int))) (0:Int)):Int) < (0:Int))) then true else (decide (((IntKind.i64.wrap ((IntKind.i64.wrap (r715.1.1+r808)) + (List.getD x0.1.2.1 (Int.toNat (List.getD (List.getD x0.2.1 (Int.toNat (List.getD x0.1.2.1 (Int.toNat r715.1.2.2) ((0:Int),((0:Int),((0:Int),((0:Int),((0:Int),(⟨#[]⟩:ByteArray))))))).2.1) ([]:(List Int))) (Int.toNat v790) (0:Int))) ((0:Int),((0:Int),((0:Int),((0:Int),((0:Int),(⟨#[]⟩:ByteArray))))))).2.2.2.1)):Int) < (List.getD v788 (Int.toNat (List.getD (List.getD x0.2.1 (Int.toNat (List.getD x0.1.2.1 (Int.toNat r715.1.2.2) ((0:Int),((0:Int),((0:Int),((0:Int),((0:Int),(⟨#[]⟩:ByteArray))))))).2.1) ([]:(List Int))) (Int.toNat v790) (0:Int))) (0:Int))))):Bool)).bind fun v809 => (if v809 then (if (0 ≤ (List.getD (List.getD x0.2.1 (Int.toNat (List.getD x0.1.2.1 (Int.toNat r715.1.2.2) ((0:Int),((0:Int),((0:Int),((0:Int),((0:Int),(⟨#[]⟩:ByteArray))))))).2.1) ([]:(List Int))) (Int.toNat v790) (0:Int)) ∧ (List.getD (List.getD x0.2.1 (Int.toNat (List.getD x0.1.2.1 (Int.toNat r715.1.2.2) ((0:Int),((0:Int),((0:Int),((0:Int),((0:Int),(⟨#[]⟩:ByteArray))))))).2.1) ([]:(List Int))) (Int.toNat v790) (0:Int)) < (List.length v788:Int)) then ((some ((List.set v788 (Int.toNat (List.getD (List.getD x0.2.1 (Int.toNat (List.getD x0.1.2.1 (Int.toNat r715.1.2.2) ((0:Int),((0:Int),((0:Int),((0:Int),((0:Int),(⟨#[]⟩:ByteArray))))))).2.1) ([]:(List Int))) (Int.toNat v790) (0:Int))) (IntKind.i64.wrap ((IntKind.i64.wrap (r715.1.1+r808)) + (List.getD x0.1.2.1 (Int.toNat (List.getD (List.getD x0.2.1 (Int.toNat (List.getD x0.1.2.1 (Int.toNat r715.1.2.2) ((0:Int),((0:Int),((0:Int),((0:Int),((0:Int),(⟨#[]⟩:ByteArray))))))).2.1) ([]:(List Int))) (Int.toNat v790) (0:Int))) ((0:Int),((0:Int),((0:Int),((0:Int),((0:Int),(⟨#[]⟩:ByteArray))))))).2.2.2.1))):(List Int))).bind fun v810 => ((f68 k v789 ((IntKind.i64.wrap ((IntKind.i64.wrap (r715.1.1+r808)) + (List.getD x0.1.2.1 (Int.toNat (List.getD (List.getD x0.2.1 (Int.toNat (List.getD x0.1.2.1 (Int.toNat r715.1.2.2) ((0:Int),((0:Int),((0:Int),((0:Int),((0:Int),(⟨#[]⟩:ByteArray))))))).2.1) ([]:(List Int))) (Int.toNat v790) (0:Int))) ((0:Int),((0:Int),((0:Int),((0:Int),((0:Int),(⟨#[]⟩:ByteArray))))))).2.2.2.1)),((0:Int),(List.getD (List.getD x0.2.1 (Int.toNat (List.getD x0.1.2.1 (Int.toNat r715.1.2.2) ((0:Int),((0:Int),((0:Int),((0:Int),((0:Int),(⟨#[]⟩:ByteArray))))))).2.1) ([]:(List Int))) (Int.toNat v790) (0:Int))))).bind fun r811 => (f67.j807 k v790 ((f67.l716 k x0 r715 v713 q478) m716) (v810,r811)))) else none) else (f67.j807 k v790 ((f67.l716 k x0 r715 v713 q478) m716) (v788,v789)))) else none) else none) else none)))) else none) else none) else (q478 (v788,(List.set v713 (Int.toNat r715.1.2.2) true),v789))
def f67.l478 (k:Nat) (x0:(((List (Int × (Int × Int))) × ((List (Int × (Int × (Int × (Int × (Int × ByteArray)))))) × (List (Int × Int)))) × ((List (List Int)) × ((List (List Int)) × (Option (List ((Int × Int) × Bool))))))):Nat → ((List Int) × (List Bool) × ((List (Int × (Int × Int))) × Unit))→Option (List Int)
 | 0,_ => none
 | m478+1,(v712,v713,v714) => if (decide (((List.length v714.1:Int):Int) > (0:Int))) then ((f69 k v714).bind fun r715 => (if (0≤r715.1.2.2∧r715.1.2.2 < (List.length v713:Int)) then (if (List.getD v713 (Int.toNat r715.1.2.2) false) then ((f67.l478 k x0) m478 (v712,v713,r715.2)) else (if (0≤r715.1.2.2∧r715.1.2.2 < (List.length v713:Int)) then (if (0≤r715.1.2.2∧r715.1.2.2 < (List.length x0.1.2.1:Int)) then (if (0 ≤ (List.getD x0.1.2.1 (Int.toNat r715.1.2.2) ((0:Int),((0:Int),((0:Int),((0:Int),((0:Int),(⟨#[]⟩:ByteArray))))))).2.1 ∧ (List.getD x0.1.2.1 (Int.toNat r715.1.2.2) ((0:Int),((0:Int),((0:Int),((0:Int),((0:Int),(⟨#[]⟩:ByteArray))))))).2.1 < (List.length x0.2.1:Int)) then (f67.l716 k x0 r715 v713 ((f67.l478 k x0) m478) k (v712,r715.2,(0:Int))) else none) else none) else none)) else none)) else (some v712)
def f67.l80 (k:Nat) (x0:(((List (Int × (Int × Int))) × ((List (Int × (Int × (Int × (Int × (Int × ByteArray)))))) × (List (Int × Int)))) × ((List (List Int)) × ((List (List Int)) × (Option (List ((Int × Int) × Bool))))))) (x1:Int):Nat → ((List Int) × ((List (Int × (Int × Int))) × Unit) × Int)→Option (List Int)
 | 0,_ => none
 | m80+1,(v114,v115,v116) => if (decide ((v116:Int) < (List.length (List.getD x0.2.1 (Int.toNat x1) ([]:(List Int))):Int))) then (if (0≤v116∧v116 < (List.length (List.getD x0.2.1 (Int.toNat x1) ([]:(List Int))):Int)) then (if (0 ≤ (List.getD (List.getD x0.2.1 (Int.toNat x1) ([]:(List Int))) (Int.toNat v116) (0:Int)) ∧ (List.getD (List.getD x0.2.1 (Int.toNat x1) ([]:(List Int))) (Int.toNat v116) (0:Int)) < (List.length x0.1.2.1:Int)) then (if (0 ≤ (List.getD (List.getD x0.2.1 (Int.toNat x1) ([]:(List Int))) (Int.toNat v116) (0:Int)) ∧ (List.getD (List.getD x0.2.1 (Int.toNat x1) ([]:(List Int))) (Int.toNat v116) (0:Int)) < (List.length v114:Int)) then (if (0 ≤ (List.getD (List.getD x0.2.1 (Int.toNat x1) ([]:(List Int))) (Int.toNat v116) (0:Int)) ∧ (List.getD (List.getD x0.2.1 (Int.toNat x1) ([]:(List Int))) (Int.toNat v116) (0:Int)) < (List.length (List.set v114 (Int.toNat (List.getD (List.getD x0.2.1 (Int.toNat x1) ([]:(List Int))) (Int.toNat v116) (0:Int))) (List.getD x0.1.2.1 (Int.toNat (List.getD (List.getD x0.2.1 (Int.toNat x1) ([]:(List Int))) (Int.toNat v116) (0:Int))) ((0:Int),((0:Int),((0:Int),((0:Int),((0:Int),(⟨#[]⟩:ByteArray))))))).2.2.2.1):Int)) then ((f68 k v115 ((List.getD (List.set v114 (Int.toNat (List.getD (List.getD x0.2.1 (Int.toNat x1) ([]:(List Int))) (Int.toNat v116) (0:Int))) (List.getD x0.1.2.1 (Int.toNat (List.getD (List.getD x0.2.1 (Int.toNat x1) ([]:(List Int))) (Int.toNat v116) (0:Int))) ((0:Int),((0:Int),((0:Int),((0:Int),((0:Int),(⟨#[]⟩:ByteArray))))))).2.2.2.1) (Int.toNat (List.getD (List.getD x0.2.1 (Int.toNat x1) ([]:(List Int))) (Int.toNat v116) (0:Int))) (0:Int)),((0:Int),(List.getD (List.getD x0.2.1 (Int.toNat x1) ([]:(List Int))) (Int.toNat v116) (0:Int))))).bind fun r123 => ((f67.l80 k x0 x1) m80 ((List.set v114 (Int.toNat (List.getD (List.getD x0.2.1 (Int.toNat x1) ([]:(List Int))) (Int.toNat v116) (0:Int))) (List.getD x0.1.2.1 (Int.toNat (List.getD (List.getD x0.2.1 (Int.toNat x1) ([]:(List Int))) (Int.toNat v116) (0:Int))) ((0:Int),((0:Int),((0:Int),((0:Int),((0:Int),(⟨#[]⟩:ByteArray))))))).2.2.2.1),r123,(IntKind.i64.wrap (v116 + (1:Int)))))) else none) else none) else none) else none) else (f67.l478 k x0 k (v114,(List.replicate (Int.toNat (List.length x0.1.2.1:Int)) false),v115))
def f67.l16 (k:Nat) (x0:(((List (Int × (Int × Int))) × ((List (Int × (Int × (Int × (Int × (Int × ByteArray)))))) × (List (Int × Int)))) × ((List (List Int)) × ((List (List Int)) × (Option (List ((Int × Int) × Bool))))))) (x1:Int):Nat → ((List Int) × Int)→Option (List Int)
 | 0,_ => none
 | m16+1,(v27,v28) => if (decide ((v28:Int) < (List.length (List.replicate (Int.toNat (List.length x0.1.2.1:Int)) (0:Int)):Int))) then (if (0≤v28∧v28 < (List.length v27:Int)) then ((f67.l16 k x0 x1) m16 ((List.set v27 (Int.toNat v28) (-1:Int)),(IntKind.i64.wrap (v28 + (1:Int))))) else none) else (if (0≤x1∧x1 < (List.length x0.2.1:Int)) then (f67.l80 k x0 x1 k (v27,(([]:(List (Int × (Int × Int)))),()),(0:Int))) else none)
def f67 (k:Nat) (x0:(((List (Int × (Int × Int))) × ((List (Int × (Int × (Int × (Int × (Int × ByteArray)))))) × (List (Int × Int)))) × ((List (List Int)) × ((List (List Int)) × (Option (List ((Int × Int) × Bool))))))) (x1:Int):Option (List Int):=if (0 ≤ (List.length x0.1.2.1:Int)∧Int.toNat (List.length x0.1.2.1:Int)*8≤140737488355328) then (if (0 ≤ (List.length x0.1.2.1:Int)∧Int.toNat (List.length x0.1.2.1:Int)*1≤140737488355328) then (f67.l16 k x0 x1 k ((List.replicate (Int.toNat (List.length x0.1.2.1:Int)) (0:Int)),(0:Int))) else none) else none
theorem c67 (k:Nat) (x0:tN) (x1:Int) (r:(List Int)) (hF:f67 k x0 x1=some r):PCall Try.prog 67 [⟨sh32,some x0⟩,⟨(.int .i64),x1⟩] [⟨(.sl true 2 (.int .i64)),r⟩]:=by
 refine pcall_intro Try.func67 rfl rfl (Nat.le_of_ble_eq_true rfl) ?_
 intro w0 Zi a w h
 rw [f67] at hF
 refine wp_reg_seq tok (orc:=o0) (l:=[0,1]) nw h (by kernel_rfl) an fun a w h => ?_
 refine wp_reg_seq tok (orc:=o0) (l:=[0,1,5]) nw h (by kernel_rfl) an fun a w h => ?_
 obtain ⟨hc828,hF⟩:=of_if hF
 obtain ⟨hc829,hF⟩:=of_if hF
 refine wp_regy_seq tok (orc:=o0) (l:=[0,1,6,7]) ([],[(4,[24])],[],[(2,[5]),(3,[25])]) 5 nw h (by kernel_rfl) (by kernel_rfl) (ac hc828 (ac hc829 an)) fun a w h => ?_
 refine wp_seq ?_
 refine wp_reg_seq tok (orc:=o0) (l:=[0,1,6,7,28,29]) nw h (by kernel_rfl) an fun a w h => ?_
 refine wp_block ?_
 refine wp_loop_fuel (f67.l16 k x0 x1) (fun ((v27,v28):((List Int) × Int)) => [(0,.val sh32 (some x0)),(1,.val (.int .i64) x1),(6,.val (.sl true 2 (.int .i64)) v27),(7,.val (.sl true 4 .bool) (List.replicate (tZ (List.length x0.1.2.1:Int)) false)),(28,.val (.int .i64) (List.length (List.replicate (tZ (List.length x0.1.2.1:Int)) iO):Int)),(29,.val (.int .i64) v28)]) (fun v h => by obtain ⟨v27,v28⟩:=v; rw [f67.l16] at h; cases h) ?_ hF (h.arrive (l:=[0,1,6,7,28,29]) nw (by kernel_rfl))
 intro m16 v a w hF h
 obtain ⟨v27,v28⟩:=v
 rw [f67.l16] at hF
 refine wp_reg_seq tok (orc:=o0) (l:=[0,1,6,7,28,29,30]) nw h (by kernel_rfl) an fun a w h => ?_
 refine wp_seq <| wp_if h (b:=(decide ((v28:Int) < (List.length (List.replicate (tZ (List.length x0.1.2.1:Int)) iO):Int)))) (by kernel_rfl) (fun hb => ?_) (fun hb => ?_)
 ·replace hF:=of_t hb hF
  refine wp_skip ?_
  refine wp_seq <| wp_block ?_
  refine wp_reg_seq tok (orc:=o0) (l:=[0,1,6,7,8,28,29]) nw h (by kernel_rfl) an fun a w h => ?_
  obtain ⟨hc30,hF⟩:=of_if hF
  refine wp_reg tok (orc:=o0) (l:=[0,1,6,7,28,29]) nw h (by kernel_rfl) (ac hc30 an) fun a w h => ?_
  refine wp_reg tok (orc:=o0) (l:=[0,1,6,7,28,29]) nw h (by kernel_rfl) an fun a w h => ?_
  exact ⟨((List.set v27 (tZ v28) (-1:Int)),(w64 (v28 + (1:Int)))),hF,h.arrive (l:=[0,1,6,7,28,29]) nw (by kernel_rfl)⟩
 ·replace hF:=of_f hb hF
  refine wp_exit ?_
  refine wp_reg_seq tok (orc:=o0) (l:=[0,1,6,7,9]) nw h (by kernel_rfl) an fun a w h => ?_
  refine wp_seq ?_
  obtain ⟨hc827,hF⟩:=of_if hF
  refine wp_reg_seq tok (orc:=o0) (l:=[0,6,7,9,44,45,46]) nw h (by kernel_rfl) (ac hc827 an) fun a w h => ?_
  refine wp_block ?_
  refine wp_loop_fuel (f67.l80 k x0 x1) (fun ((v114,v115,v116):((List Int) × ((List (Int × (Int × Int))) × Unit) × Int)) => [(0,.val sh32 (some x0)),(6,.val (.sl true 2 (.int .i64)) v114),(7,.val (.sl true 4 .bool) (List.replicate (tZ (List.length x0.1.2.1:Int)) false)),(9,.val sh34 (some v115)),(44,.val (.sl false 2 (.int .i64)) (gD x0.2.1 (tZ x1) lO)),(45,.val (.int .i64) (List.length (gD x0.2.1 (tZ x1) lO):Int)),(46,.val (.int .i64) v116)]) (fun v h => by obtain ⟨v114,v115,v116⟩:=v; rw [f67.l80] at h; cases h) ?_ hF (h.arrive (l:=[0,6,7,9,44,45,46]) nw (by kernel_rfl))
  intro m80 v a w hF h
  obtain ⟨v114,v115,v116⟩:=v
  rw [f67.l80] at hF
  refine wp_reg_seq tok (orc:=o0) (l:=[0,6,7,9,44,45,46,47]) nw h (by kernel_rfl) an fun a w h => ?_
  refine wp_seq <| wp_if h (b:=(decide ((v116:Int) < (List.length (gD x0.2.1 (tZ x1) lO):Int)))) (by kernel_rfl) (fun hb => ?_) (fun hb => ?_)
  ·replace hF:=of_t hb hF
   refine wp_skip ?_
   refine wp_seq <| wp_block ?_
   obtain ⟨hc128,hF⟩:=of_if hF
   refine wp_reg_seq tok (orc:=o0) (l:=[0,6,7,9,11,44,45,46]) nw h (by kernel_rfl) (ac hc128 an) fun a w h => ?_
   obtain ⟨hc126,hF⟩:=of_if hF
   obtain ⟨hc127,hF⟩:=of_if hF
   refine wp_reg_seq tok (orc:=o0) (l:=[0,6,7,9,11,44,45,46]) nw h (by kernel_rfl) (ac hc126 (ac hc127 an)) fun a w h => ?_
   obtain ⟨hc124,hF⟩:=of_if hF
   obtain ⟨r123,hr125,hF⟩:=of_bind hF
   refine wp_reg tok (orc:=orcL [(69,[⟨.pt false 4294967295 (.pt true 109 (.st (.pair (.sl true 112 (.st (.pair (.int .i64) (.pair (.int .i64) (.int .i64))))) .unit))),some (some r123)⟩])]) (l:=[0,6,7,9,44,45,46]) nw h (by kernel_rfl) (ac hc124 (ac (c68 k v115 ((gD (List.set v114 (tZ (gD (gD x0.2.1 (tZ x1) lO) (tZ v116) iO)) (gD x0.1.2.1 (tZ (gD (gD x0.2.1 (tZ x1) lO) (tZ v116) iO)) zR).2.2.2.1) (tZ (gD (gD x0.2.1 (tZ x1) lO) (tZ v116) iO)) iO),(iO,(gD (gD x0.2.1 (tZ x1) lO) (tZ v116) iO))) r123 hr125) an)) fun a w h => ?_
   refine wp_reg tok (orc:=o0) (l:=[0,6,7,9,44,45,46]) nw h (by kernel_rfl) an fun a w h => ?_
   exact ⟨((List.set v114 (tZ (gD (gD x0.2.1 (tZ x1) lO) (tZ v116) iO)) (gD x0.1.2.1 (tZ (gD (gD x0.2.1 (tZ x1) lO) (tZ v116) iO)) zR).2.2.2.1),r123,(w64 (v116 + (1:Int)))),hF,h.arrive (l:=[0,6,7,9,44,45,46]) nw (by kernel_rfl)⟩
  ·replace hF:=of_f hb hF
   refine wp_exit ?_
   refine wp_seq <| wp_block ?_
   refine wp_loop_fuel (f67.l478 k x0) (fun ((v712,v713,v714):((List Int) × (List Bool) × ((List (Int × (Int × Int))) × Unit))) => [(0,.val sh32 (some x0)),(6,.val (.sl true 2 (.int .i64)) v712),(7,.val (.sl true 4 .bool) v713),(9,.val sh34 (some v714))]) (fun v h => by obtain ⟨v712,v713,v714⟩:=v; rw [f67.l478] at h; cases h) ?_ hF (h.arrive (l:=[0,6,7,9]) nw (by kernel_rfl))
   intro m478 v a w hF h
   obtain ⟨v712,v713,v714⟩:=v
   rw [f67.l478] at hF
   refine wp_seq ?_
   refine wp_reg_seq tok (orc:=o0) (l:=[0,6,7,9,76]) nw h (by kernel_rfl) an fun a w h => ?_
   refine wp_if h (b:=(decide (((List.length v714.1:Int):Int) > iO))) (by kernel_rfl) (fun hb => ?_) (fun hb => ?_)
   ·replace hF:=of_t hb hF
    refine wp_skip ?_
    refine wp_block ?_
    obtain ⟨r715,hr826,hF⟩:=of_bind hF
    refine wp_reg_seq tok (orc:=orcL [(78,[⟨.pt false 4294967295 (.pt true 109 (.st (.pair (.sl true 112 (.st (.pair (.int .i64) (.pair (.int .i64) (.int .i64))))) .unit))),some (some r715.2)⟩,⟨sh33,r715.1⟩])]) (l:=[0,6,7,9,12]) nw h (by kernel_rfl) (ac (c69 k v714 r715 hr826) an) fun a w h => ?_
    refine wp_seq ?_
    obtain ⟨hc825,hF⟩:=of_if hF
    refine wp_reg_seq tok (orc:=o0) (l:=[0,6,7,9,12,83]) nw h (by kernel_rfl) (ac hc825 an) fun a w h => ?_
    refine wp_if h (b:=(gD v713 (tZ r715.1.2.2) false)) (by kernel_rfl) (fun hb => ?_) (fun hb => ?_)
    ·replace hF:=of_t hb hF
     refine wp_exit ?_
     exact ⟨(v712,v713,r715.2),hF,h.arrive (l:=[0,6,7,9]) nw (by kernel_rfl)⟩
    ·replace hF:=of_f hb hF
     refine wp_skip ?_
     obtain ⟨hc824,hF⟩:=of_if hF
     refine wp_reg_seq tok (orc:=o0) (l:=[0,6,7,9,12]) nw h (by kernel_rfl) (ac hc824 an) fun a w h => ?_
     obtain ⟨hc822,hF⟩:=of_if hF
     obtain ⟨hc823,hF⟩:=of_if hF
     refine wp_regy_seq tok (orc:=o0) (l:=[0,6,7,9,12,103,104,105]) ([],[],[],[]) 18 nw h (by kernel_rfl) (by kernel_rfl) (ac hc822 (ac hc823 an)) fun a w h => ?_
     refine wp_block ?_
     refine wp_loop_fuel (f67.l716 k x0 r715 v713 ((f67.l478 k x0) m478)) (fun ((v788,v789,v790):((List Int) × ((List (Int × (Int × Int))) × Unit) × Int)) => [(0,.val sh32 (some x0)),(6,.val (.sl true 2 (.int .i64)) v788),(7,.val (.sl true 4 .bool) (List.set v713 (tZ r715.1.2.2) true)),(9,.val sh34 (some v789)),(12,.val sh35 (some r715.1)),(103,.val (.sl false 2 (.int .i64)) (gD x0.2.1 (tZ (gD x0.1.2.1 (tZ r715.1.2.2) zR).2.1) lO)),(104,.val (.int .i64) (List.length (gD x0.2.1 (tZ (gD x0.1.2.1 (tZ r715.1.2.2) zR).2.1) lO):Int)),(105,.val (.int .i64) v790)]) (fun v h => by obtain ⟨v788,v789,v790⟩:=v; rw [f67.l716] at h; cases h) ?_ hF (h.arrive (l:=[0,6,7,9,12,103,104,105]) nw (by kernel_rfl))
     intro m716 v a w hF h
     obtain ⟨v788,v789,v790⟩:=v
     rw [f67.l716] at hF
     refine wp_reg_seq tok (orc:=o0) (l:=[0,6,7,9,12,103,104,105,106]) nw h (by kernel_rfl) an fun a w h => ?_
     refine wp_seq <| wp_if h (b:=(decide ((v790:Int) < (List.length (gD x0.2.1 (tZ (gD x0.1.2.1 (tZ r715.1.2.2) zR).2.1) lO):Int)))) (by kernel_rfl) (fun hb => ?_) (fun hb => ?_)
     ·replace hF:=of_t hb hF
      refine wp_skip ?_
      refine wp_mid (fun a w => ∃ v:((List Int) × ((List (Int × (Int × Int))) × Unit)),f67.j807 k v790 ((f67.l716 k x0 r715 v713 ((f67.l478 k x0) m478)) m716) v=some r∧Rel w0 (fun _ => False) Zi Try.f67.ntmps ((fun ((v805,v806):((List Int) × ((List (Int × (Int × Int))) × Unit))) => ([(0,.val sh32 (some x0)),(6,.val (.sl true 2 (.int .i64)) v805),(7,.val (.sl true 4 .bool) (List.set v713 (tZ r715.1.2.2) true)),(9,.val sh34 (some v806)),(12,.val sh35 (some r715.1)),(103,.val (.sl false 2 (.int .i64)) (gD x0.2.1 (tZ (gD x0.1.2.1 (tZ r715.1.2.2) zR).2.1) lO)),(104,.val (.int .i64) (List.length (gD x0.2.1 (tZ (gD x0.1.2.1 (tZ r715.1.2.2) zR).2.1) lO):Int)),(105,.val (.int .i64) v790)]:SS)) v) a w) ?_ ?_
      ·
       refine wp_block ?_
       obtain ⟨hc821,hF⟩:=of_if hF
       refine wp_reg_seq tok (orc:=o0) (l:=[0,6,7,9,12,14,103,104,105]) nw h (by kernel_rfl) (ac hc821 an) fun a w h => ?_
       refine wp_seq ?_
       obtain ⟨hc820,hF⟩:=of_if hF
       refine wp_reg_seq tok (orc:=o0) (l:=[0,6,7,9,12,14,103,104,105,112]) nw h (by kernel_rfl) (ac hc820 an) fun a w h => ?_
       refine wp_if h (b:=(gD (List.set v713 (tZ r715.1.2.2) true) (tZ (gD (gD x0.2.1 (tZ (gD x0.1.2.1 (tZ r715.1.2.2) zR).2.1) lO) (tZ v790) iO)) false)) (by kernel_rfl) (fun hb => ?_) (fun hb => ?_)
       ·replace hF:=of_t hb hF
        refine wp_exit ?_
        exact ⟨(v788,v789),hF,h.arrive (l:=[0,6,7,9,12,103,104,105]) nw (by kernel_rfl)⟩
       ·replace hF:=of_f hb hF
        refine wp_skip ?_
        obtain ⟨r808,hr819,hF⟩:=of_bind hF
        refine wp_reg_seq tok (orc:=orcL [(117,[⟨(.int .i64),r808⟩])]) (l:=[0,6,7,9,12,14,15,103,104,105]) nw h (by kernel_rfl) (ac (c66 k x0 r715.1.2.2 (gD (gD x0.2.1 (tZ (gD x0.1.2.1 (tZ r715.1.2.2) zR).2.1) lO) (tZ v790) iO) r808 hr819) an) fun a w h => ?_
        refine wp_seq ?_
        refine wp_reg_seq tok (orc:=o0) (l:=[0,6,7,9,12,14,15,103,104,105,119]) nw h (by kernel_rfl) an fun a w h => ?_
        refine wp_if h (b:=(decide ((r808:Int) < iO))) (by kernel_rfl) (fun hb => ?_) (fun hb => ?_)
        ·replace hF:=of_t hb hF
         refine wp_exit ?_
         exact ⟨(v788,v789),hF,h.arrive (l:=[0,6,7,9,12,103,104,105]) nw (by kernel_rfl)⟩
        ·replace hF:=of_f hb hF
         refine wp_skip ?_
         obtain ⟨hc818,hF⟩:=of_if hF
         refine wp_regy_seq tok (orc:=o0) (l:=[0,6,7,9,12,14,16,103,104,105]) ([],[],[],[]) 15 nw h (by kernel_rfl) (by kernel_rfl) (ac hc818 an) fun a w h => ?_
         obtain ⟨hc816,hF⟩:=of_if hF
         obtain ⟨hc817,hF⟩:=of_if hF
         refine wp_reg_seq tok (orc:=o0) (l:=[0,6,7,9,12,14,16,103,104,105,146]) nw h (by kernel_rfl) (ac hc816 (ac hc817 an)) fun a w h => ?_
         obtain ⟨v809,hv815,hF⟩:=of_bind hF
         replace h:=h.cast (S':=[(0,.val sh32 (some x0)),(6,.val (.sl true 2 (.int .i64)) v788),(7,.val (.sl true 4 .bool) (List.set v713 (tZ r715.1.2.2) true)),(9,.val sh34 (some v789)),(12,.val sh35 (some r715.1)),(14,.val (.int .i64) (gD (gD x0.2.1 (tZ (gD x0.1.2.1 (tZ r715.1.2.2) zR).2.1) lO) (tZ v790) iO)),(16,.val (.int .i64) (w64 ((w64 (r715.1.1+r808)) + (gD x0.1.2.1 (tZ (gD (gD x0.2.1 (tZ (gD x0.1.2.1 (tZ r715.1.2.2) zR).2.1) lO) (tZ v790) iO)) zR).2.2.2.1))),(103,.val (.sl false 2 (.int .i64)) (gD x0.2.1 (tZ (gD x0.1.2.1 (tZ r715.1.2.2) zR).2.1) lO)),(104,.val (.int .i64) (List.length (gD x0.2.1 (tZ (gD x0.1.2.1 (tZ r715.1.2.2) zR).2.1) lO):Int)),(105,.val (.int .i64) v790),(146,.val .bool v809)]) (by cases hv815; kernel_rfl)
         refine wp_if h (b:=v809) (by kernel_rfl) (fun hb => ?_) (fun hb => ?_)
         ·replace hF:=of_t hb hF
          obtain ⟨hc814,hF⟩:=of_if hF
          refine wp_reg_seq tok (orc:=o0) (l:=[0,6,7,9,12,14,16,103,104,105]) nw h (by kernel_rfl) (ac hc814 an) fun a w h => ?_
          obtain ⟨v810,hv813,hF⟩:=of_bind hF
          replace h:=h.cast (S':=[(0,.val sh32 (some x0)),(6,.val (.sl true 2 (.int .i64)) v810),(7,.val (.sl true 4 .bool) (List.set v713 (tZ r715.1.2.2) true)),(9,.val sh34 (some v789)),(12,.val sh35 (some r715.1)),(14,.val (.int .i64) (gD (gD x0.2.1 (tZ (gD x0.1.2.1 (tZ r715.1.2.2) zR).2.1) lO) (tZ v790) iO)),(16,.val (.int .i64) (w64 ((w64 (r715.1.1+r808)) + (gD x0.1.2.1 (tZ (gD (gD x0.2.1 (tZ (gD x0.1.2.1 (tZ r715.1.2.2) zR).2.1) lO) (tZ v790) iO)) zR).2.2.2.1))),(103,.val (.sl false 2 (.int .i64)) (gD x0.2.1 (tZ (gD x0.1.2.1 (tZ r715.1.2.2) zR).2.1) lO)),(104,.val (.int .i64) (List.length (gD x0.2.1 (tZ (gD x0.1.2.1 (tZ r715.1.2.2) zR).2.1) lO):Int)),(105,.val (.int .i64) v790)]) (by cases hv813; kernel_rfl)
          obtain ⟨r811,hr812,hF⟩:=of_bind hF
          refine wp_reg tok (orc:=orcL [(155,[⟨.pt false 4294967295 (.pt true 109 (.st (.pair (.sl true 112 (.st (.pair (.int .i64) (.pair (.int .i64) (.int .i64))))) .unit))),some (some r811)⟩])]) (l:=[0,6,7,9,12,103,104,105]) nw h (by kernel_rfl) (ac (c68 k v789 ((w64 ((w64 (r715.1.1+r808)) + (gD x0.1.2.1 (tZ (gD (gD x0.2.1 (tZ (gD x0.1.2.1 (tZ r715.1.2.2) zR).2.1) lO) (tZ v790) iO)) zR).2.2.2.1)),(iO,(gD (gD x0.2.1 (tZ (gD x0.1.2.1 (tZ r715.1.2.2) zR).2.1) lO) (tZ v790) iO))) r811 hr812) an) fun a w h => ?_
          exact ⟨(v810,r811),hF,h.arrive (l:=[0,6,7,9,12,103,104,105]) nw (by kernel_rfl)⟩
         ·replace hF:=of_f hb hF
          refine wp_skip ?_
          exact ⟨(v788,v789),hF,h.arrive (l:=[0,6,7,9,12,103,104,105]) nw (by kernel_rfl)⟩
      ·rintro a w ⟨v,hF,h⟩
       obtain ⟨v805,v806⟩:=v
       rw [f67.j807] at hF
       refine wp_reg tok (orc:=o0) (l:=[0,6,7,9,12,103,104,105]) nw h (by kernel_rfl) an fun a w h => ?_
       exact ⟨(v805,v806,(w64 (v790 + (1:Int)))),hF,h.arrive (l:=[0,6,7,9,12,103,104,105]) nw (by kernel_rfl)⟩
     ·replace hF:=of_f hb hF
      refine wp_exit ?_
      exact ⟨(v788,(List.set v713 (tZ r715.1.2.2) true),v789),hF,h.arrive (l:=[0,6,7,9]) nw (by kernel_rfl)⟩
   ·replace hF:=of_f hb hF
    refine wp_exit ?_
    refine wp_reg_seq tok (orc:=o0) (l:=[4,6]) nw h (by kernel_rfl) an fun a w h => ?_
    cases hF
    exact wp_ret (ret_okR tok h rfl (by kernel_rfl)).1
def f42.j160 (k:Nat) (v149:Int) (q101:((List Int) × Int)→Option (List Int)):(List Int)→Option (List Int)
 | v159 => q101 (v159,(IntKind.i64.wrap (v149 + (1:Int))))
def f42.l101 (k:Nat) (x0:(((List (Int × (Int × Int))) × ((List (Int × (Int × (Int × (Int × (Int × ByteArray)))))) × (List (Int × Int)))) × ((List (List Int)) × ((List (List Int)) × (Option (List ((Int × Int) × Bool))))))) (r1:(List Int)) (x1:Int):Nat → ((List Int) × Int)→Option (List Int)
 | 0,_ => none
 | m101+1,(v148,v149) => if (decide ((v149:Int) < (List.length x0.1.2.1:Int))) then (if (0≤v149∧v149 < (List.length x0.1.2.1:Int)) then (if (0≤v149∧v149 < (List.length r1:Int)) then (if (((decide (((List.getD r1 (Int.toNat v149) (0:Int)):Int) ≥ (0:Int)))=true) → (0 ≤ (List.getD x0.1.2.1 (Int.toNat v149) ((0:Int),((0:Int),((0:Int),((0:Int),((0:Int),(⟨#[]⟩:ByteArray))))))).2.1 ∧ (List.getD x0.1.2.1 (Int.toNat v149) ((0:Int),((0:Int),((0:Int),((0:Int),((0:Int),(⟨#[]⟩:ByteArray))))))).2.1 < (List.length v148:Int))) then (if ((((decide (((List.getD r1 (Int.toNat v149) (0:Int)):Int) ≥ (0:Int)))=true) ∧ ((decide (((List.getD v148 (Int.toNat (List.getD x0.1.2.1 (Int.toNat v149) ((0:Int),((0:Int),((0:Int),((0:Int),((0:Int),(⟨#[]⟩:ByteArray))))))).2.1) (0:Int)):Int) < (0:Int)))=false)) → (0≤v149∧v149 < (List.length r1:Int))) then (if ((((decide (((List.getD r1 (Int.toNat v149) (0:Int)):Int) ≥ (0:Int)))=true) ∧ ((decide (((List.getD v148 (Int.toNat (List.getD x0.1.2.1 (Int.toNat v149) ((0:Int),((0:Int),((0:Int),((0:Int),((0:Int),(⟨#[]⟩:ByteArray))))))).2.1) (0:Int)):Int) < (0:Int)))=false)) → (0 ≤ (List.getD x0.1.2.1 (Int.toNat v149) ((0:Int),((0:Int),((0:Int),((0:Int),((0:Int),(⟨#[]⟩:ByteArray))))))).2.1 ∧ (List.getD x0.1.2.1 (Int.toNat v149) ((0:Int),((0:Int),((0:Int),((0:Int),((0:Int),(⟨#[]⟩:ByteArray))))))).2.1 < (List.length v148:Int))) then ((some ((bif (decide (((List.getD r1 (Int.toNat v149) (0:Int)):Int) ≥ (0:Int))) then (bif (decide (((List.getD v148 (Int.toNat (List.getD x0.1.2.1 (Int.toNat v149) ((0:Int),((0:Int),((0:Int),((0:Int),((0:Int),(⟨#[]⟩:ByteArray))))))).2.1) (0:Int)):Int) < (0:Int))) then true else (decide (((List.getD r1 (Int.toNat v149) (0:Int)):Int) < (List.getD v148 (Int.toNat (List.getD x0.1.2.1 (Int.toNat v149) ((0:Int),((0:Int),((0:Int),((0:Int),((0:Int),(⟨#[]⟩:ByteArray))))))).2.1) (0:Int))))) else false):Bool)).bind fun v161 => (if v161 then (if (0≤v149∧v149 < (List.length r1:Int)) then (if (0 ≤ (List.getD x0.1.2.1 (Int.toNat v149) ((0:Int),((0:Int),((0:Int),((0:Int),((0:Int),(⟨#[]⟩:ByteArray))))))).2.1 ∧ (List.getD x0.1.2.1 (Int.toNat v149) ((0:Int),((0:Int),((0:Int),((0:Int),((0:Int),(⟨#[]⟩:ByteArray))))))).2.1 < (List.length v148:Int)) then (f42.j160 k v149 ((f42.l101 k x0 r1 x1) m101) (List.set v148 (Int.toNat (List.getD x0.1.2.1 (Int.toNat v149) ((0:Int),((0:Int),((0:Int),((0:Int),((0:Int),(⟨#[]⟩:ByteArray))))))).2.1) (List.getD r1 (Int.toNat v149) (0:Int)))) else none) else none) else (f42.j160 k v149 ((f42.l101 k x0 r1 x1) m101) v148))) else none) else none) else none) else none) else none) else (if (0≤x1∧x1 < (List.length v148:Int)) then (some (List.set v148 (Int.toNat x1) (0:Int))) else none)
def f42.l17 (k:Nat) (x0:(((List (Int × (Int × Int))) × ((List (Int × (Int × (Int × (Int × (Int × ByteArray)))))) × (List (Int × Int)))) × ((List (List Int)) × ((List (List Int)) × (Option (List ((Int × Int) × Bool))))))) (r1:(List Int)) (x1:Int):Nat → ((List Int) × Int)→Option (List Int)
 | 0,_ => none
 | m17+1,(v28,v29) => if (decide ((v29:Int) < (List.length (List.replicate (Int.toNat (List.length x0.1.1:Int)) (0:Int)):Int))) then (if (0≤v29∧v29 < (List.length v28:Int)) then ((f42.l17 k x0 r1 x1) m17 ((List.set v28 (Int.toNat v29) (-1:Int)),(IntKind.i64.wrap (v29 + (1:Int))))) else none) else (f42.l101 k x0 r1 x1 k (v28,(0:Int)))
def f42 (k:Nat) (x0:(((List (Int × (Int × Int))) × ((List (Int × (Int × (Int × (Int × (Int × ByteArray)))))) × (List (Int × Int)))) × ((List (List Int)) × ((List (List Int)) × (Option (List ((Int × Int) × Bool))))))) (x1:Int):Option (List Int):=(f67 k x0 x1).bind fun r1 => (if (0 ≤ (List.length x0.1.1:Int)∧Int.toNat (List.length x0.1.1:Int)*8≤140737488355328) then (f42.l17 k x0 r1 x1 k ((List.replicate (Int.toNat (List.length x0.1.1:Int)) (0:Int)),(0:Int))) else none)
theorem c42 (k:Nat) (x0:tN) (x1:Int) (r:(List Int)) (hF:f42 k x0 x1=some r):PCall Try.prog 42 [⟨sh32,some x0⟩,⟨(.int .i64),x1⟩] [⟨(.sl true 2 (.int .i64)),r⟩]:=by
 refine pcall_intro Try.func42 rfl rfl (Nat.le_of_ble_eq_true rfl) ?_
 intro w0 Zi a w h
 rw [f42] at hF
 refine wp_reg_seq tok (orc:=o0) (l:=[0,1]) nw h (by kernel_rfl) an fun a w h => ?_
 obtain ⟨r1,hr172,hF⟩:=of_bind hF
 refine wp_reg_seq tok (orc:=orcL [(12,[⟨(.sl true 2 (.int .i64)),r1⟩])]) (l:=[0,1,5]) nw h (by kernel_rfl) (ac (c67 k x0 x1 r1 hr172) an) fun a w h => ?_
 obtain ⟨hc171,hF⟩:=of_if hF
 refine wp_reg_seq tok (orc:=o0) (l:=[0,1,5,6]) nw h (by kernel_rfl) (ac hc171 an) fun a w h => ?_
 refine wp_seq ?_
 refine wp_reg_seq tok (orc:=o0) (l:=[0,1,5,6,21,22]) nw h (by kernel_rfl) an fun a w h => ?_
 refine wp_block ?_
 refine wp_loop_fuel (f42.l17 k x0 r1 x1) (fun ((v28,v29):((List Int) × Int)) => [(0,.val sh32 (some x0)),(1,.val (.int .i64) x1),(5,.val (.sl true 2 (.int .i64)) r1),(6,.val (.sl true 2 (.int .i64)) v28),(21,.val (.int .i64) (List.length (List.replicate (tZ (List.length x0.1.1:Int)) iO):Int)),(22,.val (.int .i64) v29)]) (fun v h => by obtain ⟨v28,v29⟩:=v; rw [f42.l17] at h; cases h) ?_ hF (h.arrive (l:=[0,1,5,6,21,22]) nw (by kernel_rfl))
 intro m17 v a w hF h
 obtain ⟨v28,v29⟩:=v
 rw [f42.l17] at hF
 refine wp_reg_seq tok (orc:=o0) (l:=[0,1,5,6,21,22,23]) nw h (by kernel_rfl) an fun a w h => ?_
 refine wp_seq <| wp_if h (b:=(decide ((v29:Int) < (List.length (List.replicate (tZ (List.length x0.1.1:Int)) iO):Int)))) (by kernel_rfl) (fun hb => ?_) (fun hb => ?_)
 ·replace hF:=of_t hb hF
  refine wp_skip ?_
  refine wp_seq <| wp_block ?_
  refine wp_reg_seq tok (orc:=o0) (l:=[0,1,5,6,7,21,22]) nw h (by kernel_rfl) an fun a w h => ?_
  obtain ⟨hc31,hF⟩:=of_if hF
  refine wp_reg tok (orc:=o0) (l:=[0,1,5,6,21,22]) nw h (by kernel_rfl) (ac hc31 an) fun a w h => ?_
  refine wp_reg tok (orc:=o0) (l:=[0,1,5,6,21,22]) nw h (by kernel_rfl) an fun a w h => ?_
  exact ⟨((List.set v28 (tZ v29) (-1:Int)),(w64 (v29 + (1:Int)))),hF,h.arrive (l:=[0,1,5,6,21,22]) nw (by kernel_rfl)⟩
 ·replace hF:=of_f hb hF
  refine wp_exit ?_
  refine wp_seq ?_
  refine wp_reg_seq tok (orc:=o0) (l:=[1,5,6,33,34,35]) nw h (by kernel_rfl) an fun a w h => ?_
  refine wp_block ?_
  refine wp_loop_fuel (f42.l101 k x0 r1 x1) (fun ((v148,v149):((List Int) × Int)) => [(1,.val (.int .i64) x1),(5,.val (.sl true 2 (.int .i64)) r1),(6,.val (.sl true 2 (.int .i64)) v148),(33,.val sh30 x0.1.2.1),(34,.val (.int .i64) (List.length x0.1.2.1:Int)),(35,.val (.int .i64) v149)]) (fun v h => by obtain ⟨v148,v149⟩:=v; rw [f42.l101] at h; cases h) ?_ hF (h.arrive (l:=[1,5,6,33,34,35]) nw (by kernel_rfl))
  intro m101 v a w hF h
  obtain ⟨v148,v149⟩:=v
  rw [f42.l101] at hF
  refine wp_reg_seq tok (orc:=o0) (l:=[1,5,6,33,34,35,36]) nw h (by kernel_rfl) an fun a w h => ?_
  refine wp_seq <| wp_if h (b:=(decide ((v149:Int) < (List.length x0.1.2.1:Int)))) (by kernel_rfl) (fun hb => ?_) (fun hb => ?_)
  ·replace hF:=of_t hb hF
   refine wp_skip ?_
   refine wp_mid (fun a w => ∃ v:(List Int),f42.j160 k v149 ((f42.l101 k x0 r1 x1) m101) v=some r∧Rel w0 (fun _ => False) Zi Try.f42.ntmps ((fun (v159:(List Int)) => ([(1,.val (.int .i64) x1),(5,.val (.sl true 2 (.int .i64)) r1),(6,.val (.sl true 2 (.int .i64)) v159),(33,.val sh30 x0.1.2.1),(34,.val (.int .i64) (List.length x0.1.2.1:Int)),(35,.val (.int .i64) v149)]:SS)) v) a w) ?_ ?_
   ·
    refine wp_block ?_
    obtain ⟨hc169,hF⟩:=of_if hF
    refine wp_reg_seq tok (orc:=o0) (l:=[1,5,6,8,9,33,34,35]) nw h (by kernel_rfl) (ac hc169 an) fun a w h => ?_
    obtain ⟨hc165,hF⟩:=of_if hF
    obtain ⟨hc166,hF⟩:=of_if hF
    obtain ⟨hc167,hF⟩:=of_if hF
    obtain ⟨hc168,hF⟩:=of_if hF
    refine wp_regy_seq tok (orc:=o0) (l:=[1,5,6,8,9,33,34,35,64]) ([],[],[],[]) 25 nw h (by kernel_rfl) (by kernel_rfl) (ac hc165 (ac hc166 (ac hc167 (ac hc168 an)))) fun a w h => ?_
    obtain ⟨v161,hv164,hF⟩:=of_bind hF
    replace h:=h.cast (S':=[(1,.val (.int .i64) x1),(5,.val (.sl true 2 (.int .i64)) r1),(6,.val (.sl true 2 (.int .i64)) v148),(8,.val (.int .i64) v149),(9,.val sh19 (some (gD x0.1.2.1 (tZ v149) zR))),(33,.val sh30 x0.1.2.1),(34,.val (.int .i64) (List.length x0.1.2.1:Int)),(35,.val (.int .i64) v149),(64,.val .bool v161)]) (by cases hv164; kernel_rfl)
    refine wp_if h (b:=v161) (by kernel_rfl) (fun hb => ?_) (fun hb => ?_)
    ·replace hF:=of_t hb hF
     obtain ⟨hc162,hF⟩:=of_if hF
     obtain ⟨hc163,hF⟩:=of_if hF
     refine wp_regy tok (orc:=o0) (l:=[1,5,6,33,34,35]) ([],[],[],[]) 8 nw h (by kernel_rfl) (by kernel_rfl) (ac hc162 (ac hc163 an)) fun a w h => ?_
     exact ⟨(List.set v148 (tZ (gD x0.1.2.1 (tZ v149) zR).2.1) (gD r1 (tZ v149) iO)),hF,h.arrive (l:=[1,5,6,33,34,35]) nw (by kernel_rfl)⟩
    ·replace hF:=of_f hb hF
     refine wp_skip ?_
     exact ⟨v148,hF,h.arrive (l:=[1,5,6,33,34,35]) nw (by kernel_rfl)⟩
   ·rintro a w ⟨v159,hF,h⟩
    rw [f42.j160] at hF
    refine wp_reg tok (orc:=o0) (l:=[1,5,6,33,34,35]) nw h (by kernel_rfl) an fun a w h => ?_
    exact ⟨(v159,(w64 (v149 + (1:Int)))),hF,h.arrive (l:=[1,5,6,33,34,35]) nw (by kernel_rfl)⟩
  ·replace hF:=of_f hb hF
   refine wp_exit ?_
   obtain ⟨hc170,hF⟩:=of_if hF
   refine wp_reg_seq tok (orc:=o0) (l:=[6]) nw h (by kernel_rfl) (ac hc170 an) fun a w h => ?_
   refine wp_reg_seq tok (orc:=o0) (l:=[4,6]) nw h (by kernel_rfl) an fun a w h => ?_
   cases hF
   exact wp_ret (ret_okR tok h rfl (by kernel_rfl)).1
def f16 (k:Nat) (x0:((List (Int × (Int × Int))) × ((List (Int × (Int × (Int × (Int × (Int × ByteArray)))))) × (List (Int × Int))))) (x1:Int):Option (List Int):=(f9 k x0).bind fun r1 => (if (!r1) then (some ([]:(List Int))) else ((f36 k x0).bind fun r2 => ((f37 k r2 x1).bind fun r3 => (if (!r3) then (some ([]:(List Int))) else ((f42 k r2 x1).bind fun r4 => (some r4))))))
theorem c16 (k:Nat) (x0:tG) (x1:Int) (r:(List Int)) (hF:f16 k x0 x1=some r):PCall Try.prog 16 [⟨sh18,x0⟩,⟨(.int .i64),x1⟩] [⟨(.sl true 2 (.int .i64)),r⟩]:=by
 refine pcall_intro Try.func16 rfl rfl (Nat.le_of_ble_eq_true rfl) ?_
 intro w0 Zi a w h
 rw [f16] at hF
 refine wp_reg_seq tok (orc:=o0) (l:=[1,2]) nw h (by kernel_rfl) an fun a w h => ?_
 refine wp_seq ?_
 obtain ⟨r1,hr8,hF⟩:=of_bind hF
 refine wp_reg_seq tok (orc:=orcL [(7,[⟨.bool,r1⟩])]) (l:=[1,2,8]) nw h (by kernel_rfl) (ac (c9 k x0 r1 hr8) an) fun a w h => ?_
 refine wp_if h (b:=(!r1)) (by kernel_rfl) (fun hb => ?_) (fun hb => ?_)
 ·replace hF:=of_t hb hF
  refine wp_reg_seq tok (orc:=o0) (l:=[4]) nw h (by kernel_rfl) an fun a w h => ?_
  cases hF
  exact wp_ret (ret_okR tok h rfl (by kernel_rfl)).1
 ·replace hF:=of_f hb hF
  refine wp_skip ?_
  obtain ⟨r2,hr7,hF⟩:=of_bind hF
  refine wp_reg_seq tok (orc:=orcL [(10,[⟨sh31,some r2⟩])]) (l:=[1,5]) nw h (by kernel_rfl) (ac (c36 k x0 r2 hr7) an) fun a w h => ?_
  refine wp_seq ?_
  obtain ⟨r3,hr6,hF⟩:=of_bind hF
  refine wp_reg_seq tok (orc:=orcL [(13,[⟨.bool,r3⟩])]) (l:=[1,5,14]) nw h (by kernel_rfl) (ac (c37 k r2 x1 r3 hr6) an) fun a w h => ?_
  refine wp_if h (b:=(!r3)) (by kernel_rfl) (fun hb => ?_) (fun hb => ?_)
  ·replace hF:=of_t hb hF
   refine wp_reg_seq tok (orc:=o0) (l:=[4]) nw h (by kernel_rfl) an fun a w h => ?_
   cases hF
   exact wp_ret (ret_okR tok h rfl (by kernel_rfl)).1
  ·replace hF:=of_f hb hF
   refine wp_skip ?_
   obtain ⟨r4,hr5,hF⟩:=of_bind hF
   refine wp_reg_seq tok (orc:=orcL [(17,[⟨(.sl true 2 (.int .i64)),r4⟩])]) (l:=[4]) nw h (by kernel_rfl) (ac (c42 k r2 x1 r4 hr5) an) fun a w h => ?_
   cases hF
   exact wp_ret (ret_okR tok h rfl (by kernel_rfl)).1
def f43 (k:Nat) (x0:((List (Int × (Int × Int))) × ((List (Int × (Int × (Int × (Int × (Int × ByteArray)))))) × (List (Int × Int))))):Option ((List (Int × (Int × Int))) × ((List (Int × (Int × (Int × (Int × (Int × ByteArray)))))) × (List (Int × Int)))):=if ((List.length ([]:List (Int × (Int × Int)))+List.length x0.1)*24≤140737488355328) then (if ((List.length ([]:List (Int × (Int × (Int × (Int × (Int × ByteArray))))))+List.length x0.2.1)*56≤140737488355328) then (if ((List.length ([]:List (Int × Int))+List.length x0.2.2)*16≤140737488355328) then (some ((([]:List (Int × (Int × Int))) ++ x0.1),((([]:List (Int × (Int × (Int × (Int × (Int × ByteArray)))))) ++ x0.2.1),(([]:List (Int × Int)) ++ x0.2.2)))) else none) else none) else none
theorem c43 (k:Nat) (x0:tG) (r:tG) (hF:f43 k x0=some r):PCall Try.prog 43 [⟨sh18,x0⟩] [⟨sh20,r⟩]:=by
 refine pcall_intro Try.func43 rfl rfl (Nat.le_of_ble_eq_true rfl) ?_
 intro w0 Zi a w h
 rw [f43] at hF
 refine wp_reg_seq tok (orc:=o0) (l:=[1,2]) nw h (by kernel_rfl) an fun a w h => ?_
 obtain ⟨hc1,hF⟩:=of_if hF
 obtain ⟨hc2,hF⟩:=of_if hF
 obtain ⟨hc3,hF⟩:=of_if hF
 refine wp_regy_seq tok (orc:=o0) (l:=[2]) ([],[(3,[3]),(7,[7])],[],[(4,[]),(5,[1]),(6,[1,8]),(8,[]),(9,[1]),(10,[1,12])]) 11 nw h (by kernel_rfl) (by kernel_rfl) (ac hc1 (ac hc2 (ac hc3 an))) fun a w h => ?_
 cases hF
 exact wp_ret (ret_okR tok h rfl (by kernel_rfl)).1
def f44.j4 (k:Nat):Int→Option Int
 | v3 => some v3
def f44.j2 (k:Nat):Int→Option Int
 | v1 => if (decide ((v1:Int) > (1000000:Int))) then (f44.j4 k (1000000:Int)) else (f44.j4 k v1)
def f44 (k:Nat) (x0:Int) (x1:Int):Option Int:=if (((100:Int):Int)≠0) then (if (decide (((IntKind.i64.wrap (Int.tdiv (IntKind.i64.wrap ((IntKind.i64.wrap (x0*x1)) + (99:Int))) (100:Int))):Int) < (1:Int))) then (f44.j2 k (1:Int)) else (f44.j2 k (IntKind.i64.wrap (Int.tdiv (IntKind.i64.wrap ((IntKind.i64.wrap (x0*x1)) + (99:Int))) (100:Int))))) else none
theorem c44 (k:Nat) (x0:Int) (x1:Int) (r:Int) (hF:f44 k x0 x1=some r):PCall Try.prog 44 [⟨(.int .i64),x0⟩,⟨(.int .i64),x1⟩] [⟨(.int .i64),r⟩]:=by
 refine pcall_intro Try.func44 rfl rfl (Nat.le_of_ble_eq_true rfl) ?_
 intro w0 Zi a w h
 rw [f44] at hF
 refine wp_reg_seq tok (orc:=o0) (l:=[0,1]) nw h (by kernel_rfl) an fun a w h => ?_
 obtain ⟨hc5,hF⟩:=of_if hF
 refine wp_reg_seq tok (orc:=o0) (l:=[5]) nw h (by kernel_rfl) (ac hc5 an) fun a w h => ?_
 refine wp_seq ?_
 refine wp_reg_seq tok (orc:=o0) (l:=[5,12]) nw h (by kernel_rfl) an fun a w h => ?_
 refine wp_midT (fun a w => ∃ v:Int,f44.j2 k v=some r∧Rel w0 (fun _ => False) Zi Try.f44.ntmps ((fun (v1:Int) => ([(5,.val (.int .i64) v1)]:SS)) v) a w) ?_ ?_
 ·
  refine wp_if h (b:=(decide (((w64 (Int.tdiv (w64 ((w64 (x0*x1)) + (99:Int))) (100:Int))):Int) < (1:Int)))) (by kernel_rfl) (fun hb => ?_) (fun hb => ?_)
  ·replace hF:=of_t hb hF
   refine wp_reg tok (orc:=o0) (l:=[5]) nw h (by kernel_rfl) an fun a w h => ?_
   exact ⟨(1:Int),hF,h.arrive (l:=[5]) nw (by kernel_rfl)⟩
  ·replace hF:=of_f hb hF
   refine wp_skip ?_
   exact ⟨(w64 (Int.tdiv (w64 ((w64 (x0*x1)) + (99:Int))) (100:Int))),hF,h.arrive (l:=[5]) nw (by kernel_rfl)⟩
 ·rintro a w ⟨v1,hF,h⟩
  rw [f44.j2] at hF
  refine wp_seq ?_
  refine wp_reg_seq tok (orc:=o0) (l:=[5,14]) nw h (by kernel_rfl) an fun a w h => ?_
  refine wp_midT (fun a w => ∃ v:Int,f44.j4 k v=some r∧Rel w0 (fun _ => False) Zi Try.f44.ntmps ((fun (v3:Int) => ([(5,.val (.int .i64) v3)]:SS)) v) a w) ?_ ?_
  ·
   refine wp_if h (b:=(decide ((v1:Int) > (1000000:Int)))) (by kernel_rfl) (fun hb => ?_) (fun hb => ?_)
   ·replace hF:=of_t hb hF
    refine wp_reg tok (orc:=o0) (l:=[5]) nw h (by kernel_rfl) an fun a w h => ?_
    exact ⟨(1000000:Int),hF,h.arrive (l:=[5]) nw (by kernel_rfl)⟩
   ·replace hF:=of_f hb hF
    refine wp_skip ?_
    exact ⟨v1,hF,h.arrive (l:=[5]) nw (by kernel_rfl)⟩
  ·rintro a w ⟨v3,hF,h⟩
   rw [f44.j4] at hF
   refine wp_reg_seq tok (orc:=o0) (l:=[4]) nw h (by kernel_rfl) an fun a w h => ?_
   cases hF
   exact wp_ret (ret_okR tok h rfl (by kernel_rfl)).1
def f17.j139 (k:Nat) (v130:Int) (q90:(((List (Int × (Int × Int))) × ((List (Int × (Int × (Int × (Int × (Int × ByteArray)))))) × (List (Int × Int)))) × Int)→Option ((List (Int × (Int × Int))) × ((List (Int × (Int × (Int × (Int × (Int × ByteArray)))))) × (List (Int × Int))))):((List (Int × (Int × Int))) × ((List (Int × (Int × (Int × (Int × (Int × ByteArray)))))) × (List (Int × Int))))→Option ((List (Int × (Int × Int))) × ((List (Int × (Int × (Int × (Int × (Int × ByteArray)))))) × (List (Int × Int))))
 | v138 => q90 (v138,(IntKind.i64.wrap (v130 + (1:Int))))
def f17.l90 (k:Nat) (r32:((List (Int × (Int × Int))) × ((List (Int × (Int × (Int × (Int × (Int × ByteArray)))))) × (List (Int × Int))))) (v28:(List (Int × Bool))) (x2:Int):Nat → (((List (Int × (Int × Int))) × ((List (Int × (Int × (Int × (Int × (Int × ByteArray)))))) × (List (Int × Int)))) × Int)→Option ((List (Int × (Int × Int))) × ((List (Int × (Int × (Int × (Int × (Int × ByteArray)))))) × (List (Int × Int))))
 | 0,_ => none
 | m90+1,(v129,v130) => if (decide ((v130:Int) < (List.length r32.2.1:Int))) then (if (0≤v130∧v130 < (List.length v129.2.1:Int)) then (if (mget (Sh.beq (.int .i64)) (some v28) (List.getD v129.2.1 (Int.toNat v130) ((0:Int),((0:Int),((0:Int),((0:Int),((0:Int),(⟨#[]⟩:ByteArray))))))).2.2.1 false) then (if (0≤v130∧v130 < (List.length v129.2.1:Int)) then ((f44 k (List.getD v129.2.1 (Int.toNat v130) ((0:Int),((0:Int),((0:Int),((0:Int),((0:Int),(⟨#[]⟩:ByteArray))))))).2.2.2.1 x2).bind fun r140 => (if (0≤v130∧v130 < (List.length v129.2.1:Int)) then ((some ((List.set v129.2.1 (Int.toNat v130) ((List.getD v129.2.1 (Int.toNat v130) ((0:Int),((0:Int),((0:Int),((0:Int),((0:Int),(⟨#[]⟩:ByteArray))))))).1,((List.getD v129.2.1 (Int.toNat v130) ((0:Int),((0:Int),((0:Int),((0:Int),((0:Int),(⟨#[]⟩:ByteArray))))))).2.1,((List.getD v129.2.1 (Int.toNat v130) ((0:Int),((0:Int),((0:Int),((0:Int),((0:Int),(⟨#[]⟩:ByteArray))))))).2.2.1,(r140,(List.getD v129.2.1 (Int.toNat v130) ((0:Int),((0:Int),((0:Int),((0:Int),((0:Int),(⟨#[]⟩:ByteArray))))))).2.2.2.2))))):(List (Int × (Int × (Int × (Int × (Int × ByteArray)))))))).bind fun v141 => (f17.j139 k v130 ((f17.l90 k r32 v28 x2) m90) (v129.1,(v141,v129.2.2)))) else none)) else none) else (f17.j139 k v130 ((f17.l90 k r32 v28 x2) m90) v129)) else none) else (some v129)
def f17.l17 (k:Nat) (x1:(List Int)) (x0:((List (Int × (Int × Int))) × ((List (Int × (Int × (Int × (Int × (Int × ByteArray)))))) × (List (Int × Int))))) (x2:Int):Nat → ((List (Int × Bool)) × Int)→Option ((List (Int × (Int × Int))) × ((List (Int × (Int × (Int × (Int × (Int × ByteArray)))))) × (List (Int × Int))))
 | 0,_ => none
 | m17+1,(v28,v29) => if (decide ((v29:Int) < (List.length x1:Int))) then (if (0≤v29∧v29 < (List.length x1:Int)) then ((f17.l17 k x1 x0 x2) m17 ((mput (Sh.beq (.int .i64)) (List.getD x1 (Int.toNat v29) (0:Int)) true v28),(IntKind.i64.wrap (v29 + (1:Int))))) else none) else ((f43 k x0).bind fun r32 => (f17.l90 k r32 v28 x2 k (r32,(0:Int))))
def f17 (k:Nat) (x0:((List (Int × (Int × Int))) × ((List (Int × (Int × (Int × (Int × (Int × ByteArray)))))) × (List (Int × Int))))) (x1:(List Int)) (x2:Int):Option ((List (Int × (Int × Int))) × ((List (Int × (Int × (Int × (Int × (Int × ByteArray)))))) × (List (Int × Int)))):=(f9 k x0).bind fun r1 => (if (bif (bif (bif (!r1) then true else (decide ((x2:Int) < (1:Int)))) then true else (decide ((x2:Int) > (10000:Int)))) then true else (decide (((List.length x1:Int):Int) > (1000:Int)))) then (some (([]:(List (Int × (Int × Int)))),(([]:(List (Int × (Int × (Int × (Int × (Int × ByteArray))))))),([]:(List (Int × Int)))))) else (f17.l17 k x1 x0 x2 k (([]:(List (Int × Bool))),(0:Int))))
theorem c17 (k:Nat) (x0:tG) (x1:(List Int)) (x2:Int) (r:tG) (hF:f17 k x0 x1 x2=some r):PCall Try.prog 17 [⟨sh18,x0⟩,⟨(.sl false 2 (.int .i64)),x1⟩,⟨(.int .i64),x2⟩] [⟨sh20,r⟩]:=by
 refine pcall_intro Try.func17 rfl rfl (Nat.le_of_ble_eq_true rfl) ?_
 intro w0 Zi a w h
 rw [f17] at hF
 refine wp_reg_seq tok (orc:=o0) (l:=[1,2,3,6]) nw h (by kernel_rfl) an fun a w h => ?_
 refine wp_seq ?_
 obtain ⟨r1,hr148,hF⟩:=of_bind hF
 refine wp_reg_seq tok (orc:=orcL [(13,[⟨.bool,r1⟩])]) (l:=[1,2,3,6,27]) nw h (by kernel_rfl) (ac (c9 k x0 r1 hr148) an) fun a w h => ?_
 refine wp_if h (b:=(bif (bif (bif (!r1) then true else (decide ((x2:Int) < (1:Int)))) then true else (decide ((x2:Int) > (10000:Int)))) then true else (decide (((List.length x1:Int):Int) > (1000:Int))))) (by kernel_rfl) (fun hb => ?_) (fun hb => ?_)
 ·replace hF:=of_t hb hF
  refine wp_reg_seq tok (orc:=o0) (l:=[6]) nw h (by kernel_rfl) an fun a w h => ?_
  cases hF
  exact wp_ret (ret_okR tok h rfl (by kernel_rfl)).1
 ·replace hF:=of_f hb hF
  refine wp_skip ?_
  refine wp_reg_seq tok (orc:=o0) (l:=[1,2,3,6,7]) nw h (by kernel_rfl) an fun a w h => ?_
  refine wp_seq ?_
  refine wp_reg_seq tok (orc:=o0) (l:=[2,3,6,7,30,31,32]) nw h (by kernel_rfl) an fun a w h => ?_
  refine wp_block ?_
  refine wp_loop_fuel (f17.l17 k x1 x0 x2) (fun ((v28,v29):((List (Int × Bool)) × Int)) => [(2,.val (.int .i64) x2),(3,.val sh17 (some x0)),(6,.val sh16 (some (([]:(List (Int × (Int × Int)))),(([]:(List (Int × (Int × (Int × (Int × (Int × ByteArray))))))),([]:(List (Int × Int))))))),(7,.val sh36 (some v28)),(30,.val (.sl false 2 (.int .i64)) x1),(31,.val (.int .i64) (List.length x1:Int)),(32,.val (.int .i64) v29)]) (fun v h => by obtain ⟨v28,v29⟩:=v; rw [f17.l17] at h; cases h) ?_ hF (h.arrive (l:=[2,3,6,7,30,31,32]) nw (by kernel_rfl))
  intro m17 v a w hF h
  obtain ⟨v28,v29⟩:=v
  rw [f17.l17] at hF
  refine wp_reg_seq tok (orc:=o0) (l:=[2,3,6,7,30,31,32,33]) nw h (by kernel_rfl) an fun a w h => ?_
  refine wp_seq <| wp_if h (b:=(decide ((v29:Int) < (List.length x1:Int)))) (by kernel_rfl) (fun hb => ?_) (fun hb => ?_)
  ·replace hF:=of_t hb hF
   refine wp_skip ?_
   refine wp_seq <| wp_block ?_
   obtain ⟨hc31,hF⟩:=of_if hF
   refine wp_reg_seq tok (orc:=o0) (l:=[2,3,6,7,9,30,31,32]) nw h (by kernel_rfl) (ac hc31 an) fun a w h => ?_
   refine wp_reg tok (orc:=o0) (l:=[2,3,6,7,30,31,32]) nw h (by kernel_rfl) (ac (show eqTy Try.prog 9 2 (.int .i64)=true from by kernel_rfl) an) fun a w h => ?_
   refine wp_reg tok (orc:=o0) (l:=[2,3,6,7,30,31,32]) nw h (by kernel_rfl) an fun a w h => ?_
   exact ⟨((mput (Sh.beq (.int .i64)) (gD x1 (tZ v29) iO) true v28),(w64 (v29 + (1:Int)))),hF,h.arrive (l:=[2,3,6,7,30,31,32]) nw (by kernel_rfl)⟩
  ·replace hF:=of_f hb hF
   refine wp_exit ?_
   obtain ⟨r32,hr147,hF⟩:=of_bind hF
   refine wp_reg_seq tok (orc:=orcL [(40,[⟨sh20,r32⟩])]) (l:=[2,6,7,10]) nw h (by kernel_rfl) (ac (c43 k x0 r32 hr147) an) fun a w h => ?_
   refine wp_seq ?_
   refine wp_reg_seq tok (orc:=o0) (l:=[2,6,7,10,43,44]) nw h (by kernel_rfl) an fun a w h => ?_
   refine wp_block ?_
   refine wp_loop_fuel (f17.l90 k r32 v28 x2) (fun ((v129,v130):(tG × Int)) => [(2,.val (.int .i64) x2),(6,.val sh16 (some (([]:(List (Int × (Int × Int)))),(([]:(List (Int × (Int × (Int × (Int × (Int × ByteArray))))))),([]:(List (Int × Int))))))),(7,.val sh36 (some v28)),(10,.val sh16 (some v129)),(43,.val (.int .i64) (List.length r32.2.1:Int)),(44,.val (.int .i64) v130)]) (fun v h => by obtain ⟨v129,v130⟩:=v; rw [f17.l90] at h; cases h) ?_ hF (h.arrive (l:=[2,6,7,10,43,44]) nw (by kernel_rfl))
   intro m90 v a w hF h
   obtain ⟨v129,v130⟩:=v
   rw [f17.l90] at hF
   refine wp_reg_seq tok (orc:=o0) (l:=[2,6,7,10,43,44,45]) nw h (by kernel_rfl) an fun a w h => ?_
   refine wp_seq <| wp_if h (b:=(decide ((v130:Int) < (List.length r32.2.1:Int)))) (by kernel_rfl) (fun hb => ?_) (fun hb => ?_)
   ·replace hF:=of_t hb hF
    refine wp_skip ?_
    refine wp_mid (fun a w => ∃ v:tG,f17.j139 k v130 ((f17.l90 k r32 v28 x2) m90) v=some r∧Rel w0 (fun _ => False) Zi Try.f17.ntmps ((fun (v138:tG) => ([(2,.val (.int .i64) x2),(6,.val sh16 (some (([]:(List (Int × (Int × Int)))),(([]:(List (Int × (Int × (Int × (Int × (Int × ByteArray))))))),([]:(List (Int × Int))))))),(7,.val sh36 (some v28)),(10,.val sh16 (some v138)),(43,.val (.int .i64) (List.length r32.2.1:Int)),(44,.val (.int .i64) v130)]:SS)) v) a w) ?_ ?_
    ·
     refine wp_block ?_
     refine wp_reg_seq tok (orc:=o0) (l:=[2,6,7,10,11,43,44]) nw h (by kernel_rfl) an fun a w h => ?_
     obtain ⟨hc146,hF⟩:=of_if hF
     refine wp_reg_seq tok (orc:=o0) (l:=[2,6,7,10,11,43,44,54]) nw h (by kernel_rfl) (ac hc146 (ac (show eqTy Try.prog 9 2 (.int .i64)=true from by kernel_rfl) an)) fun a w h => ?_
     refine wp_if h (b:=(mget (Sh.beq (.int .i64)) (some v28) (gD v129.2.1 (tZ v130) zR).2.2.1 false)) (by kernel_rfl) (fun hb => ?_) (fun hb => ?_)
     ·replace hF:=of_t hb hF
      obtain ⟨hc143,hF⟩:=of_if hF
      obtain ⟨r140,hr144,hF⟩:=of_bind hF
      obtain ⟨hc145,hF⟩:=of_if hF
      refine wp_regy tok (orc:=orcL [(65,[⟨(.int .i64),r140⟩])]) (l:=[2,6,7,10,43,44]) ([],[],[],[]) 13 nw h (by kernel_rfl) (by kernel_rfl) (ac hc143 (ac (c44 k (gD v129.2.1 (tZ v130) zR).2.2.2.1 x2 r140 hr144) (ac hc145 an))) fun a w h => ?_
      obtain ⟨v141,hv142,hF⟩:=of_bind hF
      replace h:=h.cast (S':=[(2,.val (.int .i64) x2),(6,.val sh16 (some (([]:(List (Int × (Int × Int)))),(([]:(List (Int × (Int × (Int × (Int × (Int × ByteArray))))))),([]:(List (Int × Int))))))),(7,.val sh36 (some v28)),(10,.val sh16 (some (v129.1,(v141,v129.2.2)))),(43,.val (.int .i64) (List.length r32.2.1:Int)),(44,.val (.int .i64) v130)]) (by cases hv142; kernel_rfl)
      exact ⟨(v129.1,(v141,v129.2.2)),hF,h.arrive (l:=[2,6,7,10,43,44]) nw (by kernel_rfl)⟩
     ·replace hF:=of_f hb hF
      refine wp_skip ?_
      exact ⟨v129,hF,h.arrive (l:=[2,6,7,10,43,44]) nw (by kernel_rfl)⟩
    ·rintro a w ⟨v138,hF,h⟩
     rw [f17.j139] at hF
     refine wp_reg tok (orc:=o0) (l:=[2,6,7,10,43,44]) nw h (by kernel_rfl) an fun a w h => ?_
     exact ⟨(v138,(w64 (v130 + (1:Int)))),hF,h.arrive (l:=[2,6,7,10,43,44]) nw (by kernel_rfl)⟩
   ·replace hF:=of_f hb hF
    refine wp_exit ?_
    refine wp_reg_seq tok (orc:=o0) (l:=[6]) nw h (by kernel_rfl) an fun a w h => ?_
    cases hF
    exact wp_ret (ret_okR tok h rfl (by kernel_rfl)).1
def f18.l86 (k:Nat) (x0:((List (Int × (Int × Int))) × ((List (Int × (Int × (Int × (Int × (Int × ByteArray)))))) × (List (Int × Int))))) (x1:((List (Int × (Int × Int))) × ((List (Int × (Int × (Int × (Int × (Int × ByteArray)))))) × (List (Int × Int))))):Nat→Int→Option Bool
 | 0,_ => none
 | m86+1,v98 => if (decide ((v98:Int) < (List.length x0.2.2:Int))) then (if (0≤v98∧v98 < (List.length x0.2.2:Int)) then (if (0≤v98∧v98 < (List.length x1.2.2:Int)) then (if (!(Sh.beq sh5 (List.getD x0.2.2 (Int.toNat v98) ((0:Int),(0:Int))) (List.getD x1.2.2 (Int.toNat v98) ((0:Int),(0:Int))))) then (some false) else ((f18.l86 k x0 x1) m86 (IntKind.i64.wrap (v98 + (1:Int))))) else none) else none) else (some true)
def f18.l52 (k:Nat) (x0:((List (Int × (Int × Int))) × ((List (Int × (Int × (Int × (Int × (Int × ByteArray)))))) × (List (Int × Int))))) (x1:((List (Int × (Int × Int))) × ((List (Int × (Int × (Int × (Int × (Int × ByteArray)))))) × (List (Int × Int))))):Nat→Int→Option Bool
 | 0,_ => none
 | m52+1,v64 => if (decide ((v64:Int) < (List.length x0.2.1:Int))) then (if (0≤v64∧v64 < (List.length x0.2.1:Int)) then (if (0≤v64∧v64 < (List.length x1.2.1:Int)) then (if (!(Sh.beq sh22 (List.getD x0.2.1 (Int.toNat v64) ((0:Int),((0:Int),((0:Int),((0:Int),((0:Int),(⟨#[]⟩:ByteArray))))))) (List.getD x1.2.1 (Int.toNat v64) ((0:Int),((0:Int),((0:Int),((0:Int),((0:Int),(⟨#[]⟩:ByteArray))))))))) then (some false) else ((f18.l52 k x0 x1) m52 (IntKind.i64.wrap (v64 + (1:Int))))) else none) else none) else (f18.l86 k x0 x1 k (0:Int))
def f18.l18 (k:Nat) (x0:((List (Int × (Int × Int))) × ((List (Int × (Int × (Int × (Int × (Int × ByteArray)))))) × (List (Int × Int))))) (x1:((List (Int × (Int × Int))) × ((List (Int × (Int × (Int × (Int × (Int × ByteArray)))))) × (List (Int × Int))))):Nat→Int→Option Bool
 | 0,_ => none
 | m18+1,v30 => if (decide ((v30:Int) < (List.length x0.1:Int))) then (if (0≤v30∧v30 < (List.length x0.1:Int)) then (if (0≤v30∧v30 < (List.length x1.1:Int)) then (if (!(Sh.beq sh37 (List.getD x0.1 (Int.toNat v30) ((0:Int),((0:Int),(0:Int)))) (List.getD x1.1 (Int.toNat v30) ((0:Int),((0:Int),(0:Int)))))) then (some false) else ((f18.l18 k x0 x1) m18 (IntKind.i64.wrap (v30 + (1:Int))))) else none) else none) else (f18.l52 k x0 x1 k (0:Int))
def f18 (k:Nat) (x0:((List (Int × (Int × Int))) × ((List (Int × (Int × (Int × (Int × (Int × ByteArray)))))) × (List (Int × Int))))) (x1:((List (Int × (Int × Int))) × ((List (Int × (Int × (Int × (Int × (Int × ByteArray)))))) × (List (Int × Int))))):Option Bool:=if (bif (bif (((List.length x0.1:Int):Int) != (List.length x1.1:Int)) then true else (((List.length x0.2.1:Int):Int) != (List.length x1.2.1:Int))) then true else (((List.length x0.2.2:Int):Int) != (List.length x1.2.2:Int))) then (some false) else (f18.l18 k x0 x1 k (0:Int))
theorem c18 (k:Nat) (x0:tG) (x1:tG) (r:Bool) (hF:f18 k x0 x1=some r):PCall Try.prog 18 [⟨sh18,x0⟩,⟨sh18,x1⟩] [⟨.bool,r⟩]:=by
 refine pcall_intro Try.func18 rfl rfl (Nat.le_of_ble_eq_true rfl) ?_
 intro w0 Zi a w h
 rw [f18] at hF
 refine wp_reg_seq tok (orc:=o0) (l:=[2,3]) nw h (by kernel_rfl) an fun a w h => ?_
 refine wp_seq ?_
 refine wp_reg_seq tok (orc:=o0) (l:=[2,3,32]) nw h (by kernel_rfl) an fun a w h => ?_
 refine wp_if h (b:=(bif (bif (((List.length x0.1:Int):Int) != (List.length x1.1:Int)) then true else (((List.length x0.2.1:Int):Int) != (List.length x1.2.1:Int))) then true else (((List.length x0.2.2:Int):Int) != (List.length x1.2.2:Int)))) (by kernel_rfl) (fun hb => ?_) (fun hb => ?_)
 ·replace hF:=of_t hb hF
  refine wp_reg_seq tok (orc:=o0) (l:=[4]) nw h (by kernel_rfl) an fun a w h => ?_
  cases hF
  exact wp_ret (ret_okR tok h rfl (by kernel_rfl)).1
 ·replace hF:=of_f hb hF
  refine wp_skip ?_
  refine wp_seq ?_
  refine wp_reg_seq tok (orc:=o0) (l:=[2,3,5]) nw h (by kernel_rfl) an fun a w h => ?_
  refine wp_block ?_
  refine wp_loop_fuel (f18.l18 k x0 x1) (fun (v30:Int) => [(2,.val sh17 (some x0)),(3,.val sh17 (some x1)),(5,.val (.int .i64) v30)]) (fun v h => by rw [f18.l18] at h; cases h) ?_ hF (h.arrive (l:=[2,3,5]) nw (by kernel_rfl))
  intro m18 v30 a w hF h
  rw [f18.l18] at hF
  refine wp_seq ?_
  refine wp_reg_seq tok (orc:=o0) (l:=[2,3,5,37]) nw h (by kernel_rfl) an fun a w h => ?_
  refine wp_if h (b:=(decide ((v30:Int) < (List.length x0.1:Int)))) (by kernel_rfl) (fun hb => ?_) (fun hb => ?_)
  ·replace hF:=of_t hb hF
   refine wp_skip ?_
   refine wp_seq <| wp_block ?_
   obtain ⟨hc33,hF⟩:=of_if hF
   obtain ⟨hc34,hF⟩:=of_if hF
   refine wp_regy_seq tok (orc:=o0) (l:=[2,3,5,50]) ([],[],[],[]) 11 nw h (by kernel_rfl) (by kernel_rfl) (ac hc33 (ac hc34 (ac (And.intro (show eqTy Try.prog 9 65 (.st (.pair (.int .i64) (.st (.pair (.int .i64) (.int .i64)))))=true from by kernel_rfl) (show Try.prog.eqGuardType Try.prog.depth 65=false from by kernel_rfl)) an))) fun a w h => ?_
   refine wp_if h (b:=(!(Sh.beq sh37 (gD x0.1 (tZ v30) (iO,(iO,iO))) (gD x1.1 (tZ v30) (iO,(iO,iO)))))) (by kernel_rfl) (fun hb => ?_) (fun hb => ?_)
   ·replace hF:=of_t hb hF
    refine wp_reg_seq tok (orc:=o0) (l:=[4]) nw h (by kernel_rfl) an fun a w h => ?_
    cases hF
    exact wp_ret (ret_okR tok h rfl (by kernel_rfl)).1
   ·replace hF:=of_f hb hF
    refine wp_skip ?_
    refine wp_reg tok (orc:=o0) (l:=[2,3,5]) nw h (by kernel_rfl) an fun a w h => ?_
    exact ⟨(w64 (v30 + (1:Int))),hF,h.arrive (l:=[2,3,5]) nw (by kernel_rfl)⟩
  ·replace hF:=of_f hb hF
   refine wp_exit ?_
   refine wp_seq ?_
   refine wp_reg_seq tok (orc:=o0) (l:=[2,3,6]) nw h (by kernel_rfl) an fun a w h => ?_
   refine wp_block ?_
   refine wp_loop_fuel (f18.l52 k x0 x1) (fun (v64:Int) => [(2,.val sh17 (some x0)),(3,.val sh17 (some x1)),(6,.val (.int .i64) v64)]) (fun v h => by rw [f18.l52] at h; cases h) ?_ hF (h.arrive (l:=[2,3,6]) nw (by kernel_rfl))
   intro m52 v64 a w hF h
   rw [f18.l52] at hF
   refine wp_seq ?_
   refine wp_reg_seq tok (orc:=o0) (l:=[2,3,6,55]) nw h (by kernel_rfl) an fun a w h => ?_
   refine wp_if h (b:=(decide ((v64:Int) < (List.length x0.2.1:Int)))) (by kernel_rfl) (fun hb => ?_) (fun hb => ?_)
   ·replace hF:=of_t hb hF
    refine wp_skip ?_
    refine wp_seq <| wp_block ?_
    obtain ⟨hc67,hF⟩:=of_if hF
    obtain ⟨hc68,hF⟩:=of_if hF
    refine wp_regy_seq tok (orc:=o0) (l:=[2,3,6,68]) ([],[],[],[]) 11 nw h (by kernel_rfl) (by kernel_rfl) (ac hc67 (ac hc68 (ac (And.intro (show eqTy Try.prog 9 44 (.st (.pair (.int .i64) (.pair (.int .i64) (.pair (.int .i64) (.pair (.int .i64) (.pair (.int .i64) .str))))))=true from by kernel_rfl) (show Try.prog.eqGuardType Try.prog.depth 44=false from by kernel_rfl)) an))) fun a w h => ?_
    refine wp_if h (b:=(!(Sh.beq sh22 (gD x0.2.1 (tZ v64) zR) (gD x1.2.1 (tZ v64) zR)))) (by kernel_rfl) (fun hb => ?_) (fun hb => ?_)
    ·replace hF:=of_t hb hF
     refine wp_reg_seq tok (orc:=o0) (l:=[4]) nw h (by kernel_rfl) an fun a w h => ?_
     cases hF
     exact wp_ret (ret_okR tok h rfl (by kernel_rfl)).1
    ·replace hF:=of_f hb hF
     refine wp_skip ?_
     refine wp_reg tok (orc:=o0) (l:=[2,3,6]) nw h (by kernel_rfl) an fun a w h => ?_
     exact ⟨(w64 (v64 + (1:Int))),hF,h.arrive (l:=[2,3,6]) nw (by kernel_rfl)⟩
   ·replace hF:=of_f hb hF
    refine wp_exit ?_
    refine wp_seq ?_
    refine wp_reg_seq tok (orc:=o0) (l:=[2,3,7]) nw h (by kernel_rfl) an fun a w h => ?_
    refine wp_block ?_
    refine wp_loop_fuel (f18.l86 k x0 x1) (fun (v98:Int) => [(2,.val sh17 (some x0)),(3,.val sh17 (some x1)),(7,.val (.int .i64) v98)]) (fun v h => by rw [f18.l86] at h; cases h) ?_ hF (h.arrive (l:=[2,3,7]) nw (by kernel_rfl))
    intro m86 v98 a w hF h
    rw [f18.l86] at hF
    refine wp_seq ?_
    refine wp_reg_seq tok (orc:=o0) (l:=[2,3,7,73]) nw h (by kernel_rfl) an fun a w h => ?_
    refine wp_if h (b:=(decide ((v98:Int) < (List.length x0.2.2:Int)))) (by kernel_rfl) (fun hb => ?_) (fun hb => ?_)
    ·replace hF:=of_t hb hF
     refine wp_skip ?_
     refine wp_seq <| wp_block ?_
     obtain ⟨hc101,hF⟩:=of_if hF
     obtain ⟨hc102,hF⟩:=of_if hF
     refine wp_regy_seq tok (orc:=o0) (l:=[2,3,7,86]) ([],[],[],[]) 11 nw h (by kernel_rfl) (by kernel_rfl) (ac hc101 (ac hc102 (ac (And.intro (show eqTy Try.prog 9 69 (.st (.pair (.int .i64) (.int .i64)))=true from by kernel_rfl) (show Try.prog.eqGuardType Try.prog.depth 69=false from by kernel_rfl)) an))) fun a w h => ?_
     refine wp_if h (b:=(!(Sh.beq sh5 (gD x0.2.2 (tZ v98) (iO,iO)) (gD x1.2.2 (tZ v98) (iO,iO))))) (by kernel_rfl) (fun hb => ?_) (fun hb => ?_)
     ·replace hF:=of_t hb hF
      refine wp_reg_seq tok (orc:=o0) (l:=[4]) nw h (by kernel_rfl) an fun a w h => ?_
      cases hF
      exact wp_ret (ret_okR tok h rfl (by kernel_rfl)).1
     ·replace hF:=of_f hb hF
      refine wp_skip ?_
      refine wp_reg tok (orc:=o0) (l:=[2,3,7]) nw h (by kernel_rfl) an fun a w h => ?_
      exact ⟨(w64 (v98 + (1:Int))),hF,h.arrive (l:=[2,3,7]) nw (by kernel_rfl)⟩
    ·replace hF:=of_f hb hF
     refine wp_exit ?_
     refine wp_reg_seq tok (orc:=o0) (l:=[4]) nw h (by kernel_rfl) an fun a w h => ?_
     cases hF
     exact wp_ret (ret_okR tok h rfl (by kernel_rfl)).1
def f45.j143 (k:Nat) (v134:Int) (q90:((List Int) × (List Int) × ((List (Int × (Int × Int))) × Unit) × Int)→Option ((List Int) × (List Int))):((List Int) × (List Int) × ((List (Int × (Int × Int))) × Unit))→Option ((List Int) × (List Int))
 | (v140,v141,v142) => q90 (v140,v141,v142,(IntKind.i64.wrap (v134 + (1:Int))))
def f45.j982 (k:Nat) (v961:Int) (q869:((List Int) × (List Int) × ((List (Int × (Int × Int))) × Unit) × Int)→Option ((List Int) × (List Int))):((List Int) × (List Int) × ((List (Int × (Int × Int))) × Unit))→Option ((List Int) × (List Int))
 | (v979,v980,v981) => q869 (v979,v980,v981,(IntKind.i64.wrap (v961 + (1:Int))))
def f45.l869 (k:Nat) (x0:(((List (Int × (Int × Int))) × ((List (Int × (Int × (Int × (Int × (Int × ByteArray)))))) × (List (Int × Int)))) × ((List (List Int)) × ((List (List Int)) × (Option (List ((Int × Int) × Bool))))))) (r868:((Int × (Int × Int)) × ((List (Int × (Int × Int))) × Unit))) (v866:(List Bool)) (q577:((List Int) × (List Int) × (List Bool) × ((List (Int × (Int × Int))) × Unit))→Option ((List Int) × (List Int))):Nat → ((List Int) × (List Int) × ((List (Int × (Int × Int))) × Unit) × Int)→Option ((List Int) × (List Int))
 | 0,_ => none
 | m869+1,(v958,v959,v960,v961) => if (decide ((v961:Int) < (List.length (List.getD x0.2.2.1 (Int.toNat (List.getD x0.1.2.1 (Int.toNat r868.1.2.2) ((0:Int),((0:Int),((0:Int),((0:Int),((0:Int),(⟨#[]⟩:ByteArray))))))).1) ([]:(List Int))):Int))) then (if (0≤v961∧v961 < (List.length (List.getD x0.2.2.1 (Int.toNat (List.getD x0.1.2.1 (Int.toNat r868.1.2.2) ((0:Int),((0:Int),((0:Int),((0:Int),((0:Int),(⟨#[]⟩:ByteArray))))))).1) ([]:(List Int))):Int)) then (if (0 ≤ (List.getD (List.getD x0.2.2.1 (Int.toNat (List.getD x0.1.2.1 (Int.toNat r868.1.2.2) ((0:Int),((0:Int),((0:Int),((0:Int),((0:Int),(⟨#[]⟩:ByteArray))))))).1) ([]:(List Int))) (Int.toNat v961) (0:Int)) ∧ (List.getD (List.getD x0.2.2.1 (Int.toNat (List.getD x0.1.2.1 (Int.toNat r868.1.2.2) ((0:Int),((0:Int),((0:Int),((0:Int),((0:Int),(⟨#[]⟩:ByteArray))))))).1) ([]:(List Int))) (Int.toNat v961) (0:Int)) < (List.length (List.set v866 (Int.toNat r868.1.2.2) true):Int)) then (if (List.getD (List.set v866 (Int.toNat r868.1.2.2) true) (Int.toNat (List.getD (List.getD x0.2.2.1 (Int.toNat (List.getD x0.1.2.1 (Int.toNat r868.1.2.2) ((0:Int),((0:Int),((0:Int),((0:Int),((0:Int),(⟨#[]⟩:ByteArray))))))).1) ([]:(List Int))) (Int.toNat v961) (0:Int))) false) then (f45.j982 k v961 ((f45.l869 k x0 r868 v866 q577) m869) (v958,v959,v960)) else ((f66 k x0 (List.getD (List.getD x0.2.2.1 (Int.toNat (List.getD x0.1.2.1 (Int.toNat r868.1.2.2) ((0:Int),((0:Int),((0:Int),((0:Int),((0:Int),(⟨#[]⟩:ByteArray))))))).1) ([]:(List Int))) (Int.toNat v961) (0:Int)) r868.1.2.2).bind fun r983 => (if (decide ((r983:Int) < (0:Int))) then (f45.j982 k v961 ((f45.l869 k x0 r868 v866 q577) m869) (v958,v959,v960)) else (if (0 ≤ (List.getD (List.getD x0.2.2.1 (Int.toNat (List.getD x0.1.2.1 (Int.toNat r868.1.2.2) ((0:Int),((0:Int),((0:Int),((0:Int),((0:Int),(⟨#[]⟩:ByteArray))))))).1) ([]:(List Int))) (Int.toNat v961) (0:Int)) ∧ (List.getD (List.getD x0.2.2.1 (Int.toNat (List.getD x0.1.2.1 (Int.toNat r868.1.2.2) ((0:Int),((0:Int),((0:Int),((0:Int),((0:Int),(⟨#[]⟩:ByteArray))))))).1) ([]:(List Int))) (Int.toNat v961) (0:Int)) < (List.length x0.1.2.1:Int)) then (if (0 ≤ (List.getD (List.getD x0.2.2.1 (Int.toNat (List.getD x0.1.2.1 (Int.toNat r868.1.2.2) ((0:Int),((0:Int),((0:Int),((0:Int),((0:Int),(⟨#[]⟩:ByteArray))))))).1) ([]:(List Int))) (Int.toNat v961) (0:Int)) ∧ (List.getD (List.getD x0.2.2.1 (Int.toNat (List.getD x0.1.2.1 (Int.toNat r868.1.2.2) ((0:Int),((0:Int),((0:Int),((0:Int),((0:Int),(⟨#[]⟩:ByteArray))))))).1) ([]:(List Int))) (Int.toNat v961) (0:Int)) < (List.length v958:Int)) then (if (((decide (((List.getD v958 (Int.toNat (List.getD (List.getD x0.2.2.1 (Int.toNat (List.getD x0.1.2.1 (Int.toNat r868.1.2.2) ((0:Int),((0:Int),((0:Int),((0:Int),((0:Int),(⟨#[]⟩:ByteArray))))))).1) ([]:(List Int))) (Int.toNat v961) (0:Int))) (0:Int)):Int) < (0:Int)))=false) → (0 ≤ (List.getD (List.getD x0.2.2.1 (Int.toNat (List.getD x0.1.2.1 (Int.toNat r868.1.2.2) ((0:Int),((0:Int),((0:Int),((0:Int),((0:Int),(⟨#[]⟩:ByteArray))))))).1) ([]:(List Int))) (Int.toNat v961) (0:Int)) ∧ (List.getD (List.getD x0.2.2.1 (Int.toNat (List.getD x0.1.2.1 (Int.toNat r868.1.2.2) ((0:Int),((0:Int),((0:Int),((0:Int),((0:Int),(⟨#[]⟩:ByteArray))))))).1) ([]:(List Int))) (Int.toNat v961) (0:Int)) < (List.length v958:Int))) then (if (((bif (decide (((List.getD v958 (Int.toNat (List.getD (List.getD x0.2.2.1 (Int.toNat (List.getD x0.1.2.1 (Int.toNat r868.1.2.2) ((0:Int),((0:Int),((0:Int),((0:Int),((0:Int),(⟨#[]⟩:ByteArray))))))).1) ([]:(List Int))) (Int.toNat v961) (0:Int))) (0:Int)):Int) < (0:Int))) then true else (decide (((IntKind.i64.wrap ((IntKind.i64.wrap (r868.1.1+r983)) + (List.getD x0.1.2.1 (Int.toNat (List.getD (List.getD x0.2.2.1 (Int.toNat (List.getD x0.1.2.1 (Int.toNat r868.1.2.2) ((0:Int),((0:Int),((0:Int),((0:Int),((0:Int),(⟨#[]⟩:ByteArray))))))).1) ([]:(List Int))) (Int.toNat v961) (0:Int))) ((0:Int),((0:Int),((0:Int),((0:Int),((0:Int),(⟨#[]⟩:ByteArray))))))).2.2.2.1)):Int) < (List.getD v958 (Int.toNat (List.getD (List.getD x0.2.2.1 (Int.toNat (List.getD x0.1.2.1 (Int.toNat r868.1.2.2) ((0:Int),((0:Int),((0:Int),((0:Int),((0:Int),(⟨#[]⟩:ByteArray))))))).1) ([]:(List Int))) (Int.toNat v961) (0:Int))) (0:Int)))))=false) → (0 ≤ (List.getD (List.getD x0.2.2.1 (Int.toNat (List.getD x0.1.2.1 (Int.toNat r868.1.2.2) ((0:Int),((0:Int),((0:Int),((0:Int),((0:Int),(⟨#[]⟩:ByteArray))))))).1) ([]:(List Int))) (Int.toNat v961) (0:Int)) ∧ (List.getD (List.getD x0.2.2.1 (Int.toNat (List.getD x0.1.2.1 (Int.toNat r868.1.2.2) ((0:Int),((0:Int),((0:Int),((0:Int),((0:Int),(⟨#[]⟩:ByteArray))))))).1) ([]:(List Int))) (Int.toNat v961) (0:Int)) < (List.length v958:Int))) then (if ((((bif (decide (((List.getD v958 (Int.toNat (List.getD (List.getD x0.2.2.1 (Int.toNat (List.getD x0.1.2.1 (Int.toNat r868.1.2.2) ((0:Int),((0:Int),((0:Int),((0:Int),((0:Int),(⟨#[]⟩:ByteArray))))))).1) ([]:(List Int))) (Int.toNat v961) (0:Int))) (0:Int)):Int) < (0:Int))) then true else (decide (((IntKind.i64.wrap ((IntKind.i64.wrap (r868.1.1+r983)) + (List.getD x0.1.2.1 (Int.toNat (List.getD (List.getD x0.2.2.1 (Int.toNat (List.getD x0.1.2.1 (Int.toNat r868.1.2.2) ((0:Int),((0:Int),((0:Int),((0:Int),((0:Int),(⟨#[]⟩:ByteArray))))))).1) ([]:(List Int))) (Int.toNat v961) (0:Int))) ((0:Int),((0:Int),((0:Int),((0:Int),((0:Int),(⟨#[]⟩:ByteArray))))))).2.2.2.1)):Int) < (List.getD v958 (Int.toNat (List.getD (List.getD x0.2.2.1 (Int.toNat (List.getD x0.1.2.1 (Int.toNat r868.1.2.2) ((0:Int),((0:Int),((0:Int),((0:Int),((0:Int),(⟨#[]⟩:ByteArray))))))).1) ([]:(List Int))) (Int.toNat v961) (0:Int))) (0:Int)))))=false) ∧ ((((IntKind.i64.wrap ((IntKind.i64.wrap (r868.1.1+r983)) + (List.getD x0.1.2.1 (Int.toNat (List.getD (List.getD x0.2.2.1 (Int.toNat (List.getD x0.1.2.1 (Int.toNat r868.1.2.2) ((0:Int),((0:Int),((0:Int),((0:Int),((0:Int),(⟨#[]⟩:ByteArray))))))).1) ([]:(List Int))) (Int.toNat v961) (0:Int))) ((0:Int),((0:Int),((0:Int),((0:Int),((0:Int),(⟨#[]⟩:ByteArray))))))).2.2.2.1)):Int) == (List.getD v958 (Int.toNat (List.getD (List.getD x0.2.2.1 (Int.toNat (List.getD x0.1.2.1 (Int.toNat r868.1.2.2) ((0:Int),((0:Int),((0:Int),((0:Int),((0:Int),(⟨#[]⟩:ByteArray))))))).1) ([]:(List Int))) (Int.toNat v961) (0:Int))) (0:Int)))=true)) → (0 ≤ (List.getD (List.getD x0.2.2.1 (Int.toNat (List.getD x0.1.2.1 (Int.toNat r868.1.2.2) ((0:Int),((0:Int),((0:Int),((0:Int),((0:Int),(⟨#[]⟩:ByteArray))))))).1) ([]:(List Int))) (Int.toNat v961) (0:Int)) ∧ (List.getD (List.getD x0.2.2.1 (Int.toNat (List.getD x0.1.2.1 (Int.toNat r868.1.2.2) ((0:Int),((0:Int),((0:Int),((0:Int),((0:Int),(⟨#[]⟩:ByteArray))))))).1) ([]:(List Int))) (Int.toNat v961) (0:Int)) < (List.length v959:Int))) then ((some ((bif (bif (decide (((List.getD v958 (Int.toNat (List.getD (List.getD x0.2.2.1 (Int.toNat (List.getD x0.1.2.1 (Int.toNat r868.1.2.2) ((0:Int),((0:Int),((0:Int),((0:Int),((0:Int),(⟨#[]⟩:ByteArray))))))).1) ([]:(List Int))) (Int.toNat v961) (0:Int))) (0:Int)):Int) < (0:Int))) then true else (decide (((IntKind.i64.wrap ((IntKind.i64.wrap (r868.1.1+r983)) + (List.getD x0.1.2.1 (Int.toNat (List.getD (List.getD x0.2.2.1 (Int.toNat (List.getD x0.1.2.1 (Int.toNat r868.1.2.2) ((0:Int),((0:Int),((0:Int),((0:Int),((0:Int),(⟨#[]⟩:ByteArray))))))).1) ([]:(List Int))) (Int.toNat v961) (0:Int))) ((0:Int),((0:Int),((0:Int),((0:Int),((0:Int),(⟨#[]⟩:ByteArray))))))).2.2.2.1)):Int) < (List.getD v958 (Int.toNat (List.getD (List.getD x0.2.2.1 (Int.toNat (List.getD x0.1.2.1 (Int.toNat r868.1.2.2) ((0:Int),((0:Int),((0:Int),((0:Int),((0:Int),(⟨#[]⟩:ByteArray))))))).1) ([]:(List Int))) (Int.toNat v961) (0:Int))) (0:Int))))) then true else (bif (((IntKind.i64.wrap ((IntKind.i64.wrap (r868.1.1+r983)) + (List.getD x0.1.2.1 (Int.toNat (List.getD (List.getD x0.2.2.1 (Int.toNat (List.getD x0.1.2.1 (Int.toNat r868.1.2.2) ((0:Int),((0:Int),((0:Int),((0:Int),((0:Int),(⟨#[]⟩:ByteArray))))))).1) ([]:(List Int))) (Int.toNat v961) (0:Int))) ((0:Int),((0:Int),((0:Int),((0:Int),((0:Int),(⟨#[]⟩:ByteArray))))))).2.2.2.1)):Int) == (List.getD v958 (Int.toNat (List.getD (List.getD x0.2.2.1 (Int.toNat (List.getD x0.1.2.1 (Int.toNat r868.1.2.2) ((0:Int),((0:Int),((0:Int),((0:Int),((0:Int),(⟨#[]⟩:ByteArray))))))).1) ([]:(List Int))) (Int.toNat v961) (0:Int))) (0:Int))) then (decide (((IntKind.i64.wrap (r868.1.2.1 + (1:Int))):Int) < (List.getD v959 (Int.toNat (List.getD (List.getD x0.2.2.1 (Int.toNat (List.getD x0.1.2.1 (Int.toNat r868.1.2.2) ((0:Int),((0:Int),((0:Int),((0:Int),((0:Int),(⟨#[]⟩:ByteArray))))))).1) ([]:(List Int))) (Int.toNat v961) (0:Int))) (0:Int)))) else false)):Bool)).bind fun v984 => (if v984 then (if (0 ≤ (List.getD (List.getD x0.2.2.1 (Int.toNat (List.getD x0.1.2.1 (Int.toNat r868.1.2.2) ((0:Int),((0:Int),((0:Int),((0:Int),((0:Int),(⟨#[]⟩:ByteArray))))))).1) ([]:(List Int))) (Int.toNat v961) (0:Int)) ∧ (List.getD (List.getD x0.2.2.1 (Int.toNat (List.getD x0.1.2.1 (Int.toNat r868.1.2.2) ((0:Int),((0:Int),((0:Int),((0:Int),((0:Int),(⟨#[]⟩:ByteArray))))))).1) ([]:(List Int))) (Int.toNat v961) (0:Int)) < (List.length v958:Int)) then (if (0 ≤ (List.getD (List.getD x0.2.2.1 (Int.toNat (List.getD x0.1.2.1 (Int.toNat r868.1.2.2) ((0:Int),((0:Int),((0:Int),((0:Int),((0:Int),(⟨#[]⟩:ByteArray))))))).1) ([]:(List Int))) (Int.toNat v961) (0:Int)) ∧ (List.getD (List.getD x0.2.2.1 (Int.toNat (List.getD x0.1.2.1 (Int.toNat r868.1.2.2) ((0:Int),((0:Int),((0:Int),((0:Int),((0:Int),(⟨#[]⟩:ByteArray))))))).1) ([]:(List Int))) (Int.toNat v961) (0:Int)) < (List.length v959:Int)) then ((some ((List.set v958 (Int.toNat (List.getD (List.getD x0.2.2.1 (Int.toNat (List.getD x0.1.2.1 (Int.toNat r868.1.2.2) ((0:Int),((0:Int),((0:Int),((0:Int),((0:Int),(⟨#[]⟩:ByteArray))))))).1) ([]:(List Int))) (Int.toNat v961) (0:Int))) (IntKind.i64.wrap ((IntKind.i64.wrap (r868.1.1+r983)) + (List.getD x0.1.2.1 (Int.toNat (List.getD (List.getD x0.2.2.1 (Int.toNat (List.getD x0.1.2.1 (Int.toNat r868.1.2.2) ((0:Int),((0:Int),((0:Int),((0:Int),((0:Int),(⟨#[]⟩:ByteArray))))))).1) ([]:(List Int))) (Int.toNat v961) (0:Int))) ((0:Int),((0:Int),((0:Int),((0:Int),((0:Int),(⟨#[]⟩:ByteArray))))))).2.2.2.1))):(List Int))).bind fun v985 => ((f68 k v960 ((IntKind.i64.wrap ((IntKind.i64.wrap (r868.1.1+r983)) + (List.getD x0.1.2.1 (Int.toNat (List.getD (List.getD x0.2.2.1 (Int.toNat (List.getD x0.1.2.1 (Int.toNat r868.1.2.2) ((0:Int),((0:Int),((0:Int),((0:Int),((0:Int),(⟨#[]⟩:ByteArray))))))).1) ([]:(List Int))) (Int.toNat v961) (0:Int))) ((0:Int),((0:Int),((0:Int),((0:Int),((0:Int),(⟨#[]⟩:ByteArray))))))).2.2.2.1)),((IntKind.i64.wrap (r868.1.2.1 + (1:Int))),(List.getD (List.getD x0.2.2.1 (Int.toNat (List.getD x0.1.2.1 (Int.toNat r868.1.2.2) ((0:Int),((0:Int),((0:Int),((0:Int),((0:Int),(⟨#[]⟩:ByteArray))))))).1) ([]:(List Int))) (Int.toNat v961) (0:Int))))).bind fun r986 => (f45.j982 k v961 ((f45.l869 k x0 r868 v866 q577) m869) (v985,(List.set v959 (Int.toNat (List.getD (List.getD x0.2.2.1 (Int.toNat (List.getD x0.1.2.1 (Int.toNat r868.1.2.2) ((0:Int),((0:Int),((0:Int),((0:Int),((0:Int),(⟨#[]⟩:ByteArray))))))).1) ([]:(List Int))) (Int.toNat v961) (0:Int))) (IntKind.i64.wrap (r868.1.2.1 + (1:Int)))),r986)))) else none) else none) else (f45.j982 k v961 ((f45.l869 k x0 r868 v866 q577) m869) (v958,v959,v960)))) else none) else none) else none) else none) else none)))) else none) else none) else (q577 (v958,v959,(List.set v866 (Int.toNat r868.1.2.2) true),v960))
def f45.l577 (k:Nat) (x0:(((List (Int × (Int × Int))) × ((List (Int × (Int × (Int × (Int × (Int × ByteArray)))))) × (List (Int × Int)))) × ((List (List Int)) × ((List (List Int)) × (Option (List ((Int × Int) × Bool))))))):Nat → ((List Int) × (List Int) × (List Bool) × ((List (Int × (Int × Int))) × Unit))→Option ((List Int) × (List Int))
 | 0,_ => none
 | m577+1,(v864,v865,v866,v867) => if (decide (((List.length v867.1:Int):Int) > (0:Int))) then ((f69 k v867).bind fun r868 => (if (0≤r868.1.2.2∧r868.1.2.2 < (List.length v866:Int)) then (if (List.getD v866 (Int.toNat r868.1.2.2) false) then ((f45.l577 k x0) m577 (v864,v865,v866,r868.2)) else (if (0≤r868.1.2.2∧r868.1.2.2 < (List.length v866:Int)) then (if (0≤r868.1.2.2∧r868.1.2.2 < (List.length x0.1.2.1:Int)) then (if (0 ≤ (List.getD x0.1.2.1 (Int.toNat r868.1.2.2) ((0:Int),((0:Int),((0:Int),((0:Int),((0:Int),(⟨#[]⟩:ByteArray))))))).1 ∧ (List.getD x0.1.2.1 (Int.toNat r868.1.2.2) ((0:Int),((0:Int),((0:Int),((0:Int),((0:Int),(⟨#[]⟩:ByteArray))))))).1 < (List.length x0.2.2.1:Int)) then (f45.l869 k x0 r868 v866 ((f45.l577 k x0) m577) k (v864,v865,r868.2,(0:Int))) else none) else none) else none)) else none)) else (some (v864,v865))
def f45.l90 (k:Nat) (x0:(((List (Int × (Int × Int))) × ((List (Int × (Int × (Int × (Int × (Int × ByteArray)))))) × (List (Int × Int)))) × ((List (List Int)) × ((List (List Int)) × (Option (List ((Int × Int) × Bool))))))) (x1:Int):Nat → ((List Int) × (List Int) × ((List (Int × (Int × Int))) × Unit) × Int)→Option ((List Int) × (List Int))
 | 0,_ => none
 | m90+1,(v131,v132,v133,v134) => if (decide ((v134:Int) < (List.length x0.1.2.1:Int))) then (if (0≤v134∧v134 < (List.length x0.1.2.1:Int)) then (if (((List.getD x0.1.2.1 (Int.toNat v134) ((0:Int),((0:Int),((0:Int),((0:Int),((0:Int),(⟨#[]⟩:ByteArray))))))).2.1:Int) == x1) then (if (0≤v134∧v134 < (List.length v131:Int)) then (if (0≤v134∧v134 < (List.length v132:Int)) then ((f68 k v133 ((List.getD x0.1.2.1 (Int.toNat v134) ((0:Int),((0:Int),((0:Int),((0:Int),((0:Int),(⟨#[]⟩:ByteArray))))))).2.2.2.1,((1:Int),v134))).bind fun r144 => (f45.j143 k v134 ((f45.l90 k x0 x1) m90) ((List.set v131 (Int.toNat v134) (List.getD x0.1.2.1 (Int.toNat v134) ((0:Int),((0:Int),((0:Int),((0:Int),((0:Int),(⟨#[]⟩:ByteArray))))))).2.2.2.1),(List.set v132 (Int.toNat v134) (1:Int)),r144))) else none) else none) else (f45.j143 k v134 ((f45.l90 k x0 x1) m90) (v131,v132,v133))) else none) else (f45.l577 k x0 k (v131,v132,(List.replicate (Int.toNat (List.length x0.1.2.1:Int)) false),v133))
def f45.l16 (k:Nat) (x0:(((List (Int × (Int × Int))) × ((List (Int × (Int × (Int × (Int × (Int × ByteArray)))))) × (List (Int × Int)))) × ((List (List Int)) × ((List (List Int)) × (Option (List ((Int × Int) × Bool))))))) (x1:Int):Nat → ((List Int) × Int)→Option ((List Int) × (List Int))
 | 0,_ => none
 | m16+1,(v27,v28) => if (decide ((v28:Int) < (List.length (List.replicate (Int.toNat (List.length x0.1.2.1:Int)) (0:Int)):Int))) then (if (0≤v28∧v28 < (List.length v27:Int)) then ((f45.l16 k x0 x1) m16 ((List.set v27 (Int.toNat v28) (-1:Int)),(IntKind.i64.wrap (v28 + (1:Int))))) else none) else (f45.l90 k x0 x1 k (v27,(List.replicate (Int.toNat (List.length x0.1.2.1:Int)) (0:Int)),(([]:(List (Int × (Int × Int)))),()),(0:Int)))
def f45 (k:Nat) (x0:(((List (Int × (Int × Int))) × ((List (Int × (Int × (Int × (Int × (Int × ByteArray)))))) × (List (Int × Int)))) × ((List (List Int)) × ((List (List Int)) × (Option (List ((Int × Int) × Bool))))))) (x1:Int):Option ((List Int) × (List Int)):=if (0 ≤ (List.length x0.1.2.1:Int)∧Int.toNat (List.length x0.1.2.1:Int)*8≤140737488355328) then (if (0 ≤ (List.length x0.1.2.1:Int)∧Int.toNat (List.length x0.1.2.1:Int)*8≤140737488355328) then (if (0 ≤ (List.length x0.1.2.1:Int)∧Int.toNat (List.length x0.1.2.1:Int)*1≤140737488355328) then (f45.l16 k x0 x1 k ((List.replicate (Int.toNat (List.length x0.1.2.1:Int)) (0:Int)),(0:Int))) else none) else none) else none
theorem c45 (k:Nat) (x0:tN) (x1:Int) (r:((List Int) × (List Int))) (hF:f45 k x0 x1=some r):PCall Try.prog 45 [⟨sh32,some x0⟩,⟨(.int .i64),x1⟩] [⟨(.sl true 2 (.int .i64)),r.1⟩,⟨(.sl true 2 (.int .i64)),r.2⟩]:=by
 refine pcall_intro Try.func45 rfl rfl (Nat.le_of_ble_eq_true rfl) ?_
 intro w0 Zi a w h
 rw [f45] at hF
 refine wp_reg_seq tok (orc:=o0) (l:=[0,1]) nw h (by kernel_rfl) an fun a w h => ?_
 refine wp_reg_seq tok (orc:=o0) (l:=[0,1,6]) nw h (by kernel_rfl) an fun a w h => ?_
 obtain ⟨hc1005,hF⟩:=of_if hF
 obtain ⟨hc1006,hF⟩:=of_if hF
 obtain ⟨hc1007,hF⟩:=of_if hF
 refine wp_regy_seq tok (orc:=o0) (l:=[0,1,7,8,9]) ([],[(6,[27]),(7,[29])],[],[(2,[6]),(3,[28]),(4,[6]),(5,[30])]) 8 nw h (by kernel_rfl) (by kernel_rfl) (ac hc1005 (ac hc1006 (ac hc1007 an))) fun a w h => ?_
 refine wp_seq ?_
 refine wp_reg_seq tok (orc:=o0) (l:=[0,1,7,8,9,33,34]) nw h (by kernel_rfl) an fun a w h => ?_
 refine wp_block ?_
 refine wp_loop_fuel (f45.l16 k x0 x1) (fun ((v27,v28):((List Int) × Int)) => [(0,.val sh32 (some x0)),(1,.val (.int .i64) x1),(7,.val (.sl true 2 (.int .i64)) v27),(8,.val (.sl true 2 (.int .i64)) (List.replicate (tZ (List.length x0.1.2.1:Int)) iO)),(9,.val (.sl true 4 .bool) (List.replicate (tZ (List.length x0.1.2.1:Int)) false)),(33,.val (.int .i64) (List.length (List.replicate (tZ (List.length x0.1.2.1:Int)) iO):Int)),(34,.val (.int .i64) v28)]) (fun v h => by obtain ⟨v27,v28⟩:=v; rw [f45.l16] at h; cases h) ?_ hF (h.arrive (l:=[0,1,7,8,9,33,34]) nw (by kernel_rfl))
 intro m16 v a w hF h
 obtain ⟨v27,v28⟩:=v
 rw [f45.l16] at hF
 refine wp_reg_seq tok (orc:=o0) (l:=[0,1,7,8,9,33,34,35]) nw h (by kernel_rfl) an fun a w h => ?_
 refine wp_seq <| wp_if h (b:=(decide ((v28:Int) < (List.length (List.replicate (tZ (List.length x0.1.2.1:Int)) iO):Int)))) (by kernel_rfl) (fun hb => ?_) (fun hb => ?_)
 ·replace hF:=of_t hb hF
  refine wp_skip ?_
  refine wp_seq <| wp_block ?_
  refine wp_reg_seq tok (orc:=o0) (l:=[0,1,7,8,9,10,33,34]) nw h (by kernel_rfl) an fun a w h => ?_
  obtain ⟨hc30,hF⟩:=of_if hF
  refine wp_reg tok (orc:=o0) (l:=[0,1,7,8,9,33,34]) nw h (by kernel_rfl) (ac hc30 an) fun a w h => ?_
  refine wp_reg tok (orc:=o0) (l:=[0,1,7,8,9,33,34]) nw h (by kernel_rfl) an fun a w h => ?_
  exact ⟨((List.set v27 (tZ v28) (-1:Int)),(w64 (v28 + (1:Int)))),hF,h.arrive (l:=[0,1,7,8,9,33,34]) nw (by kernel_rfl)⟩
 ·replace hF:=of_f hb hF
  refine wp_exit ?_
  refine wp_reg_seq tok (orc:=o0) (l:=[0,1,7,8,9,11]) nw h (by kernel_rfl) an fun a w h => ?_
  refine wp_seq ?_
  refine wp_reg_seq tok (orc:=o0) (l:=[0,1,7,8,9,11,47,48,49]) nw h (by kernel_rfl) an fun a w h => ?_
  refine wp_block ?_
  refine wp_loop_fuel (f45.l90 k x0 x1) (fun ((v131,v132,v133,v134):((List Int) × (List Int) × ((List (Int × (Int × Int))) × Unit) × Int)) => [(0,.val sh32 (some x0)),(1,.val (.int .i64) x1),(7,.val (.sl true 2 (.int .i64)) v131),(8,.val (.sl true 2 (.int .i64)) v132),(9,.val (.sl true 4 .bool) (List.replicate (tZ (List.length x0.1.2.1:Int)) false)),(11,.val sh34 (some v133)),(47,.val sh30 x0.1.2.1),(48,.val (.int .i64) (List.length x0.1.2.1:Int)),(49,.val (.int .i64) v134)]) (fun v h => by obtain ⟨v131,v132,v133,v134⟩:=v; rw [f45.l90] at h; cases h) ?_ hF (h.arrive (l:=[0,1,7,8,9,11,47,48,49]) nw (by kernel_rfl))
  intro m90 v a w hF h
  obtain ⟨v131,v132,v133,v134⟩:=v
  rw [f45.l90] at hF
  refine wp_reg_seq tok (orc:=o0) (l:=[0,1,7,8,9,11,47,48,49,50]) nw h (by kernel_rfl) an fun a w h => ?_
  refine wp_seq <| wp_if h (b:=(decide ((v134:Int) < (List.length x0.1.2.1:Int)))) (by kernel_rfl) (fun hb => ?_) (fun hb => ?_)
  ·replace hF:=of_t hb hF
   refine wp_skip ?_
   refine wp_mid (fun a w => ∃ v:((List Int) × (List Int) × ((List (Int × (Int × Int))) × Unit)),f45.j143 k v134 ((f45.l90 k x0 x1) m90) v=some r∧Rel w0 (fun _ => False) Zi Try.f45.ntmps ((fun ((v140,v141,v142):((List Int) × (List Int) × ((List (Int × (Int × Int))) × Unit))) => ([(0,.val sh32 (some x0)),(1,.val (.int .i64) x1),(7,.val (.sl true 2 (.int .i64)) v140),(8,.val (.sl true 2 (.int .i64)) v141),(9,.val (.sl true 4 .bool) (List.replicate (tZ (List.length x0.1.2.1:Int)) false)),(11,.val sh34 (some v142)),(47,.val sh30 x0.1.2.1),(48,.val (.int .i64) (List.length x0.1.2.1:Int)),(49,.val (.int .i64) v134)]:SS)) v) a w) ?_ ?_
   ·
    refine wp_block ?_
    obtain ⟨hc148,hF⟩:=of_if hF
    refine wp_reg_seq tok (orc:=o0) (l:=[0,1,7,8,9,11,12,13,47,48,49]) nw h (by kernel_rfl) (ac hc148 an) fun a w h => ?_
    refine wp_reg_seq tok (orc:=o0) (l:=[0,1,7,8,9,11,12,13,47,48,49,57]) nw h (by kernel_rfl) an fun a w h => ?_
    refine wp_if h (b:=(((gD x0.1.2.1 (tZ v134) zR).2.1:Int) == x1)) (by kernel_rfl) (fun hb => ?_) (fun hb => ?_)
    ·replace hF:=of_t hb hF
     obtain ⟨hc146,hF⟩:=of_if hF
     obtain ⟨hc147,hF⟩:=of_if hF
     refine wp_reg_seq tok (orc:=o0) (l:=[0,1,7,8,9,11,12,13,47,48,49]) nw h (by kernel_rfl) (ac hc146 (ac hc147 an)) fun a w h => ?_
     obtain ⟨r144,hr145,hF⟩:=of_bind hF
     refine wp_reg tok (orc:=orcL [(71,[⟨.pt false 4294967295 (.pt true 109 (.st (.pair (.sl true 112 (.st (.pair (.int .i64) (.pair (.int .i64) (.int .i64))))) .unit))),some (some r144)⟩])]) (l:=[0,1,7,8,9,11,47,48,49]) nw h (by kernel_rfl) (ac (c68 k v133 ((gD x0.1.2.1 (tZ v134) zR).2.2.2.1,((1:Int),v134)) r144 hr145) an) fun a w h => ?_
     exact ⟨((List.set v131 (tZ v134) (gD x0.1.2.1 (tZ v134) zR).2.2.2.1),(List.set v132 (tZ v134) (1:Int)),r144),hF,h.arrive (l:=[0,1,7,8,9,11,47,48,49]) nw (by kernel_rfl)⟩
    ·replace hF:=of_f hb hF
     refine wp_skip ?_
     exact ⟨(v131,v132,v133),hF,h.arrive (l:=[0,1,7,8,9,11,47,48,49]) nw (by kernel_rfl)⟩
   ·rintro a w ⟨v,hF,h⟩
    obtain ⟨v140,v141,v142⟩:=v
    rw [f45.j143] at hF
    refine wp_reg tok (orc:=o0) (l:=[0,1,7,8,9,11,47,48,49]) nw h (by kernel_rfl) an fun a w h => ?_
    exact ⟨(v140,v141,v142,(w64 (v134 + (1:Int)))),hF,h.arrive (l:=[0,1,7,8,9,11,47,48,49]) nw (by kernel_rfl)⟩
  ·replace hF:=of_f hb hF
   refine wp_exit ?_
   refine wp_seq <| wp_block ?_
   refine wp_loop_fuel (f45.l577 k x0) (fun ((v864,v865,v866,v867):((List Int) × (List Int) × (List Bool) × ((List (Int × (Int × Int))) × Unit))) => [(0,.val sh32 (some x0)),(7,.val (.sl true 2 (.int .i64)) v864),(8,.val (.sl true 2 (.int .i64)) v865),(9,.val (.sl true 4 .bool) v866),(11,.val sh34 (some v867))]) (fun v h => by obtain ⟨v864,v865,v866,v867⟩:=v; rw [f45.l577] at h; cases h) ?_ hF (h.arrive (l:=[0,7,8,9,11]) nw (by kernel_rfl))
   intro m577 v a w hF h
   obtain ⟨v864,v865,v866,v867⟩:=v
   rw [f45.l577] at hF
   refine wp_seq ?_
   refine wp_reg_seq tok (orc:=o0) (l:=[0,7,8,9,11,78]) nw h (by kernel_rfl) an fun a w h => ?_
   refine wp_if h (b:=(decide (((List.length v867.1:Int):Int) > iO))) (by kernel_rfl) (fun hb => ?_) (fun hb => ?_)
   ·replace hF:=of_t hb hF
    refine wp_skip ?_
    refine wp_block ?_
    obtain ⟨r868,hr1004,hF⟩:=of_bind hF
    refine wp_reg_seq tok (orc:=orcL [(80,[⟨.pt false 4294967295 (.pt true 109 (.st (.pair (.sl true 112 (.st (.pair (.int .i64) (.pair (.int .i64) (.int .i64))))) .unit))),some (some r868.2)⟩,⟨sh33,r868.1⟩])]) (l:=[0,7,8,9,11,14]) nw h (by kernel_rfl) (ac (c69 k v867 r868 hr1004) an) fun a w h => ?_
    refine wp_seq ?_
    obtain ⟨hc1003,hF⟩:=of_if hF
    refine wp_reg_seq tok (orc:=o0) (l:=[0,7,8,9,11,14,85]) nw h (by kernel_rfl) (ac hc1003 an) fun a w h => ?_
    refine wp_if h (b:=(gD v866 (tZ r868.1.2.2) false)) (by kernel_rfl) (fun hb => ?_) (fun hb => ?_)
    ·replace hF:=of_t hb hF
     refine wp_exit ?_
     exact ⟨(v864,v865,v866,r868.2),hF,h.arrive (l:=[0,7,8,9,11]) nw (by kernel_rfl)⟩
    ·replace hF:=of_f hb hF
     refine wp_skip ?_
     obtain ⟨hc1002,hF⟩:=of_if hF
     refine wp_reg_seq tok (orc:=o0) (l:=[0,7,8,9,11,14]) nw h (by kernel_rfl) (ac hc1002 an) fun a w h => ?_
     obtain ⟨hc1000,hF⟩:=of_if hF
     obtain ⟨hc1001,hF⟩:=of_if hF
     refine wp_regy_seq tok (orc:=o0) (l:=[0,7,8,9,11,14,105,106,107]) ([],[],[],[]) 18 nw h (by kernel_rfl) (by kernel_rfl) (ac hc1000 (ac hc1001 an)) fun a w h => ?_
     refine wp_block ?_
     refine wp_loop_fuel (f45.l869 k x0 r868 v866 ((f45.l577 k x0) m577)) (fun ((v958,v959,v960,v961):((List Int) × (List Int) × ((List (Int × (Int × Int))) × Unit) × Int)) => [(0,.val sh32 (some x0)),(7,.val (.sl true 2 (.int .i64)) v958),(8,.val (.sl true 2 (.int .i64)) v959),(9,.val (.sl true 4 .bool) (List.set v866 (tZ r868.1.2.2) true)),(11,.val sh34 (some v960)),(14,.val sh35 (some r868.1)),(105,.val (.sl false 2 (.int .i64)) (gD x0.2.2.1 (tZ (gD x0.1.2.1 (tZ r868.1.2.2) zR).1) lO)),(106,.val (.int .i64) (List.length (gD x0.2.2.1 (tZ (gD x0.1.2.1 (tZ r868.1.2.2) zR).1) lO):Int)),(107,.val (.int .i64) v961)]) (fun v h => by obtain ⟨v958,v959,v960,v961⟩:=v; rw [f45.l869] at h; cases h) ?_ hF (h.arrive (l:=[0,7,8,9,11,14,105,106,107]) nw (by kernel_rfl))
     intro m869 v a w hF h
     obtain ⟨v958,v959,v960,v961⟩:=v
     rw [f45.l869] at hF
     refine wp_reg_seq tok (orc:=o0) (l:=[0,7,8,9,11,14,105,106,107,108]) nw h (by kernel_rfl) an fun a w h => ?_
     refine wp_seq <| wp_if h (b:=(decide ((v961:Int) < (List.length (gD x0.2.2.1 (tZ (gD x0.1.2.1 (tZ r868.1.2.2) zR).1) lO):Int)))) (by kernel_rfl) (fun hb => ?_) (fun hb => ?_)
     ·replace hF:=of_t hb hF
      refine wp_skip ?_
      refine wp_mid (fun a w => ∃ v:((List Int) × (List Int) × ((List (Int × (Int × Int))) × Unit)),f45.j982 k v961 ((f45.l869 k x0 r868 v866 ((f45.l577 k x0) m577)) m869) v=some r∧Rel w0 (fun _ => False) Zi Try.f45.ntmps ((fun ((v979,v980,v981):((List Int) × (List Int) × ((List (Int × (Int × Int))) × Unit))) => ([(0,.val sh32 (some x0)),(7,.val (.sl true 2 (.int .i64)) v979),(8,.val (.sl true 2 (.int .i64)) v980),(9,.val (.sl true 4 .bool) (List.set v866 (tZ r868.1.2.2) true)),(11,.val sh34 (some v981)),(14,.val sh35 (some r868.1)),(105,.val (.sl false 2 (.int .i64)) (gD x0.2.2.1 (tZ (gD x0.1.2.1 (tZ r868.1.2.2) zR).1) lO)),(106,.val (.int .i64) (List.length (gD x0.2.2.1 (tZ (gD x0.1.2.1 (tZ r868.1.2.2) zR).1) lO):Int)),(107,.val (.int .i64) v961)]:SS)) v) a w) ?_ ?_
      ·
       refine wp_block ?_
       obtain ⟨hc999,hF⟩:=of_if hF
       refine wp_reg_seq tok (orc:=o0) (l:=[0,7,8,9,11,14,16,105,106,107]) nw h (by kernel_rfl) (ac hc999 an) fun a w h => ?_
       refine wp_seq ?_
       obtain ⟨hc998,hF⟩:=of_if hF
       refine wp_reg_seq tok (orc:=o0) (l:=[0,7,8,9,11,14,16,105,106,107,114]) nw h (by kernel_rfl) (ac hc998 an) fun a w h => ?_
       refine wp_if h (b:=(gD (List.set v866 (tZ r868.1.2.2) true) (tZ (gD (gD x0.2.2.1 (tZ (gD x0.1.2.1 (tZ r868.1.2.2) zR).1) lO) (tZ v961) iO)) false)) (by kernel_rfl) (fun hb => ?_) (fun hb => ?_)
       ·replace hF:=of_t hb hF
        refine wp_exit ?_
        exact ⟨(v958,v959,v960),hF,h.arrive (l:=[0,7,8,9,11,14,105,106,107]) nw (by kernel_rfl)⟩
       ·replace hF:=of_f hb hF
        refine wp_skip ?_
        obtain ⟨r983,hr997,hF⟩:=of_bind hF
        refine wp_reg_seq tok (orc:=orcL [(119,[⟨(.int .i64),r983⟩])]) (l:=[0,7,8,9,11,14,16,17,105,106,107]) nw h (by kernel_rfl) (ac (c66 k x0 (gD (gD x0.2.2.1 (tZ (gD x0.1.2.1 (tZ r868.1.2.2) zR).1) lO) (tZ v961) iO) r868.1.2.2 r983 hr997) an) fun a w h => ?_
        refine wp_seq ?_
        refine wp_reg_seq tok (orc:=o0) (l:=[0,7,8,9,11,14,16,17,105,106,107,121]) nw h (by kernel_rfl) an fun a w h => ?_
        refine wp_if h (b:=(decide ((r983:Int) < iO))) (by kernel_rfl) (fun hb => ?_) (fun hb => ?_)
        ·replace hF:=of_t hb hF
         refine wp_exit ?_
         exact ⟨(v958,v959,v960),hF,h.arrive (l:=[0,7,8,9,11,14,105,106,107]) nw (by kernel_rfl)⟩
        ·replace hF:=of_f hb hF
         refine wp_skip ?_
         obtain ⟨hc996,hF⟩:=of_if hF
         refine wp_regy_seq tok (orc:=o0) (l:=[0,7,8,9,11,14,16,18,19,105,106,107]) ([],[],[],[]) 19 nw h (by kernel_rfl) (by kernel_rfl) (ac hc996 an) fun a w h => ?_
         obtain ⟨hc992,hF⟩:=of_if hF
         obtain ⟨hc993,hF⟩:=of_if hF
         obtain ⟨hc994,hF⟩:=of_if hF
         obtain ⟨hc995,hF⟩:=of_if hF
         refine wp_reg_seq tok (orc:=o0) (l:=[0,7,8,9,11,14,16,18,19,105,106,107,167]) nw h (by kernel_rfl) (ac hc992 (ac hc993 (ac hc994 (ac hc995 an)))) fun a w h => ?_
         obtain ⟨v984,hv991,hF⟩:=of_bind hF
         replace h:=h.cast (S':=[(0,.val sh32 (some x0)),(7,.val (.sl true 2 (.int .i64)) v958),(8,.val (.sl true 2 (.int .i64)) v959),(9,.val (.sl true 4 .bool) (List.set v866 (tZ r868.1.2.2) true)),(11,.val sh34 (some v960)),(14,.val sh35 (some r868.1)),(16,.val (.int .i64) (gD (gD x0.2.2.1 (tZ (gD x0.1.2.1 (tZ r868.1.2.2) zR).1) lO) (tZ v961) iO)),(18,.val (.int .i64) (w64 ((w64 (r868.1.1+r983)) + (gD x0.1.2.1 (tZ (gD (gD x0.2.2.1 (tZ (gD x0.1.2.1 (tZ r868.1.2.2) zR).1) lO) (tZ v961) iO)) zR).2.2.2.1))),(19,.val (.int .i64) (w64 (r868.1.2.1 + (1:Int)))),(105,.val (.sl false 2 (.int .i64)) (gD x0.2.2.1 (tZ (gD x0.1.2.1 (tZ r868.1.2.2) zR).1) lO)),(106,.val (.int .i64) (List.length (gD x0.2.2.1 (tZ (gD x0.1.2.1 (tZ r868.1.2.2) zR).1) lO):Int)),(107,.val (.int .i64) v961),(167,.val .bool v984)]) (by cases hv991; kernel_rfl)
         refine wp_if h (b:=v984) (by kernel_rfl) (fun hb => ?_) (fun hb => ?_)
         ·replace hF:=of_t hb hF
          obtain ⟨hc989,hF⟩:=of_if hF
          obtain ⟨hc990,hF⟩:=of_if hF
          refine wp_reg_seq tok (orc:=o0) (l:=[0,7,8,9,11,14,16,18,19,105,106,107]) nw h (by kernel_rfl) (ac hc989 (ac hc990 an)) fun a w h => ?_
          obtain ⟨v985,hv988,hF⟩:=of_bind hF
          replace h:=h.cast (S':=[(0,.val sh32 (some x0)),(7,.val (.sl true 2 (.int .i64)) v985),(8,.val (.sl true 2 (.int .i64)) (List.set v959 (tZ (gD (gD x0.2.2.1 (tZ (gD x0.1.2.1 (tZ r868.1.2.2) zR).1) lO) (tZ v961) iO)) (w64 (r868.1.2.1 + (1:Int))))),(9,.val (.sl true 4 .bool) (List.set v866 (tZ r868.1.2.2) true)),(11,.val sh34 (some v960)),(14,.val sh35 (some r868.1)),(16,.val (.int .i64) (gD (gD x0.2.2.1 (tZ (gD x0.1.2.1 (tZ r868.1.2.2) zR).1) lO) (tZ v961) iO)),(18,.val (.int .i64) (w64 ((w64 (r868.1.1+r983)) + (gD x0.1.2.1 (tZ (gD (gD x0.2.2.1 (tZ (gD x0.1.2.1 (tZ r868.1.2.2) zR).1) lO) (tZ v961) iO)) zR).2.2.2.1))),(19,.val (.int .i64) (w64 (r868.1.2.1 + (1:Int)))),(105,.val (.sl false 2 (.int .i64)) (gD x0.2.2.1 (tZ (gD x0.1.2.1 (tZ r868.1.2.2) zR).1) lO)),(106,.val (.int .i64) (List.length (gD x0.2.2.1 (tZ (gD x0.1.2.1 (tZ r868.1.2.2) zR).1) lO):Int)),(107,.val (.int .i64) v961)]) (by cases hv988; kernel_rfl)
          obtain ⟨r986,hr987,hF⟩:=of_bind hF
          refine wp_reg tok (orc:=orcL [(181,[⟨.pt false 4294967295 (.pt true 109 (.st (.pair (.sl true 112 (.st (.pair (.int .i64) (.pair (.int .i64) (.int .i64))))) .unit))),some (some r986)⟩])]) (l:=[0,7,8,9,11,14,105,106,107]) nw h (by kernel_rfl) (ac (c68 k v960 ((w64 ((w64 (r868.1.1+r983)) + (gD x0.1.2.1 (tZ (gD (gD x0.2.2.1 (tZ (gD x0.1.2.1 (tZ r868.1.2.2) zR).1) lO) (tZ v961) iO)) zR).2.2.2.1)),((w64 (r868.1.2.1 + (1:Int))),(gD (gD x0.2.2.1 (tZ (gD x0.1.2.1 (tZ r868.1.2.2) zR).1) lO) (tZ v961) iO))) r986 hr987) an) fun a w h => ?_
          exact ⟨(v985,(List.set v959 (tZ (gD (gD x0.2.2.1 (tZ (gD x0.1.2.1 (tZ r868.1.2.2) zR).1) lO) (tZ v961) iO)) (w64 (r868.1.2.1 + (1:Int)))),r986),hF,h.arrive (l:=[0,7,8,9,11,14,105,106,107]) nw (by kernel_rfl)⟩
         ·replace hF:=of_f hb hF
          refine wp_skip ?_
          exact ⟨(v958,v959,v960),hF,h.arrive (l:=[0,7,8,9,11,14,105,106,107]) nw (by kernel_rfl)⟩
      ·rintro a w ⟨v,hF,h⟩
       obtain ⟨v979,v980,v981⟩:=v
       rw [f45.j982] at hF
       refine wp_reg tok (orc:=o0) (l:=[0,7,8,9,11,14,105,106,107]) nw h (by kernel_rfl) an fun a w h => ?_
       exact ⟨(v979,v980,v981,(w64 (v961 + (1:Int)))),hF,h.arrive (l:=[0,7,8,9,11,14,105,106,107]) nw (by kernel_rfl)⟩
     ·replace hF:=of_f hb hF
      refine wp_exit ?_
      exact ⟨(v958,v959,(List.set v866 (tZ r868.1.2.2) true),v960),hF,h.arrive (l:=[0,7,8,9,11]) nw (by kernel_rfl)⟩
   ·replace hF:=of_f hb hF
    refine wp_exit ?_
    refine wp_reg_seq tok (orc:=o0) (l:=[4,5,7,8]) nw h (by kernel_rfl) an fun a w h => ?_
    cases hF
    exact wp_ret (ret_okR tok h rfl (by kernel_rfl)).1
def f64 (k:Nat) (x0:Int):Option Int:=some (0:Int)
theorem c64 (k:Nat) (x0:Int) (r:Int) (hF:f64 k x0=some r):PCall Try.prog 64 [⟨(.int .i64),x0⟩] [⟨(.int .i64),r⟩]:=by
 refine pcall_intro Try.func64 rfl rfl (Nat.le_of_ble_eq_true rfl) ?_
 intro w0 Zi a w h
 rw [f64] at hF
 refine wp_reg_seq tok (orc:=o0) (l:=[]) nw h (by kernel_rfl) an fun a w h => ?_
 refine wp_reg_seq tok (orc:=o0) (l:=[2]) nw h (by kernel_rfl) an fun a w h => ?_
 cases hF
 exact wp_ret (ret_okR tok h rfl (by kernel_rfl)).1
def f63.j130 (k:Nat) (v120:Int) (q68:(Int × Int × Int × Int)→Option Int):(Int × Int × Int)→Option Int
 | (v127,v128,v129) => q68 (v127,v128,v129,(IntKind.i64.wrap (v120 + (1:Int))))
def f63.l68 (k:Nat) (x0:(List Int)) (x2_0:(List Int)) (x3_0:(List Int)):Nat → (Int × Int × Int × Int)→Option Int
 | 0,_ => none
 | m68+1,(v117,v118,v119,v120) => if (decide ((v120:Int) < (List.length x0:Int))) then (if (0≤v120∧v120 < (List.length x0:Int)) then ((f64 k (List.getD x0 (Int.toNat v120) (0:Int))).bind fun r131 => (if (((decide ((r131:Int) < (0:Int)))=false) → (0 ≤ (List.getD x0 (Int.toNat v120) (0:Int)) ∧ (List.getD x0 (Int.toNat v120) (0:Int)) < (List.length x2_0:Int))) then (if (bif (decide ((r131:Int) < (0:Int))) then true else (decide (((List.getD x2_0 (Int.toNat (List.getD x0 (Int.toNat v120) (0:Int))) (0:Int)):Int) < (0:Int)))) then (f63.j130 k v120 ((f63.l68 k x0 x2_0 x3_0) m68) (v117,v118,v119)) else (if (0 ≤ (List.getD x0 (Int.toNat v120) (0:Int)) ∧ (List.getD x0 (Int.toNat v120) (0:Int)) < (List.length x2_0:Int)) then (if (0 ≤ (List.getD x0 (Int.toNat v120) (0:Int)) ∧ (List.getD x0 (Int.toNat v120) (0:Int)) < (List.length x3_0:Int)) then (if (bif (bif (decide ((v117:Int) < (0:Int))) then true else (decide (((IntKind.i64.wrap ((List.getD x2_0 (Int.toNat (List.getD x0 (Int.toNat v120) (0:Int))) (0:Int))+r131)):Int) < v118))) then true else (bif (((IntKind.i64.wrap ((List.getD x2_0 (Int.toNat (List.getD x0 (Int.toNat v120) (0:Int))) (0:Int))+r131)):Int) == v118) then (decide (((List.getD x3_0 (Int.toNat (List.getD x0 (Int.toNat v120) (0:Int))) (0:Int)):Int) < v119)) else false)) then (f63.j130 k v120 ((f63.l68 k x0 x2_0 x3_0) m68) ((List.getD x0 (Int.toNat v120) (0:Int)),(IntKind.i64.wrap ((List.getD x2_0 (Int.toNat (List.getD x0 (Int.toNat v120) (0:Int))) (0:Int))+r131)),(List.getD x3_0 (Int.toNat (List.getD x0 (Int.toNat v120) (0:Int))) (0:Int)))) else (f63.j130 k v120 ((f63.l68 k x0 x2_0 x3_0) m68) (v117,v118,v119))) else none) else none)) else none)) else none) else (some v117)
def f63 (k:Nat) (x0:(List Int)) (x2_0:(List Int)) (x3_0:(List Int)):Option Int:=f63.l68 k x0 x2_0 x3_0 k ((-1:Int),(0:Int),(0:Int),(0:Int))
theorem c63 (k:Nat) (x0:(List Int)) (x2_0:(List Int)) (x3_0:(List Int)) (r:Int) (hF:f63 k x0 x2_0 x3_0=some r):PCall Try.prog 63 [⟨(.sl false 2 (.int .i64)),x0⟩,⟨(.fn 64 .unit),()⟩,⟨sh28,(some x2_0)⟩,⟨sh28,(some x3_0)⟩] [⟨(.int .i64),r⟩]:=by
 refine pcall_intro Try.func63 rfl rfl (Nat.le_of_ble_eq_true rfl) ?_
 intro w0 Zi a w h
 rw [f63] at hF
 refine wp_reg_seq tok (orc:=o0) (l:=[0,1,2,3]) nw h (by kernel_rfl) an fun a w h => ?_
 refine wp_reg_seq tok (orc:=o0) (l:=[0,1,2,3,7]) nw h (by kernel_rfl) an fun a w h => ?_
 refine wp_reg_seq tok (orc:=o0) (l:=[0,1,2,3,7,8,9]) nw h (by kernel_rfl) an fun a w h => ?_
 refine wp_seq ?_
 refine wp_reg_seq tok (orc:=o0) (l:=[1,2,3,7,8,9,15,16,17]) nw h (by kernel_rfl) an fun a w h => ?_
 refine wp_block ?_
 refine wp_loop_fuel (f63.l68 k x0 x2_0 x3_0) (fun ((v117,v118,v119,v120):(Int × Int × Int × Int)) => [(1,.val (.fn 64 .unit) ()),(2,.val sh28 (some x2_0)),(3,.val sh28 (some x3_0)),(7,.val (.int .i64) v117),(8,.val (.int .i64) v118),(9,.val (.int .i64) v119),(15,.val (.sl false 2 (.int .i64)) x0),(16,.val (.int .i64) (List.length x0:Int)),(17,.val (.int .i64) v120)]) (fun v h => by obtain ⟨v117,v118,v119,v120⟩:=v; rw [f63.l68] at h; cases h) ?_ hF (h.arrive (l:=[1,2,3,7,8,9,15,16,17]) nw (by kernel_rfl))
 intro m68 v a w hF h
 obtain ⟨v117,v118,v119,v120⟩:=v
 rw [f63.l68] at hF
 refine wp_reg_seq tok (orc:=o0) (l:=[1,2,3,7,8,9,15,16,17,18]) nw h (by kernel_rfl) an fun a w h => ?_
 refine wp_seq <| wp_if h (b:=(decide ((v120:Int) < (List.length x0:Int)))) (by kernel_rfl) (fun hb => ?_) (fun hb => ?_)
 ·replace hF:=of_t hb hF
  refine wp_skip ?_
  refine wp_mid (fun a w => ∃ v:(Int × Int × Int),f63.j130 k v120 ((f63.l68 k x0 x2_0 x3_0) m68) v=some r∧Rel w0 (fun _ => False) Zi Try.f63.ntmps ((fun ((v127,v128,v129):(Int × Int × Int)) => ([(1,.val (.fn 64 .unit) ()),(2,.val sh28 (some x2_0)),(3,.val sh28 (some x3_0)),(7,.val (.int .i64) v127),(8,.val (.int .i64) v128),(9,.val (.int .i64) v129),(15,.val (.sl false 2 (.int .i64)) x0),(16,.val (.int .i64) (List.length x0:Int)),(17,.val (.int .i64) v120)]:SS)) v) a w) ?_ ?_
  ·
   refine wp_block ?_
   obtain ⟨hc136,hF⟩:=of_if hF
   refine wp_reg_seq tok (orc:=o0) (l:=[1,2,3,7,8,9,11,15,16,17]) nw h (by kernel_rfl) (ac hc136 an) fun a w h => ?_
   obtain ⟨r131,hr135,hF⟩:=of_bind hF
   refine wp_reg_seq tok (orc:=orcL [(23,[⟨(.int .i64),r131⟩])]) (l:=[1,2,3,7,8,9,11,12,15,16,17]) nw h (by kernel_rfl) (ac (c64 k (gD x0 (tZ v120) iO) r131 hr135) an) fun a w h => ?_
   refine wp_seq ?_
   obtain ⟨hc134,hF⟩:=of_if hF
   refine wp_reg_seq tok (orc:=o0) (l:=[1,2,3,7,8,9,11,12,15,16,17,32]) nw h (by kernel_rfl) (ac hc134 an) fun a w h => ?_
   refine wp_if h (b:=(bif (decide ((r131:Int) < iO)) then true else (decide (((gD x2_0 (tZ (gD x0 (tZ v120) iO)) iO):Int) < iO)))) (by kernel_rfl) (fun hb => ?_) (fun hb => ?_)
   ·replace hF:=of_t hb hF
    refine wp_exit ?_
    exact ⟨(v117,v118,v119),hF,h.arrive (l:=[1,2,3,7,8,9,15,16,17]) nw (by kernel_rfl)⟩
   ·replace hF:=of_f hb hF
    refine wp_skip ?_
    obtain ⟨hc132,hF⟩:=of_if hF
    obtain ⟨hc133,hF⟩:=of_if hF
    refine wp_regy_seq tok (orc:=o0) (l:=[1,2,3,7,8,9,11,13,14,15,16,17]) ([],[],[],[]) 12 nw h (by kernel_rfl) (by kernel_rfl) (ac hc132 (ac hc133 an)) fun a w h => ?_
    refine wp_reg_seq tok (orc:=o0) (l:=[1,2,3,7,8,9,11,13,14,15,16,17,59]) nw h (by kernel_rfl) an fun a w h => ?_
    refine wp_if h (b:=(bif (bif (decide ((v117:Int) < iO)) then true else (decide (((w64 ((gD x2_0 (tZ (gD x0 (tZ v120) iO)) iO)+r131)):Int) < v118))) then true else (bif (((w64 ((gD x2_0 (tZ (gD x0 (tZ v120) iO)) iO)+r131)):Int) == v118) then (decide (((gD x3_0 (tZ (gD x0 (tZ v120) iO)) iO):Int) < v119)) else false))) (by kernel_rfl) (fun hb => ?_) (fun hb => ?_)
    ·replace hF:=of_t hb hF
     refine wp_reg tok (orc:=o0) (l:=[1,2,3,7,8,9,15,16,17]) nw h (by kernel_rfl) an fun a w h => ?_
     exact ⟨((gD x0 (tZ v120) iO),(w64 ((gD x2_0 (tZ (gD x0 (tZ v120) iO)) iO)+r131)),(gD x3_0 (tZ (gD x0 (tZ v120) iO)) iO)),hF,h.arrive (l:=[1,2,3,7,8,9,15,16,17]) nw (by kernel_rfl)⟩
    ·replace hF:=of_f hb hF
     refine wp_skip ?_
     exact ⟨(v117,v118,v119),hF,h.arrive (l:=[1,2,3,7,8,9,15,16,17]) nw (by kernel_rfl)⟩
  ·rintro a w ⟨v,hF,h⟩
   obtain ⟨v127,v128,v129⟩:=v
   rw [f63.j130] at hF
   refine wp_reg tok (orc:=o0) (l:=[1,2,3,7,8,9,15,16,17]) nw h (by kernel_rfl) an fun a w h => ?_
   exact ⟨(v127,v128,v129,(w64 (v120 + (1:Int)))),hF,h.arrive (l:=[1,2,3,7,8,9,15,16,17]) nw (by kernel_rfl)⟩
 ·replace hF:=of_f hb hF
  refine wp_exit ?_
  refine wp_reg_seq tok (orc:=o0) (l:=[6]) nw h (by kernel_rfl) an fun a w h => ?_
  cases hF
  exact wp_ret (ret_okR tok h rfl (by kernel_rfl)).1
def f65 (k:Nat) (x0:Int) (x1_0:(((List (Int × (Int × Int))) × ((List (Int × (Int × (Int × (Int × (Int × ByteArray)))))) × (List (Int × Int)))) × ((List (List Int)) × ((List (List Int)) × (Option (List ((Int × Int) × Bool))))))) (x2_0:Int):Option Int:=(f66 k x1_0 x2_0 x0).bind fun r1 => (some r1)
theorem c65 (k:Nat) (x0:Int) (x1_0:tN) (x2_0:Int) (r:Int) (hF:f65 k x0 x1_0 x2_0=some r):PCall Try.prog 65 [⟨(.int .i64),x0⟩,⟨sh38,(some (some x1_0))⟩,⟨(.pt false 0 (.int .i64)),(some x2_0)⟩] [⟨(.int .i64),r⟩]:=by
 refine pcall_intro Try.func65 rfl rfl (Nat.le_of_ble_eq_true rfl) ?_
 intro w0 Zi a w h
 rw [f65] at hF
 refine wp_reg_seq tok (orc:=o0) (l:=[0,1,2]) nw h (by kernel_rfl) an fun a w h => ?_
 obtain ⟨r1,hr2,hF⟩:=of_bind hF
 refine wp_reg_seq tok (orc:=orcL [(8,[⟨(.int .i64),r1⟩])]) (l:=[4]) nw h (by kernel_rfl) (ac (c66 k x1_0 x2_0 x0 r1 hr2) an) fun a w h => ?_
 cases hF
 exact wp_ret (ret_okR tok h rfl (by kernel_rfl)).1
def f63b.j130 (k:Nat) (v120:Int) (q68:(Int × Int × Int × Int)→Option Int):(Int × Int × Int)→Option Int
 | (v127,v128,v129) => q68 (v127,v128,v129,(IntKind.i64.wrap (v120 + (1:Int))))
def f63b.l68 (k:Nat) (x0:(List Int)) (x1_0:(((List (Int × (Int × Int))) × ((List (Int × (Int × (Int × (Int × (Int × ByteArray)))))) × (List (Int × Int)))) × ((List (List Int)) × ((List (List Int)) × (Option (List ((Int × Int) × Bool))))))) (x1_1:Int) (x2_0:(List Int)) (x3_0:(List Int)):Nat → (Int × Int × Int × Int)→Option Int
 | 0,_ => none
 | m68+1,(v117,v118,v119,v120) => if (decide ((v120:Int) < (List.length x0:Int))) then (if (0≤v120∧v120 < (List.length x0:Int)) then ((f65 k (List.getD x0 (Int.toNat v120) (0:Int)) x1_0 x1_1).bind fun r131 => (if (((decide ((r131:Int) < (0:Int)))=false) → (0 ≤ (List.getD x0 (Int.toNat v120) (0:Int)) ∧ (List.getD x0 (Int.toNat v120) (0:Int)) < (List.length x2_0:Int))) then (if (bif (decide ((r131:Int) < (0:Int))) then true else (decide (((List.getD x2_0 (Int.toNat (List.getD x0 (Int.toNat v120) (0:Int))) (0:Int)):Int) < (0:Int)))) then (f63b.j130 k v120 ((f63b.l68 k x0 x1_0 x1_1 x2_0 x3_0) m68) (v117,v118,v119)) else (if (0 ≤ (List.getD x0 (Int.toNat v120) (0:Int)) ∧ (List.getD x0 (Int.toNat v120) (0:Int)) < (List.length x2_0:Int)) then (if (0 ≤ (List.getD x0 (Int.toNat v120) (0:Int)) ∧ (List.getD x0 (Int.toNat v120) (0:Int)) < (List.length x3_0:Int)) then (if (bif (bif (decide ((v117:Int) < (0:Int))) then true else (decide (((IntKind.i64.wrap ((List.getD x2_0 (Int.toNat (List.getD x0 (Int.toNat v120) (0:Int))) (0:Int))+r131)):Int) < v118))) then true else (bif (((IntKind.i64.wrap ((List.getD x2_0 (Int.toNat (List.getD x0 (Int.toNat v120) (0:Int))) (0:Int))+r131)):Int) == v118) then (decide (((List.getD x3_0 (Int.toNat (List.getD x0 (Int.toNat v120) (0:Int))) (0:Int)):Int) < v119)) else false)) then (f63b.j130 k v120 ((f63b.l68 k x0 x1_0 x1_1 x2_0 x3_0) m68) ((List.getD x0 (Int.toNat v120) (0:Int)),(IntKind.i64.wrap ((List.getD x2_0 (Int.toNat (List.getD x0 (Int.toNat v120) (0:Int))) (0:Int))+r131)),(List.getD x3_0 (Int.toNat (List.getD x0 (Int.toNat v120) (0:Int))) (0:Int)))) else (f63b.j130 k v120 ((f63b.l68 k x0 x1_0 x1_1 x2_0 x3_0) m68) (v117,v118,v119))) else none) else none)) else none)) else none) else (some v117)
def f63b (k:Nat) (x0:(List Int)) (x1_0:(((List (Int × (Int × Int))) × ((List (Int × (Int × (Int × (Int × (Int × ByteArray)))))) × (List (Int × Int)))) × ((List (List Int)) × ((List (List Int)) × (Option (List ((Int × Int) × Bool))))))) (x1_1:Int) (x2_0:(List Int)) (x3_0:(List Int)):Option Int:=f63b.l68 k x0 x1_0 x1_1 x2_0 x3_0 k ((-1:Int),(0:Int),(0:Int),(0:Int))
theorem c63b (k:Nat) (x0:(List Int)) (x1_0:tN) (x1_1:Int) (x2_0:(List Int)) (x3_0:(List Int)) (r:Int) (hF:f63b k x0 x1_0 x1_1 x2_0 x3_0=some r):PCall Try.prog 63 [⟨(.sl false 2 (.int .i64)),x0⟩,⟨sh39,((some (some x1_0)),((some x1_1),()))⟩,⟨sh28,(some x2_0)⟩,⟨sh28,(some x3_0)⟩] [⟨(.int .i64),r⟩]:=by
 refine pcall_intro Try.func63 rfl rfl (Nat.le_of_ble_eq_true rfl) ?_
 intro w0 Zi a w h
 rw [f63b] at hF
 refine wp_reg_seq tok (orc:=o0) (l:=[0,1,2,3]) nw h (by kernel_rfl) an fun a w h => ?_
 refine wp_reg_seq tok (orc:=o0) (l:=[0,1,2,3,7]) nw h (by kernel_rfl) an fun a w h => ?_
 refine wp_reg_seq tok (orc:=o0) (l:=[0,1,2,3,7,8,9]) nw h (by kernel_rfl) an fun a w h => ?_
 refine wp_seq ?_
 refine wp_reg_seq tok (orc:=o0) (l:=[1,2,3,7,8,9,15,16,17]) nw h (by kernel_rfl) an fun a w h => ?_
 refine wp_block ?_
 refine wp_loop_fuel (f63b.l68 k x0 x1_0 x1_1 x2_0 x3_0) (fun ((v117,v118,v119,v120):(Int × Int × Int × Int)) => [(1,.val sh39 ((some (some x1_0)),((some x1_1),()))),(2,.val sh28 (some x2_0)),(3,.val sh28 (some x3_0)),(7,.val (.int .i64) v117),(8,.val (.int .i64) v118),(9,.val (.int .i64) v119),(15,.val (.sl false 2 (.int .i64)) x0),(16,.val (.int .i64) (List.length x0:Int)),(17,.val (.int .i64) v120)]) (fun v h => by obtain ⟨v117,v118,v119,v120⟩:=v; rw [f63b.l68] at h; cases h) ?_ hF (h.arrive (l:=[1,2,3,7,8,9,15,16,17]) nw (by kernel_rfl))
 intro m68 v a w hF h
 obtain ⟨v117,v118,v119,v120⟩:=v
 rw [f63b.l68] at hF
 refine wp_reg_seq tok (orc:=o0) (l:=[1,2,3,7,8,9,15,16,17,18]) nw h (by kernel_rfl) an fun a w h => ?_
 refine wp_seq <| wp_if h (b:=(decide ((v120:Int) < (List.length x0:Int)))) (by kernel_rfl) (fun hb => ?_) (fun hb => ?_)
 ·replace hF:=of_t hb hF
  refine wp_skip ?_
  refine wp_mid (fun a w => ∃ v:(Int × Int × Int),f63b.j130 k v120 ((f63b.l68 k x0 x1_0 x1_1 x2_0 x3_0) m68) v=some r∧Rel w0 (fun _ => False) Zi Try.f63.ntmps ((fun ((v127,v128,v129):(Int × Int × Int)) => ([(1,.val sh39 ((some (some x1_0)),((some x1_1),()))),(2,.val sh28 (some x2_0)),(3,.val sh28 (some x3_0)),(7,.val (.int .i64) v127),(8,.val (.int .i64) v128),(9,.val (.int .i64) v129),(15,.val (.sl false 2 (.int .i64)) x0),(16,.val (.int .i64) (List.length x0:Int)),(17,.val (.int .i64) v120)]:SS)) v) a w) ?_ ?_
  ·
   refine wp_block ?_
   obtain ⟨hc136,hF⟩:=of_if hF
   refine wp_reg_seq tok (orc:=o0) (l:=[1,2,3,7,8,9,11,15,16,17]) nw h (by kernel_rfl) (ac hc136 an) fun a w h => ?_
   obtain ⟨r131,hr135,hF⟩:=of_bind hF
   refine wp_reg_seq tok (orc:=orcL [(23,[⟨(.int .i64),r131⟩])]) (l:=[1,2,3,7,8,9,11,12,15,16,17]) nw h (by kernel_rfl) (ac (c65 k (gD x0 (tZ v120) iO) x1_0 x1_1 r131 hr135) an) fun a w h => ?_
   refine wp_seq ?_
   obtain ⟨hc134,hF⟩:=of_if hF
   refine wp_reg_seq tok (orc:=o0) (l:=[1,2,3,7,8,9,11,12,15,16,17,32]) nw h (by kernel_rfl) (ac hc134 an) fun a w h => ?_
   refine wp_if h (b:=(bif (decide ((r131:Int) < iO)) then true else (decide (((gD x2_0 (tZ (gD x0 (tZ v120) iO)) iO):Int) < iO)))) (by kernel_rfl) (fun hb => ?_) (fun hb => ?_)
   ·replace hF:=of_t hb hF
    refine wp_exit ?_
    exact ⟨(v117,v118,v119),hF,h.arrive (l:=[1,2,3,7,8,9,15,16,17]) nw (by kernel_rfl)⟩
   ·replace hF:=of_f hb hF
    refine wp_skip ?_
    obtain ⟨hc132,hF⟩:=of_if hF
    obtain ⟨hc133,hF⟩:=of_if hF
    refine wp_regy_seq tok (orc:=o0) (l:=[1,2,3,7,8,9,11,13,14,15,16,17]) ([],[],[],[]) 12 nw h (by kernel_rfl) (by kernel_rfl) (ac hc132 (ac hc133 an)) fun a w h => ?_
    refine wp_reg_seq tok (orc:=o0) (l:=[1,2,3,7,8,9,11,13,14,15,16,17,59]) nw h (by kernel_rfl) an fun a w h => ?_
    refine wp_if h (b:=(bif (bif (decide ((v117:Int) < iO)) then true else (decide (((w64 ((gD x2_0 (tZ (gD x0 (tZ v120) iO)) iO)+r131)):Int) < v118))) then true else (bif (((w64 ((gD x2_0 (tZ (gD x0 (tZ v120) iO)) iO)+r131)):Int) == v118) then (decide (((gD x3_0 (tZ (gD x0 (tZ v120) iO)) iO):Int) < v119)) else false))) (by kernel_rfl) (fun hb => ?_) (fun hb => ?_)
    ·replace hF:=of_t hb hF
     refine wp_reg tok (orc:=o0) (l:=[1,2,3,7,8,9,15,16,17]) nw h (by kernel_rfl) an fun a w h => ?_
     exact ⟨((gD x0 (tZ v120) iO),(w64 ((gD x2_0 (tZ (gD x0 (tZ v120) iO)) iO)+r131)),(gD x3_0 (tZ (gD x0 (tZ v120) iO)) iO)),hF,h.arrive (l:=[1,2,3,7,8,9,15,16,17]) nw (by kernel_rfl)⟩
    ·replace hF:=of_f hb hF
     refine wp_skip ?_
     exact ⟨(v117,v118,v119),hF,h.arrive (l:=[1,2,3,7,8,9,15,16,17]) nw (by kernel_rfl)⟩
  ·rintro a w ⟨v,hF,h⟩
   obtain ⟨v127,v128,v129⟩:=v
   rw [f63b.j130] at hF
   refine wp_reg tok (orc:=o0) (l:=[1,2,3,7,8,9,15,16,17]) nw h (by kernel_rfl) an fun a w h => ?_
   exact ⟨(v127,v128,v129,(w64 (v120 + (1:Int)))),hF,h.arrive (l:=[1,2,3,7,8,9,15,16,17]) nw (by kernel_rfl)⟩
 ·replace hF:=of_f hb hF
  refine wp_exit ?_
  refine wp_reg_seq tok (orc:=o0) (l:=[6]) nw h (by kernel_rfl) an fun a w h => ?_
  cases hF
  exact wp_ret (ret_okR tok h rfl (by kernel_rfl)).1
def f38.l3 (k:Nat) (x0:(((List (Int × (Int × Int))) × ((List (Int × (Int × (Int × (Int × (Int × ByteArray)))))) × (List (Int × Int)))) × ((List (List Int)) × ((List (List Int)) × (Option (List ((Int × Int) × Bool))))))) (x2:Int) (r1:((List Int) × (List Int))) (r2:Int):Nat → (Int × (List Int) × Int)→Option (Bool × ((List Int) × (Int × Int)))
 | 0,_ => none
 | m3+1,(v27,v28,v29) => if ((List.length v28+List.length [v27])*8≤140737488355328) then (if (0≤v27∧v27 < (List.length x0.1.2.1:Int)) then (if (0≤v27∧v27 < (List.length x0.1.2.1:Int)) then (if (((List.getD x0.1.2.1 (Int.toNat v27) ((0:Int),((0:Int),((0:Int),((0:Int),((0:Int),(⟨#[]⟩:ByteArray))))))).2.1:Int) == x2) then (some (true,((List.append v28 [v27]),((List.getD r1.1 (Int.toNat r2) (0:Int)),(IntKind.i64.wrap (v29 + (List.getD x0.1.2.1 (Int.toNat v27) ((0:Int),((0:Int),((0:Int),((0:Int),((0:Int),(⟨#[]⟩:ByteArray))))))).2.2.2.2.1)))))) else (if (0≤v27∧v27 < (List.length x0.1.2.1:Int)) then (if (0 ≤ (List.getD x0.1.2.1 (Int.toNat v27) ((0:Int),((0:Int),((0:Int),((0:Int),((0:Int),(⟨#[]⟩:ByteArray))))))).2.1 ∧ (List.getD x0.1.2.1 (Int.toNat v27) ((0:Int),((0:Int),((0:Int),((0:Int),((0:Int),(⟨#[]⟩:ByteArray))))))).2.1 < (List.length x0.2.1:Int)) then ((f63b k (List.getD x0.2.1 (Int.toNat (List.getD x0.1.2.1 (Int.toNat v27) ((0:Int),((0:Int),((0:Int),((0:Int),((0:Int),(⟨#[]⟩:ByteArray))))))).2.1) ([]:(List Int))) x0 v27 r1.1 r1.2).bind fun r30 => ((f38.l3 k x0 x2 r1 r2) m3 (r30,(List.append v28 [v27]),(IntKind.i64.wrap (v29 + (List.getD x0.1.2.1 (Int.toNat v27) ((0:Int),((0:Int),((0:Int),((0:Int),((0:Int),(⟨#[]⟩:ByteArray))))))).2.2.2.2.1))))) else none) else none)) else none) else none) else none
def f38 (k:Nat) (x0:(((List (Int × (Int × Int))) × ((List (Int × (Int × (Int × (Int × (Int × ByteArray)))))) × (List (Int × Int)))) × ((List (List Int)) × ((List (List Int)) × (Option (List ((Int × Int) × Bool))))))) (x1:Int) (x2:Int):Option (Bool × ((List Int) × (Int × Int))):=if ((x1:Int) == x2) then (some (true,(([]:(List Int)),((0:Int),(0:Int))))) else ((f45 k x0 x2).bind fun r1 => (if (0≤x1∧x1 < (List.length x0.2.1:Int)) then ((f63 k (List.getD x0.2.1 (Int.toNat x1) ([]:(List Int))) r1.1 r1.2).bind fun r2 => (if (decide ((r2:Int) < (0:Int))) then (some (false,(([]:(List Int)),((0:Int),(0:Int))))) else (if (0≤r2∧r2 < (List.length r1.1:Int)) then (f38.l3 k x0 x2 r1 r2 k (r2,([]:(List Int)),(0:Int))) else none))) else none))
theorem c38 (k:Nat) (x0:tN) (x1:Int) (x2:Int) (r:(Bool × ((List Int) × (Int × Int)))) (hF:f38 k x0 x1 x2=some r):PCall Try.prog 38 [⟨sh32,some x0⟩,⟨(.int .i64),x1⟩,⟨(.int .i64),x2⟩] [⟨sh43,r⟩]:=by
 refine pcall_intro Try.func38 rfl rfl (Nat.le_of_ble_eq_true rfl) ?_
 intro w0 Zi a w h
 rw [f38] at hF
 refine wp_reg_seq tok (orc:=o0) (l:=[1,2,3,6]) nw h (by kernel_rfl) an fun a w h => ?_
 refine wp_seq ?_
 refine wp_reg_seq tok (orc:=o0) (l:=[1,2,3,6,15]) nw h (by kernel_rfl) an fun a w h => ?_
 refine wp_if h (b:=((x1:Int) == x2)) (by kernel_rfl) (fun hb => ?_) (fun hb => ?_)
 ·replace hF:=of_t hb hF
  refine wp_reg_seq tok (orc:=o0) (l:=[6]) nw h (by kernel_rfl) an fun a w h => ?_
  cases hF
  exact wp_ret (ret_okR tok h rfl (by kernel_rfl)).1
 ·replace hF:=of_f hb hF
  refine wp_skip ?_
  obtain ⟨r1,hr40,hF⟩:=of_bind hF
  refine wp_reg_seq tok (orc:=orcL [(20,[⟨(.sl true 2 (.int .i64)),r1.1⟩,⟨(.sl true 2 (.int .i64)),r1.2⟩]),(17,[⟨.pt false 4294967292 .unit,some ()⟩])]) (l:=[1,2,3,6,7,8]) nw h (by kernel_rfl) (ac (c45 k x0 x2 r1 hr40) an) fun a w h => ?_
  refine wp_reg_seq tok (orc:=o0) (l:=[1,2,3,6,7,8,9]) nw h (by kernel_rfl) an fun a w h => ?_
  obtain ⟨hc38,hF⟩:=of_if hF
  obtain ⟨r2,hr39,hF⟩:=of_bind hF
  refine wp_reg_seq tok (orc:=orcL [(32,[⟨(.int .i64),r2⟩])]) (l:=[2,3,6,7,8,9,10]) nw h (by kernel_rfl) (ac hc38 (ac (c63 k (gD x0.2.1 (tZ x1) lO) r1.1 r1.2 r2 hr39) an)) fun a w h => ?_
  refine wp_seq ?_
  refine wp_reg_seq tok (orc:=o0) (l:=[2,3,6,7,8,9,10,34]) nw h (by kernel_rfl) an fun a w h => ?_
  refine wp_if h (b:=(decide ((r2:Int) < iO))) (by kernel_rfl) (fun hb => ?_) (fun hb => ?_)
  ·replace hF:=of_t hb hF
   refine wp_reg_seq tok (orc:=o0) (l:=[6]) nw h (by kernel_rfl) an fun a w h => ?_
   cases hF
   exact wp_ret (ret_okR tok h rfl (by kernel_rfl)).1
  ·replace hF:=of_f hb hF
   refine wp_skip ?_
   obtain ⟨hc37,hF⟩:=of_if hF
   refine wp_reg_seq tok (orc:=o0) (l:=[2,3,6,7,8,9,10,11]) nw h (by kernel_rfl) (ac hc37 an) fun a w h => ?_
   refine wp_block ?_
   refine wp_loop_fuel (f38.l3 k x0 x2 r1 r2) (fun ((v27,v28,v29):(Int × (List Int) × Int)) => [(2,.val (.int .i64) x2),(3,.val sh40 (some (some x0))),(6,.val sh41 (some (false,(lO,(iO,iO))))),(7,.val sh42 (some r1.1)),(8,.val sh42 (some r1.2)),(9,.clo 63 [(7,[]),(8,[])]),(10,.val (.int .i64) v27),(11,.val sh41 (some (true,(v28,((gD r1.1 (tZ r2) iO),v29)))))]) (fun v h => by obtain ⟨v27,v28,v29⟩:=v; rw [f38.l3] at h; cases h) ?_ hF (h.arrive (l:=[2,3,6,7,8,9,10,11]) nw (by kernel_rfl))
   intro m3 v a w hF h
   obtain ⟨v27,v28,v29⟩:=v
   rw [f38.l3] at hF
   refine wp_block ?_
   obtain ⟨hc36,hF⟩:=of_if hF
   refine wp_reg_seq tok (orc:=orcL [(45,[⟨.pt false 4294967293 .unit,some ()⟩])]) (l:=[2,3,6,7,8,9,10,11]) nw h (by kernel_rfl) (ac (PrefL.mk (l:=[[.der,.snd,.fst],[.der,.snd,.fst]]) (p:=[.der,.snd,.fst]) rfl) (ac hc36 (ac (show ([.der,.snd,.fst]:Path)=[.der,.snd,.fst] from rfl) an))) fun a w h => ?_
   obtain ⟨hc35,hF⟩:=of_if hF
   refine wp_regy_seq tok (orc:=o0) (l:=[2,3,6,7,8,9,10,11]) ([],[],[],[]) 13 nw h (by kernel_rfl) (by kernel_rfl) (ac hc35 an) fun a w h => ?_
   refine wp_seq ?_
   obtain ⟨hc34,hF⟩:=of_if hF
   refine wp_reg_seq tok (orc:=o0) (l:=[2,3,6,7,8,9,10,11,70]) nw h (by kernel_rfl) (ac hc34 an) fun a w h => ?_
   refine wp_if h (b:=(((gD x0.1.2.1 (tZ v27) zR).2.1:Int) == x2)) (by kernel_rfl) (fun hb => ?_) (fun hb => ?_)
   ·replace hF:=of_t hb hF
    refine wp_reg_seq tok (orc:=o0) (l:=[6]) nw h (by kernel_rfl) an fun a w h => ?_
    cases hF
    exact wp_ret (ret_okR tok h rfl (by kernel_rfl)).1
   ·replace hF:=of_f hb hF
    refine wp_skip ?_
    refine wp_reg_seq tok (orc:=o0) (l:=[2,3,6,7,8,9,10,11,12]) nw h (by kernel_rfl) an fun a w h => ?_
    obtain ⟨hc31,hF⟩:=of_if hF
    obtain ⟨hc32,hF⟩:=of_if hF
    obtain ⟨r30,hr33,hF⟩:=of_bind hF
    refine wp_regy tok (orc:=orcL [(90,[⟨(.int .i64),r30⟩])]) (l:=[2,3,6,7,8,9,10,11]) ([],[],[],[]) 19 nw h (by kernel_rfl) (by kernel_rfl) (ac hc31 (ac hc32 (ac (c63b k (gD x0.2.1 (tZ (gD x0.1.2.1 (tZ v27) zR).2.1) lO) x0 v27 r1.1 r1.2 r30 hr33) an))) fun a w h => ?_
    exact ⟨(r30,(List.append v28 [v27]),(w64 (v29 + (gD x0.1.2.1 (tZ v27) zR).2.2.2.2.1))),hF,h.arrive (l:=[2,3,6,7,8,9,10,11]) nw (by kernel_rfl)⟩
def f10 (k:Nat) (x0:((List (Int × (Int × Int))) × ((List (Int × (Int × (Int × (Int × (Int × ByteArray)))))) × (List (Int × Int))))) (x1:Int) (x2:Int):Option (Bool × ((List Int) × (Int × Int))):=(f9 k x0).bind fun r1 => (if (!r1) then (some (false,(([]:(List Int)),((0:Int),(0:Int))))) else ((f36 k x0).bind fun r2 => ((f37 k r2 x1).bind fun r3 => ((if ((!r3)=false) then f37 k r2 x2 else some default).bind fun r4 => (if (bif (!r3) then true else (!r4)) then (some (false,(([]:(List Int)),((0:Int),(0:Int))))) else ((f38 k r2 x1 x2).bind fun r5 => (some r5)))))))
theorem c10 (k:Nat) (x0:tG) (x1:Int) (x2:Int) (r:(Bool × ((List Int) × (Int × Int)))) (hF:f10 k x0 x1 x2=some r):PCall Try.prog 10 [⟨sh18,x0⟩,⟨(.int .i64),x1⟩,⟨(.int .i64),x2⟩] [⟨sh43,r⟩]:=by
 refine pcall_intro Try.func10 rfl rfl (Nat.le_of_ble_eq_true rfl) ?_
 intro w0 Zi a w h
 rw [f10] at hF
 refine wp_reg_seq tok (orc:=o0) (l:=[1,2,3,6]) nw h (by kernel_rfl) an fun a w h => ?_
 refine wp_seq ?_
 obtain ⟨r1,hr10,hF⟩:=of_bind hF
 refine wp_reg_seq tok (orc:=orcL [(9,[⟨.bool,r1⟩])]) (l:=[1,2,3,6,10]) nw h (by kernel_rfl) (ac (c9 k x0 r1 hr10) an) fun a w h => ?_
 refine wp_if h (b:=(!r1)) (by kernel_rfl) (fun hb => ?_) (fun hb => ?_)
 ·replace hF:=of_t hb hF
  refine wp_reg_seq tok (orc:=o0) (l:=[6]) nw h (by kernel_rfl) an fun a w h => ?_
  cases hF
  exact wp_ret (ret_okR tok h rfl (by kernel_rfl)).1
 ·replace hF:=of_f hb hF
  refine wp_skip ?_
  obtain ⟨r2,hr9,hF⟩:=of_bind hF
  refine wp_reg_seq tok (orc:=orcL [(13,[⟨sh31,some r2⟩])]) (l:=[1,2,6,7]) nw h (by kernel_rfl) (ac (c36 k x0 r2 hr9) an) fun a w h => ?_
  refine wp_seq ?_
  obtain ⟨r3,hr7,hF⟩:=of_bind hF
  obtain ⟨r4,hr8,hF⟩:=of_bind hF
  refine wp_reg_seq tok (orc:=orcL [(16,[⟨.bool,r3⟩]),(21,[⟨.bool,r4⟩])]) (l:=[1,2,6,7,23]) nw h (by kernel_rfl) (ac (c37 k r2 x1 r3 hr7) (ac (fun (hg:((!r3)=false)) => c37 k r2 x2 r4 (of_g hg hr8)) an)) fun a w h => ?_
  refine wp_if h (b:=(bif (!r3) then true else (!r4))) (by kernel_rfl) (fun hb => ?_) (fun hb => ?_)
  ·replace hF:=of_t hb hF
   refine wp_reg_seq tok (orc:=o0) (l:=[6]) nw h (by kernel_rfl) an fun a w h => ?_
   cases hF
   exact wp_ret (ret_okR tok h rfl (by kernel_rfl)).1
  ·replace hF:=of_f hb hF
   refine wp_skip ?_
   obtain ⟨r5,hr6,hF⟩:=of_bind hF
   refine wp_reg_seq tok (orc:=orcL [(28,[⟨sh43,r5⟩])]) (l:=[6]) nw h (by kernel_rfl) (ac (c38 k r2 x1 x2 r5 hr6) an) fun a w h => ?_
   cases hF
   exact wp_ret (ret_okR tok h rfl (by kernel_rfl)).1
def f19 (k:Nat) (x0:((List (Int × (Int × Int))) × ((List (Int × (Int × (Int × (Int × (Int × ByteArray)))))) × (List (Int × Int))))) (x1:Int):Option (List Int):=(f9 k x0).bind fun r1 => (if (!r1) then (some ([]:(List Int))) else ((f36 k x0).bind fun r2 => ((f37 k r2 x1).bind fun r3 => (if (!r3) then (some ([]:(List Int))) else ((f45 k r2 x1).bind fun r4 => (some r4.1))))))
theorem c19 (k:Nat) (x0:tG) (x1:Int) (r:(List Int)) (hF:f19 k x0 x1=some r):PCall Try.prog 19 [⟨sh18,x0⟩,⟨(.int .i64),x1⟩] [⟨(.sl true 2 (.int .i64)),r⟩]:=by
 refine pcall_intro Try.func19 rfl rfl (Nat.le_of_ble_eq_true rfl) ?_
 intro w0 Zi a w h
 rw [f19] at hF
 refine wp_reg_seq tok (orc:=o0) (l:=[1,2]) nw h (by kernel_rfl) an fun a w h => ?_
 refine wp_seq ?_
 obtain ⟨r1,hr8,hF⟩:=of_bind hF
 refine wp_reg_seq tok (orc:=orcL [(9,[⟨.bool,r1⟩])]) (l:=[1,2,10]) nw h (by kernel_rfl) (ac (c9 k x0 r1 hr8) an) fun a w h => ?_
 refine wp_if h (b:=(!r1)) (by kernel_rfl) (fun hb => ?_) (fun hb => ?_)
 ·replace hF:=of_t hb hF
  refine wp_reg_seq tok (orc:=o0) (l:=[4]) nw h (by kernel_rfl) an fun a w h => ?_
  cases hF
  exact wp_ret (ret_okR tok h rfl (by kernel_rfl)).1
 ·replace hF:=of_f hb hF
  refine wp_skip ?_
  obtain ⟨r2,hr7,hF⟩:=of_bind hF
  refine wp_reg_seq tok (orc:=orcL [(12,[⟨sh31,some r2⟩])]) (l:=[1,5]) nw h (by kernel_rfl) (ac (c36 k x0 r2 hr7) an) fun a w h => ?_
  refine wp_seq ?_
  obtain ⟨r3,hr6,hF⟩:=of_bind hF
  refine wp_reg_seq tok (orc:=orcL [(15,[⟨.bool,r3⟩])]) (l:=[1,5,16]) nw h (by kernel_rfl) (ac (c37 k r2 x1 r3 hr6) an) fun a w h => ?_
  refine wp_if h (b:=(!r3)) (by kernel_rfl) (fun hb => ?_) (fun hb => ?_)
  ·replace hF:=of_t hb hF
   refine wp_reg_seq tok (orc:=o0) (l:=[4]) nw h (by kernel_rfl) an fun a w h => ?_
   cases hF
   exact wp_ret (ret_okR tok h rfl (by kernel_rfl)).1
  ·replace hF:=of_f hb hF
   refine wp_skip ?_
   obtain ⟨r4,hr5,hF⟩:=of_bind hF
   refine wp_reg_seq tok (orc:=orcL [(20,[⟨(.sl true 2 (.int .i64)),r4.1⟩,⟨(.sl true 2 (.int .i64)),r4.2⟩]),(17,[⟨.pt false 4294967292 .unit,some ()⟩])]) (l:=[6]) nw h (by kernel_rfl) (ac (c45 k r2 x1 r4 hr5) an) fun a w h => ?_
   refine wp_reg_seq tok (orc:=o0) (l:=[4,6]) nw h (by kernel_rfl) an fun a w h => ?_
   cases hF
   exact wp_ret (ret_okR tok h rfl (by kernel_rfl)).1
def f4.j68 (k:Nat) (v63:Int) (q39:((List Int) × Int)→Option Bool):(List Int)→Option Bool
 | v67 => q39 (v67,(IntKind.i64.wrap (v63 + (1:Int))))
def f4.l165 (k:Nat) (r2:(((List (Int × (Int × Int))) × ((List (Int × (Int × (Int × (Int × (Int × ByteArray)))))) × (List (Int × Int)))) × Int)) (r3:(List Int)) (r73:(List Int)):Nat→Int→Option Bool
 | 0,_ => none
 | m165+1,v225 => if (decide ((v225:Int) < (List.length r2.1.1:Int))) then ((f10 k r2.1 r2.2 v225).bind fun r240 => (if (0≤v225∧v225 < (List.length r3:Int)) then (if ((((!((r240.1:Bool) == (decide (((List.getD r3 (Int.toNat v225) (0:Int)):Int) ≥ (0:Int)))))=false) ∧ (r240.1=true)) → (0≤v225∧v225 < (List.length r3:Int))) then (if (((bif (!((r240.1:Bool) == (decide (((List.getD r3 (Int.toNat v225) (0:Int)):Int) ≥ (0:Int))))) then true else (bif r240.1 then ((r240.2.2.1:Int) != (List.getD r3 (Int.toNat v225) (0:Int))) else false))=false) → (0≤v225∧v225 < (List.length r73:Int))) then (if (((bif (!((r240.1:Bool) == (decide (((List.getD r3 (Int.toNat v225) (0:Int)):Int) ≥ (0:Int))))) then true else (bif r240.1 then ((r240.2.2.1:Int) != (List.getD r3 (Int.toNat v225) (0:Int))) else false))=false) → (0≤v225∧v225 < (List.length r3:Int))) then (if (((bif (bif (!((r240.1:Bool) == (decide (((List.getD r3 (Int.toNat v225) (0:Int)):Int) ≥ (0:Int))))) then true else (bif r240.1 then ((r240.2.2.1:Int) != (List.getD r3 (Int.toNat v225) (0:Int))) else false)) then true else (!(((decide (((List.getD r73 (Int.toNat v225) (0:Int)):Int) < (0:Int))):Bool) == (decide (((List.getD r3 (Int.toNat v225) (0:Int)):Int) < (0:Int))))))=false) → (0≤v225∧v225 < (List.length r73:Int))) then (if (((bif (bif (!((r240.1:Bool) == (decide (((List.getD r3 (Int.toNat v225) (0:Int)):Int) ≥ (0:Int))))) then true else (bif r240.1 then ((r240.2.2.1:Int) != (List.getD r3 (Int.toNat v225) (0:Int))) else false)) then true else (!(((decide (((List.getD r73 (Int.toNat v225) (0:Int)):Int) < (0:Int))):Bool) == (decide (((List.getD r3 (Int.toNat v225) (0:Int)):Int) < (0:Int))))))=false) → (0≤v225∧v225 < (List.length r3:Int))) then ((some ((bif (bif (bif (!((r240.1:Bool) == (decide (((List.getD r3 (Int.toNat v225) (0:Int)):Int) ≥ (0:Int))))) then true else (bif r240.1 then ((r240.2.2.1:Int) != (List.getD r3 (Int.toNat v225) (0:Int))) else false)) then true else (!(((decide (((List.getD r73 (Int.toNat v225) (0:Int)):Int) < (0:Int))):Bool) == (decide (((List.getD r3 (Int.toNat v225) (0:Int)):Int) < (0:Int)))))) then true else (decide (((List.getD r73 (Int.toNat v225) (0:Int)):Int) < (List.getD r3 (Int.toNat v225) (0:Int))))):Bool)).bind fun v241 => (if v241 then (some false) else ((if ((bif r240.1 then (decide (((List.length r240.2.1:Int):Int) > (0:Int))) else false)=true) then f19 k r2.1 v225 else some default).bind fun r242 => (if (((bif r240.1 then (decide (((List.length r240.2.1:Int):Int) > (0:Int))) else false)=true) → (0 ≤ (0:Int) ∧ (0:Int) < (List.length r240.2.1:Int))) then (if (((bif r240.1 then (decide (((List.length r240.2.1:Int):Int) > (0:Int))) else false)=true) → (0 ≤ (List.getD r240.2.1 (Int.toNat (0:Int)) (0:Int)) ∧ (List.getD r240.2.1 (Int.toNat (0:Int)) (0:Int)) < (List.length r242:Int))) then (if (bif (bif r240.1 then (decide (((List.length r240.2.1:Int):Int) > (0:Int))) else false) then (((List.getD r242 (Int.toNat (List.getD r240.2.1 (Int.toNat (0:Int)) (0:Int))) (0:Int)):Int) != r240.2.2.1) else false) then (some false) else ((f4.l165 k r2 r3 r73) m165 (IntKind.i64.wrap (v225 + (1:Int))))) else none) else none)))) else none) else none) else none) else none) else none) else none)) else (if (0≤r2.2∧r2.2 < (List.length r3:Int)) then (some (((List.getD r3 (Int.toNat r2.2) (0:Int)):Int) == (0:Int))) else none)
def f4.l39 (k:Nat) (r2:(((List (Int × (Int × Int))) × ((List (Int × (Int × (Int × (Int × (Int × ByteArray)))))) × (List (Int × Int)))) × Int)) (r3:(List Int)):Nat → ((List Int) × Int)→Option Bool
 | 0,_ => none
 | m39+1,(v62,v63) => if (decide ((v63:Int) < (List.length r2.1.2.1:Int))) then (if (((2:Int):Int)≠0) then (if (((Int.tmod v63 (2:Int)):Int) == (0:Int)) then (if (0≤v63∧v63 < (List.length r2.1.2.1:Int)) then (if ((List.length v62+List.length [(List.getD r2.1.2.1 (Int.toNat v63) ((0:Int),((0:Int),((0:Int),((0:Int),((0:Int),(⟨#[]⟩:ByteArray))))))).2.2.1])*8≤140737488355328) then (f4.j68 k v63 ((f4.l39 k r2 r3) m39) (v62 ++ [(List.getD r2.1.2.1 (Int.toNat v63) ((0:Int),((0:Int),((0:Int),((0:Int),((0:Int),(⟨#[]⟩:ByteArray))))))).2.2.1])) else none) else none) else (f4.j68 k v63 ((f4.l39 k r2 r3) m39) v62)) else none) else (if (bif (decide (((List.length v62:Int):Int) > (1000:Int))) then true else (decide (((List.length r2.1.2.1:Int):Int) > (500:Int)))) then (some true) else ((f17 k r2.1 v62 (150:Int)).bind fun r72 => ((f16 k r72 r2.2).bind fun r73 => ((f17 k r2.1 v62 (100:Int)).bind fun r74 => ((f18 k r74 r2.1).bind fun r75 => (if (!r75) then (some false) else (f4.l165 k r2 r3 r73 k (0:Int))))))))
def f4 (k:Nat) (x0:(List Int)):Option Bool:=(f7 k x0).bind fun r1 => (if r1 then (some true) else ((f15 k x0).bind fun r2 => ((f16 k r2.1 r2.2).bind fun r3 => ((f9 k (([]:(List (Int × (Int × Int)))),(([]:(List (Int × (Int × (Int × (Int × (Int × ByteArray))))))),([]:(List (Int × Int)))))).bind fun r4 => (if (!r4) then (some false) else ((f9 k r2.1).bind fun r5 => (if (bif (bif (!r5) then true else (decide ((r2.2:Int) < (0:Int)))) then true else (decide ((r2.2:Int) ≥ (List.length r2.1.1:Int)))) then (some (((List.length r3:Int):Int) == (0:Int))) else (f4.l39 k r2 r3 k (([]:List Int),(0:Int))))))))))
theorem c4 (k:Nat) (x0:(List Int)) (r:Bool) (hF:f4 k x0=some r):PCall Try.prog 4 [⟨(.sl false 5 (.int .u8)),x0⟩] [⟨.bool,r⟩]:=by
 refine pcall_intro Try.func4 rfl rfl (Nat.le_of_ble_eq_true rfl) ?_
 intro w0 Zi a w h
 rw [f4] at hF
 refine wp_reg_seq tok (orc:=o0) (l:=[0]) nw h (by kernel_rfl) an fun a w h => ?_
 refine wp_seq ?_
 obtain ⟨r1,hr263,hF⟩:=of_bind hF
 refine wp_reg_seq tok (orc:=orcL [(12,[⟨.bool,r1⟩])]) (l:=[0,12]) nw h (by kernel_rfl) (ac (c7 k x0 r1 hr263) an) fun a w h => ?_
 refine wp_if h (b:=r1) (by kernel_rfl) (fun hb => ?_) (fun hb => ?_)
 ·replace hF:=of_t hb hF
  refine wp_reg_seq tok (orc:=o0) (l:=[2]) nw h (by kernel_rfl) an fun a w h => ?_
  cases hF
  exact wp_ret (ret_okR tok h rfl (by kernel_rfl)).1
 ·replace hF:=of_f hb hF
  refine wp_skip ?_
  obtain ⟨r2,hr262,hF⟩:=of_bind hF
  refine wp_reg_seq tok (orc:=orcL [(15,[⟨sh18,r2.1⟩,⟨(.int .i64),r2.2⟩])]) (l:=[3,4]) nw h (by kernel_rfl) (ac (c15 k x0 r2 hr262) an) fun a w h => ?_
  obtain ⟨r3,hr261,hF⟩:=of_bind hF
  refine wp_reg_seq tok (orc:=orcL [(20,[⟨(.sl true 2 (.int .i64)),r3⟩])]) (l:=[3,4,5]) nw h (by kernel_rfl) (ac (c16 k r2.1 r2.2 r3 hr261) an) fun a w h => ?_
  refine wp_seq ?_
  obtain ⟨r4,hr260,hF⟩:=of_bind hF
  refine wp_reg_seq tok (orc:=orcL [(22,[⟨.bool,r4⟩])]) (l:=[3,4,5,23]) nw h (by kernel_rfl) (ac (c9 k (([]:(List (Int × (Int × Int)))),(([]:(List (Int × (Int × (Int × (Int × (Int × ByteArray))))))),([]:(List (Int × Int))))) r4 hr260) an) fun a w h => ?_
  refine wp_if h (b:=(!r4)) (by kernel_rfl) (fun hb => ?_) (fun hb => ?_)
  ·replace hF:=of_t hb hF
   refine wp_reg_seq tok (orc:=o0) (l:=[2]) nw h (by kernel_rfl) an fun a w h => ?_
   cases hF
   exact wp_ret (ret_okR tok h rfl (by kernel_rfl)).1
  ·replace hF:=of_f hb hF
   refine wp_skip ?_
   refine wp_seq ?_
   obtain ⟨r5,hr259,hF⟩:=of_bind hF
   refine wp_reg_seq tok (orc:=orcL [(25,[⟨.bool,r5⟩])]) (l:=[3,4,5,37]) nw h (by kernel_rfl) (ac (c9 k r2.1 r5 hr259) an) fun a w h => ?_
   refine wp_if h (b:=(bif (bif (!r5) then true else (decide ((r2.2:Int) < iO))) then true else (decide ((r2.2:Int) ≥ (List.length r2.1.1:Int))))) (by kernel_rfl) (fun hb => ?_) (fun hb => ?_)
   ·replace hF:=of_t hb hF
    refine wp_reg_seq tok (orc:=o0) (l:=[2]) nw h (by kernel_rfl) an fun a w h => ?_
    cases hF
    exact wp_ret (ret_okR tok h rfl (by kernel_rfl)).1
   ·replace hF:=of_f hb hF
    refine wp_skip ?_
    refine wp_reg_seq tok (orc:=o0) (l:=[3,4,5,6]) nw h (by kernel_rfl) an fun a w h => ?_
    refine wp_seq ?_
    refine wp_reg_seq tok (orc:=o0) (l:=[3,4,5,6,7]) nw h (by kernel_rfl) an fun a w h => ?_
    refine wp_block ?_
    refine wp_loop_fuel (f4.l39 k r2 r3) (fun ((v62,v63):((List Int) × Int)) => [(3,.val sh17 (some r2.1)),(4,.val (.int .i64) r2.2),(5,.val (.sl true 2 (.int .i64)) r3),(6,.val (.sl true 2 (.int .i64)) v62),(7,.val (.int .i64) v63)]) (fun v h => by obtain ⟨v62,v63⟩:=v; rw [f4.l39] at h; cases h) ?_ hF (h.arrive (l:=[3,4,5,6,7]) nw (by kernel_rfl))
    intro m39 v a w hF h
    obtain ⟨v62,v63⟩:=v
    rw [f4.l39] at hF
    refine wp_seq ?_
    refine wp_reg_seq tok (orc:=o0) (l:=[3,4,5,6,7,46]) nw h (by kernel_rfl) an fun a w h => ?_
    refine wp_if h (b:=(decide ((v63:Int) < (List.length r2.1.2.1:Int)))) (by kernel_rfl) (fun hb => ?_) (fun hb => ?_)
    ·replace hF:=of_t hb hF
     refine wp_skip ?_
     refine wp_mid (fun a w => ∃ v:(List Int),f4.j68 k v63 ((f4.l39 k r2 r3) m39) v=some r∧Rel w0 (fun _ => False) Zi Try.f4.ntmps ((fun (v67:(List Int)) => ([(3,.val sh17 (some r2.1)),(4,.val (.int .i64) r2.2),(5,.val (.sl true 2 (.int .i64)) r3),(6,.val (.sl true 2 (.int .i64)) v67),(7,.val (.int .i64) v63)]:SS)) v) a w) ?_ ?_
     ·
      refine wp_block ?_
      obtain ⟨hc71,hF⟩:=of_if hF
      refine wp_reg_seq tok (orc:=o0) (l:=[3,4,5,6,7,51]) nw h (by kernel_rfl) (ac hc71 an) fun a w h => ?_
      refine wp_if h (b:=(((Int.tmod v63 (2:Int)):Int) == iO)) (by kernel_rfl) (fun hb => ?_) (fun hb => ?_)
      ·replace hF:=of_t hb hF
       obtain ⟨hc69,hF⟩:=of_if hF
       obtain ⟨hc70,hF⟩:=of_if hF
       refine wp_reg tok (orc:=o0) (l:=[3,4,5,6,7]) nw h (by kernel_rfl) (ac hc69 (ac hc70 an)) fun a w h => ?_
       exact ⟨(v62 ++ [(gD r2.1.2.1 (tZ v63) zR).2.2.1]),hF,h.arrive (l:=[3,4,5,6,7]) nw (by kernel_rfl)⟩
      ·replace hF:=of_f hb hF
       refine wp_skip ?_
       exact ⟨v62,hF,h.arrive (l:=[3,4,5,6,7]) nw (by kernel_rfl)⟩
     ·rintro a w ⟨v67,hF,h⟩
      rw [f4.j68] at hF
      refine wp_reg tok (orc:=o0) (l:=[3,4,5,6,7]) nw h (by kernel_rfl) an fun a w h => ?_
      exact ⟨(v67,(w64 (v63 + (1:Int)))),hF,h.arrive (l:=[3,4,5,6,7]) nw (by kernel_rfl)⟩
    ·replace hF:=of_f hb hF
     refine wp_exit ?_
     refine wp_seq ?_
     refine wp_reg_seq tok (orc:=o0) (l:=[3,4,5,6,69]) nw h (by kernel_rfl) an fun a w h => ?_
     refine wp_if h (b:=(bif (decide (((List.length v62:Int):Int) > (1000:Int))) then true else (decide (((List.length r2.1.2.1:Int):Int) > (500:Int))))) (by kernel_rfl) (fun hb => ?_) (fun hb => ?_)
     ·replace hF:=of_t hb hF
      refine wp_reg_seq tok (orc:=o0) (l:=[2]) nw h (by kernel_rfl) an fun a w h => ?_
      cases hF
      exact wp_ret (ret_okR tok h rfl (by kernel_rfl)).1
     ·replace hF:=of_f hb hF
      refine wp_skip ?_
      obtain ⟨r72,hr257,hF⟩:=of_bind hF
      obtain ⟨r73,hr258,hF⟩:=of_bind hF
      refine wp_reg_seq tok (orc:=orcL [(72,[⟨sh20,r72⟩]),(74,[⟨(.sl true 2 (.int .i64)),r73⟩])]) (l:=[3,4,5,6,8]) nw h (by kernel_rfl) (ac (c17 k r2.1 v62 (150:Int) r72 hr257) (ac (c16 k r72 r2.2 r73 hr258) an)) fun a w h => ?_
      refine wp_seq ?_
      obtain ⟨r74,hr255,hF⟩:=of_bind hF
      obtain ⟨r75,hr256,hF⟩:=of_bind hF
      refine wp_regy_seq tok (orc:=orcL [(77,[⟨sh20,r74⟩]),(79,[⟨.bool,r75⟩])]) (l:=[3,4,5,8,80]) ([],[],[],[]) 6 nw h (by kernel_rfl) (by kernel_rfl) (ac (c17 k r2.1 v62 (100:Int) r74 hr255) (ac (c18 k r74 r2.1 r75 hr256) an)) fun a w h => ?_
      refine wp_if h (b:=(!r75)) (by kernel_rfl) (fun hb => ?_) (fun hb => ?_)
      ·replace hF:=of_t hb hF
       refine wp_reg_seq tok (orc:=o0) (l:=[2]) nw h (by kernel_rfl) an fun a w h => ?_
       cases hF
       exact wp_ret (ret_okR tok h rfl (by kernel_rfl)).1
      ·replace hF:=of_f hb hF
       refine wp_skip ?_
       refine wp_seq ?_
       refine wp_reg_seq tok (orc:=o0) (l:=[3,4,5,8,9]) nw h (by kernel_rfl) an fun a w h => ?_
       refine wp_block ?_
       refine wp_loop_fuel (f4.l165 k r2 r3 r73) (fun (v225:Int) => [(3,.val sh17 (some r2.1)),(4,.val (.int .i64) r2.2),(5,.val (.sl true 2 (.int .i64)) r3),(8,.val (.sl true 2 (.int .i64)) r73),(9,.val (.int .i64) v225)]) (fun v h => by rw [f4.l165] at h; cases h) ?_ hF (h.arrive (l:=[3,4,5,8,9]) nw (by kernel_rfl))
       intro m165 v225 a w hF h
       rw [f4.l165] at hF
       refine wp_seq ?_
       refine wp_reg_seq tok (orc:=o0) (l:=[3,4,5,8,9,85]) nw h (by kernel_rfl) an fun a w h => ?_
       refine wp_if h (b:=(decide ((v225:Int) < (List.length r2.1.1:Int)))) (by kernel_rfl) (fun hb => ?_) (fun hb => ?_)
       ·replace hF:=of_t hb hF
        refine wp_skip ?_
        refine wp_seq <| wp_block ?_
        obtain ⟨r240,hr253,hF⟩:=of_bind hF
        refine wp_reg_seq tok (orc:=orcL [(91,[⟨sh43,r240⟩])]) (l:=[3,4,5,8,9,10]) nw h (by kernel_rfl) (ac (c10 k r2.1 r2.2 v225 r240 hr253) an) fun a w h => ?_
        refine wp_seq ?_
        obtain ⟨hc247,hF⟩:=of_if hF
        obtain ⟨hc248,hF⟩:=of_if hF
        obtain ⟨hc249,hF⟩:=of_if hF
        obtain ⟨hc250,hF⟩:=of_if hF
        obtain ⟨hc251,hF⟩:=of_if hF
        obtain ⟨hc252,hF⟩:=of_if hF
        refine wp_regy_seq tok (orc:=o0) (l:=[3,4,5,8,9,10,136]) ([],[],[],[]) 45 nw h (by kernel_rfl) (by kernel_rfl) (ac hc247 (ac hc248 (ac hc249 (ac hc250 (ac hc251 (ac hc252 an)))))) fun a w h => ?_
        obtain ⟨v241,hv246,hF⟩:=of_bind hF
        replace h:=h.cast (S':=[(3,.val sh17 (some r2.1)),(4,.val (.int .i64) r2.2),(5,.val (.sl true 2 (.int .i64)) r3),(8,.val (.sl true 2 (.int .i64)) r73),(9,.val (.int .i64) v225),(10,.val sh41 (some r240)),(136,.val .bool v241)]) (by cases hv246; kernel_rfl)
        refine wp_if h (b:=v241) (by kernel_rfl) (fun hb => ?_) (fun hb => ?_)
        ·replace hF:=of_t hb hF
         refine wp_reg_seq tok (orc:=o0) (l:=[2]) nw h (by kernel_rfl) an fun a w h => ?_
         cases hF
         exact wp_ret (ret_okR tok h rfl (by kernel_rfl)).1
        ·replace hF:=of_f hb hF
         refine wp_skip ?_
         obtain ⟨r242,hr243,hF⟩:=of_bind hF
         obtain ⟨hc244,hF⟩:=of_if hF
         obtain ⟨hc245,hF⟩:=of_if hF
         refine wp_regy_seq tok (orc:=orcL [(148,[⟨(.sl false 2 (.int .i64)),r242⟩])]) (l:=[3,4,5,8,9,158]) ([],[],[],[]) 22 nw h (by kernel_rfl) (by kernel_rfl) (ac (fun (hg:((bif r240.1 then (decide (((List.length r240.2.1:Int):Int) > iO)) else false)=true)) => PCall.frozen (outs':=[⟨(.sl false 2 (.int .i64)),r242⟩]) (c19 k r2.1 v225 r242 (of_g hg hr243)) (by kernel_rfl)) (ac hc244 (ac hc245 an))) fun a w h => ?_
         refine wp_if h (b:=(bif (bif r240.1 then (decide (((List.length r240.2.1:Int):Int) > iO)) else false) then (((gD r242 (tZ (gD r240.2.1 (tZ iO) iO)) iO):Int) != r240.2.2.1) else false)) (by kernel_rfl) (fun hb => ?_) (fun hb => ?_)
         ·replace hF:=of_t hb hF
          refine wp_reg_seq tok (orc:=o0) (l:=[2]) nw h (by kernel_rfl) an fun a w h => ?_
          cases hF
          exact wp_ret (ret_okR tok h rfl (by kernel_rfl)).1
         ·replace hF:=of_f hb hF
          refine wp_skip ?_
          refine wp_reg tok (orc:=o0) (l:=[3,4,5,8,9]) nw h (by kernel_rfl) an fun a w h => ?_
          exact ⟨(w64 (v225 + (1:Int))),hF,h.arrive (l:=[3,4,5,8,9]) nw (by kernel_rfl)⟩
       ·replace hF:=of_f hb hF
        refine wp_exit ?_
        obtain ⟨hc254,hF⟩:=of_if hF
        refine wp_reg_seq tok (orc:=o0) (l:=[2]) nw h (by kernel_rfl) (ac hc254 an) fun a w h => ?_
        cases hF
        exact wp_ret (ret_okR tok h rfl (by kernel_rfl)).1
end Go.Proofs.Ytdjadmdiehkfdaa.V
