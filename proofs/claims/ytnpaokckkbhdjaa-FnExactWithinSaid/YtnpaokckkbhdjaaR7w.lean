/-
  THE CONTRACTS OF SOME FUNCTIONS OF THIS SEAT, PRINTED BY A PROGRAM OF THIS PROJECT (wip/gen/vgen.py).
-/
import Derived.Test.YtnpaokckkbhdjaaProg
import Derived.Test.YtnpaokckkbhdjaaVmW
import Derived.Test.YtnpaokckkbhdjaaVmSr
import Derived.KernelRfl
import Derived.Test.YtnpaokckkbhdjaaSoQ
import Derived.Test.YtnpaokckkbhdjaaR7wA
set_option linter.unusedVariables false
open Go Go.Vm Go.Proofs
namespace Go.Proofs.Ytnpaokckkbhdjaa.V
set_option maxRecDepth 100000
def f94 (k:Nat) (x0:(((List (Int × (Int × Int))) × ((List (Int × (Int × (Int × (Int × (Int × ByteArray)))))) × (List (Int × Int)))) × ((List (List Int)) × ((List (List Int)) × (Option (List ((Int × Int) × Bool))))))) (x1:Int):Option Bool:=some (bif (decide (x1 ≥ (0:Int))) then (decide (x1 < (List.length x0.1.1:Int))) else false)
theorem c94 (k:Nat) (x0:tN) (x1:Int) (r:Bool) (hF:f94 k x0 x1=some r):PCall Try.prog 94 [⟨sh20,some x0⟩,⟨iS,x1⟩] [⟨.bool,r⟩]:=by
 refine pcall_intro Try.func94 rfl rfl (Nat.le_of_ble_eq_true rfl) ?_
 intro w0 Zi a w h
 rw [f94] at hF
 refine zs [0,1] h an fun a w h => ?_
 refine zs [4] h an fun a w h => ?_
 cases hF
 exact wp_ret (ret_okR tok h rfl (by kernel_rfl)).1
def f218 (k:Nat) (x0:(Int × (Int × Int))) (x1:(Int × (Int × Int))):Option Bool:=if (x0.1 != x1.1) then (some (decide (x0.1 < x1.1))) else (if (x0.2.1 != x1.2.1) then (some (decide (x0.2.1 < x1.2.1))) else (some (decide (x0.2.2 < x1.2.2))))
theorem c218 (k:Nat) (x0:(Int × (Int × Int))) (x1:(Int × (Int × Int))) (r:Bool) (hF:f218 k x0 x1=some r):PCall Try.prog 218 [⟨sh21,x0⟩,⟨sh21,x1⟩] [⟨.bool,r⟩]:=by
 refine pcall_intro Try.func218 rfl rfl (Nat.le_of_ble_eq_true rfl) ?_
 intro w0 Zi a w h
 rw [f218] at hF
 refine zs [2,3] h an fun a w h => ?_
 refine wp_seq ?_
 refine zs [2,3,9] h an fun a w h => ?_
 refine zi h hF (fun hF => ?_) (fun hF => ?_)
 ·refine zs [4] h an fun a w h => ?_
  cases hF
  exact wp_ret (ret_okR tok h rfl (by kernel_rfl)).1
 ·refine wp_skip ?_
  refine wp_seq ?_
  refine zs [2,3,19] h an fun a w h => ?_
  refine zi h hF (fun hF => ?_) (fun hF => ?_)
  ·refine zs [4] h an fun a w h => ?_
   cases hF
   exact wp_ret (ret_okR tok h rfl (by kernel_rfl)).1
  ·refine wp_skip ?_
   refine zs [4] h an fun a w h => ?_
   cases hF
   exact wp_ret (ret_okR tok h rfl (by kernel_rfl)).1
def f197.l1 (k:Nat) (x0:((List (Int × (Int × Int))) × Unit)):Nat → ((List (Int × (Int × Int))) × Int)→Option ((List (Int × (Int × Int))) × Unit)
 | 0,_ => none
 | m1+1,(v34,v35) => if (((decide (v35 > (0:Int)))=true) → (0≤v35∧v35 < (List.length v34:Int))) then (if (((decide (v35 > (0:Int)))=true) → (((2:Int):Int)≠0)) then (if (((decide (v35 > (0:Int)))=true) → (0 ≤ (IntKind.i64.wrap (Int.tdiv (IntKind.i64.wrap (v35 - (1:Int))) (2:Int))) ∧ (IntKind.i64.wrap (Int.tdiv (IntKind.i64.wrap (v35 - (1:Int))) (2:Int))) < (List.length v34:Int))) then ((if ((decide (v35 > (0:Int)))=true) then f218 k (List.getD v34 (Int.toNat v35) ((0:Int),((0:Int),(0:Int)))) (List.getD v34 (Int.toNat (IntKind.i64.wrap (Int.tdiv (IntKind.i64.wrap (v35 - (1:Int))) (2:Int)))) ((0:Int),((0:Int),(0:Int)))) else some default).bind fun r36 => (if (bif (decide (v35 > (0:Int))) then r36 else false) then (if (((2:Int):Int)≠0) then (if (((2:Int):Int)≠0) then (if (0 ≤ (IntKind.i64.wrap (Int.tdiv (IntKind.i64.wrap (v35 - (1:Int))) (2:Int))) ∧ (IntKind.i64.wrap (Int.tdiv (IntKind.i64.wrap (v35 - (1:Int))) (2:Int))) < (List.length v34:Int)) then (if (0≤v35∧v35 < (List.length v34:Int)) then (if (0≤v35∧v35 < (List.length v34:Int)) then (if (0 ≤ (IntKind.i64.wrap (Int.tdiv (IntKind.i64.wrap (v35 - (1:Int))) (2:Int))) ∧ (IntKind.i64.wrap (Int.tdiv (IntKind.i64.wrap (v35 - (1:Int))) (2:Int))) < (List.length (List.set v34 (Int.toNat v35) (List.getD v34 (Int.toNat (IntKind.i64.wrap (Int.tdiv (IntKind.i64.wrap (v35 - (1:Int))) (2:Int)))) ((0:Int),((0:Int),(0:Int))))):Int)) then (if (((2:Int):Int)≠0) then ((f197.l1 k x0) m1 ((List.set (List.set v34 (Int.toNat v35) (List.getD v34 (Int.toNat (IntKind.i64.wrap (Int.tdiv (IntKind.i64.wrap (v35 - (1:Int))) (2:Int)))) ((0:Int),((0:Int),(0:Int))))) (Int.toNat (IntKind.i64.wrap (Int.tdiv (IntKind.i64.wrap (v35 - (1:Int))) (2:Int)))) (List.getD v34 (Int.toNat v35) ((0:Int),((0:Int),(0:Int))))),(IntKind.i64.wrap (Int.tdiv (IntKind.i64.wrap (v35 - (1:Int))) (2:Int))))) else none) else none) else none) else none) else none) else none) else none) else (some (v34,x0.2)))) else none) else none) else none
def f197 (k:Nat) (x0:((List (Int × (Int × Int))) × Unit)) (x1:(Int × (Int × Int))):Option ((List (Int × (Int × Int))) × Unit):=if ((List.length x0.1+List.length [x1])*24≤140737488355328) then (f197.l1 k x0 k ((List.append x0.1 [x1]),(IntKind.i64.wrap ((List.length (List.append x0.1 [x1]):Int) - (1:Int))))) else none
theorem c197 (k:Nat) (x0:((List (Int × (Int × Int))) × Unit)) (x1:(Int × (Int × Int))) (r:((List (Int × (Int × Int))) × Unit)) (hF:f197 k x0 x1=some r):PMut Try.prog 197 [⟨sh22,some x0⟩,⟨sh21,x1⟩] [] (List.set [⟨sh22,some x0⟩,⟨sh21,x1⟩] 0 ⟨sh22,some r⟩):=by
 refine pmut_intro (j:=0) (fin:=⟨sh22,some r⟩) Try.func197 rfl rfl (Nat.le_of_ble_eq_true rfl) (Nat.le_of_ble_eq_true rfl) (by kernel_rfl) ?_
 intro w0 Zi f0 v0 a w h
 rw [f197] at hF
 refine wp_reg_seq tok (orc:=o0) (fz:=[]) (l:=[0,3]) (.inl rfl) h (by kernel_rfl) an fun a w h => ?_
 obtain ⟨hc48,hF⟩:=of_if hF
 refine wp_regy_seq tok (orc:=orcL [(12,[⟨.pt false 4294967293 .unit,some ()⟩])]) (fz:=[]) (l:=[0]) ([],[],[],[]) 10 (.inl rfl) h (by kernel_rfl) (by kernel_rfl) (ac (PrefL.mk (l:=[[],[],[],[.der,.fst],[.der,.fst]]) (p:=[.der,.fst]) rfl) (ac hc48 (ac (show ([.der,.fst]:Path)=[.der,.fst] from rfl) an))) fun a w h => ?_
 refine wp_reg_seq tok (orc:=o0) (fz:=[]) (l:=[0,4]) (.inl rfl) h (by kernel_rfl) an fun a w h => ?_
 refine wp_block ?_
 refine wp_loop_fuel (f197.l1 k x0) (fun ((v34,v35):((List (Int × (Int × Int))) × Int)) => [(0,.val sh22 (some (v34,x0.2))),(4,.val iS v35)]) (fun v h => by obtain ⟨v34,v35⟩:=v; rw [f197.l1] at h; cases h) ?_ hF (h.arrive (fz:=[]) (l:=[0,4]) (.inl rfl) (by kernel_rfl))
 intro m1 v a w hF h
 obtain ⟨v34,v35⟩:=v
 rw [f197.l1] at hF
 refine wp_seq ?_
 obtain ⟨hc44,hF⟩:=of_if hF
 obtain ⟨hc45,hF⟩:=of_if hF
 obtain ⟨hc46,hF⟩:=of_if hF
 obtain ⟨r36,hr47,hF⟩:=of_bind hF
 refine wp_regy_seq tok (orc:=orcL [(40,[⟨.bool,r36⟩])]) (fz:=[]) (l:=[0,4,41]) ([],[],[],[]) 21 (.inl rfl) h (by kernel_rfl) (by kernel_rfl) (ac hc44 (ac hc45 (ac hc46 (ac (fun (hg:((decide (v35 > iO))=true)) => c218 k (gD v34 (tZ v35) (iO,(iO,iO))) (gD v34 (tZ (w64 (Int.tdiv (w64 (v35 - (1:Int))) (2:Int)))) (iO,(iO,iO))) r36 (of_g hg hr47)) an)))) fun a w h => ?_
 refine zi h hF (fun hF => ?_) (fun hF => ?_)
 ·refine wp_skip ?_
  refine wp_block ?_
  obtain ⟨hc38,hF⟩:=of_if hF
  obtain ⟨hc39,hF⟩:=of_if hF
  obtain ⟨hc40,hF⟩:=of_if hF
  obtain ⟨hc41,hF⟩:=of_if hF
  obtain ⟨hc42,hF⟩:=of_if hF
  obtain ⟨hc43,hF⟩:=of_if hF
  refine wp_regy_seq tok (orc:=orcL [(70,[⟨.pt false 4294967289 .unit,some ()⟩])]) (fz:=[]) (l:=[0,4]) ([(29,0)],[],[(29,[42,43,45,47,48,50,54,55,57,63,64,66])],[(9,[4]),(10,[51]),(11,[52])]) 30 (.inl rfl) h (by kernel_rfl) (by kernel_rfl) (ac hc38 (ac hc39 (ac hc40 (ac hc41 (ac hc42 (ac hc43 an)))))) fun a w h => ?_
  obtain ⟨hc37,hF⟩:=of_if hF
  refine wp_reg tok (orc:=o0) (fz:=[]) (l:=[0,4]) (.inl rfl) h (by kernel_rfl) (ac hc37 an) fun a w h => ?_
  exact ⟨((List.set (List.set v34 (tZ v35) (gD v34 (tZ (w64 (Int.tdiv (w64 (v35 - (1:Int))) (2:Int)))) (iO,(iO,iO)))) (tZ (w64 (Int.tdiv (w64 (v35 - (1:Int))) (2:Int)))) (gD v34 (tZ v35) (iO,(iO,iO)))),(w64 (Int.tdiv (w64 (v35 - (1:Int))) (2:Int)))),hF,h.arrive (fz:=[]) (l:=[0,4]) (.inl rfl) (by kernel_rfl)⟩
 ·refine wp_exit ?_
  cases hF
  exact (retM_ok tok h rfl (by kernel_rfl) (by kernel_rfl)).2
def f198.j55 (k:Nat) (x0:((List (Int × (Int × Int))) × Unit)):(List (Int × (Int × Int)))→Option ((Int × (Int × Int)) × ((List (Int × (Int × Int))) × Unit))
 | v54 => some ((List.getD x0.1 (Int.toNat (0:Int)) ((0:Int),((0:Int),(0:Int)))),(v54,x0.2))
def f198.j97 (k:Nat) (v93:(List (Int × (Int × Int)))) (v94:Int) (q55:(List (Int × (Int × Int)))→Option ((Int × (Int × Int)) × ((List (Int × (Int × Int))) × Unit))) (q56:((List (Int × (Int × Int))) × Int)→Option ((Int × (Int × Int)) × ((List (Int × (Int × Int))) × Unit))):Int→Option ((Int × (Int × Int)) × ((List (Int × (Int × Int))) × Unit))
 | v96 => if (0≤v96∧v96 < (List.length v93:Int)) then (if (0≤v94∧v94 < (List.length v93:Int)) then ((f218 k (List.getD v93 (Int.toNat v96) ((0:Int),((0:Int),(0:Int)))) (List.getD v93 (Int.toNat v94) ((0:Int),((0:Int),(0:Int))))).bind fun r98 => (if (!r98) then (q55 v93) else (if (0≤v96∧v96 < (List.length v93:Int)) then (if (0≤v94∧v94 < (List.length v93:Int)) then (if (0≤v94∧v94 < (List.length v93:Int)) then (if (0≤v96∧v96 < (List.length (List.set v93 (Int.toNat v94) (List.getD v93 (Int.toNat v96) ((0:Int),((0:Int),(0:Int))))):Int)) then (q56 ((List.set (List.set v93 (Int.toNat v94) (List.getD v93 (Int.toNat v96) ((0:Int),((0:Int),(0:Int))))) (Int.toNat v96) (List.getD v93 (Int.toNat v94) ((0:Int),((0:Int),(0:Int))))),v96)) else none) else none) else none) else none))) else none) else none
def f198.l56 (k:Nat) (x0:((List (Int × (Int × Int))) × Unit)) (q55:(List (Int × (Int × Int)))→Option ((Int × (Int × Int)) × ((List (Int × (Int × Int))) × Unit))):Nat → ((List (Int × (Int × Int))) × Int)→Option ((Int × (Int × Int)) × ((List (Int × (Int × Int))) × Unit))
 | 0,_ => none
 | m56+1,(v93,v94) => if (decide (((IntKind.i64.wrap ((IntKind.i64.wrap ((2:Int)*v94)) + (1:Int))):Int) ≥ (IntKind.i64.wrap ((List.length x0.1:Int) - (1:Int))))) then (q55 v93) else (if (((decide (((IntKind.i64.wrap ((IntKind.i64.wrap ((IntKind.i64.wrap ((2:Int)*v94)) + (1:Int))) + (1:Int))):Int) < (IntKind.i64.wrap ((List.length x0.1:Int) - (1:Int)))))=true) → (0 ≤ (IntKind.i64.wrap ((IntKind.i64.wrap ((IntKind.i64.wrap ((2:Int)*v94)) + (1:Int))) + (1:Int))) ∧ (IntKind.i64.wrap ((IntKind.i64.wrap ((IntKind.i64.wrap ((2:Int)*v94)) + (1:Int))) + (1:Int))) < (List.length v93:Int))) then (if (((decide (((IntKind.i64.wrap ((IntKind.i64.wrap ((IntKind.i64.wrap ((2:Int)*v94)) + (1:Int))) + (1:Int))):Int) < (IntKind.i64.wrap ((List.length x0.1:Int) - (1:Int)))))=true) → (0 ≤ (IntKind.i64.wrap ((IntKind.i64.wrap ((2:Int)*v94)) + (1:Int))) ∧ (IntKind.i64.wrap ((IntKind.i64.wrap ((2:Int)*v94)) + (1:Int))) < (List.length v93:Int))) then ((if ((decide (((IntKind.i64.wrap ((IntKind.i64.wrap ((IntKind.i64.wrap ((2:Int)*v94)) + (1:Int))) + (1:Int))):Int) < (IntKind.i64.wrap ((List.length x0.1:Int) - (1:Int)))))=true) then f218 k (List.getD v93 (Int.toNat (IntKind.i64.wrap ((IntKind.i64.wrap ((IntKind.i64.wrap ((2:Int)*v94)) + (1:Int))) + (1:Int)))) ((0:Int),((0:Int),(0:Int)))) (List.getD v93 (Int.toNat (IntKind.i64.wrap ((IntKind.i64.wrap ((2:Int)*v94)) + (1:Int)))) ((0:Int),((0:Int),(0:Int)))) else some default).bind fun r95 => (if (bif (decide (((IntKind.i64.wrap ((IntKind.i64.wrap ((IntKind.i64.wrap ((2:Int)*v94)) + (1:Int))) + (1:Int))):Int) < (IntKind.i64.wrap ((List.length x0.1:Int) - (1:Int))))) then r95 else false) then (f198.j97 k v93 v94 (q55) ((f198.l56 k x0 q55) m56) (IntKind.i64.wrap ((IntKind.i64.wrap ((IntKind.i64.wrap ((2:Int)*v94)) + (1:Int))) + (1:Int)))) else (f198.j97 k v93 v94 (q55) ((f198.l56 k x0 q55) m56) (IntKind.i64.wrap ((IntKind.i64.wrap ((2:Int)*v94)) + (1:Int)))))) else none) else none)
def f198 (k:Nat) (x0:((List (Int × (Int × Int))) × Unit)):Option ((Int × (Int × Int)) × ((List (Int × (Int × Int))) × Unit)):=if (0 ≤ (0:Int) ∧ (0:Int) < (List.length x0.1:Int)) then (if (0 ≤ (IntKind.i64.wrap ((List.length x0.1:Int) - (1:Int))) ∧ (IntKind.i64.wrap ((List.length x0.1:Int) - (1:Int))) < (List.length x0.1:Int)) then (if (0 ≤ (0:Int) ∧ (0:Int) < (List.length x0.1:Int)) then (if ((0:Int) ≤ (IntKind.i64.wrap ((List.length x0.1:Int) - (1:Int))) ∧ ((IntKind.i64.wrap ((List.length x0.1:Int) - (1:Int))):Int) ≤ (List.length (List.set x0.1 (Int.toNat (0:Int)) (List.getD x0.1 (Int.toNat (IntKind.i64.wrap ((List.length x0.1:Int) - (1:Int)))) ((0:Int),((0:Int),(0:Int))))):Int)) then (f198.l56 k x0 (f198.j55 k x0) k ((List.take (Int.toNat (IntKind.i64.wrap ((List.length x0.1:Int) - (1:Int)))) (List.set x0.1 (Int.toNat (0:Int)) (List.getD x0.1 (Int.toNat (IntKind.i64.wrap ((List.length x0.1:Int) - (1:Int)))) ((0:Int),((0:Int),(0:Int)))))),(0:Int))) else none) else none) else none) else none
theorem c198 (k:Nat) (x0:((List (Int × (Int × Int))) × Unit)) (r:((Int × (Int × Int)) × ((List (Int × (Int × Int))) × Unit))) (hF:f198 k x0=some r):PMut Try.prog 198 [⟨sh22,some x0⟩] [⟨sh21,r.1⟩] (List.set [⟨sh22,some x0⟩] 0 ⟨sh22,some r.2⟩):=by
 refine pmut_intro (j:=0) (fin:=⟨sh22,some r.2⟩) Try.func198 rfl rfl (Nat.le_of_ble_eq_true rfl) (Nat.le_of_ble_eq_true rfl) (by kernel_rfl) ?_
 intro w0 Zi f0 v0 a w h
 rw [f198] at hF
 refine wp_reg_seq tok (orc:=o0) (fz:=[]) (l:=[0,2]) (.inl rfl) h (by kernel_rfl) an fun a w h => ?_
 obtain ⟨hc112,hF⟩:=of_if hF
 refine wp_reg_seq tok (orc:=o0) (fz:=[]) (l:=[0,2,3]) (.inl rfl) h (by kernel_rfl) (ac hc112 an) fun a w h => ?_
 refine wp_reg_seq tok (orc:=o0) (fz:=[]) (l:=[0,2,3,4]) (.inl rfl) h (by kernel_rfl) an fun a w h => ?_
 obtain ⟨hc110,hF⟩:=of_if hF
 obtain ⟨hc111,hF⟩:=of_if hF
 refine wp_regy_seq tok (orc:=o0) (fz:=[]) (l:=[0,2,3,4]) ([],[],[],[]) 12 (.inl rfl) h (by kernel_rfl) (by kernel_rfl) (ac hc110 (ac hc111 an)) fun a w h => ?_
 obtain ⟨hc109,hF⟩:=of_if hF
 refine wp_reg_seq tok (orc:=orcL [(37,[⟨.pt false 4294967293 .unit,some ()⟩])]) (fz:=[]) (l:=[0,2,3,4]) (.inl rfl) h (by kernel_rfl) (ac hc109 (ac (show ([.der,.fst]:Path)=[.der,.fst] from rfl) an)) fun a w h => ?_
 refine wp_reg_seq tok (orc:=o0) (fz:=[]) (l:=[0,2,3,4,5]) (.inl rfl) h (by kernel_rfl) an fun a w h => ?_
 refine wp_mid (fun a w => ∃ v:(List (Int × (Int × Int))),f198.j55 k x0 v=some r∧Rel w0 f0 Zi ⟨Try.f198.ntmps,[0],fun _ => v0⟩ ((fun (v54:(List (Int × (Int × Int)))) => ([(0,.val sh22 (some (v54,x0.2))),(2,.val sh23 (some (iO,(iO,iO)))),(3,.val sh23 (some (gD x0.1 (tZ iO) (iO,(iO,iO)))))]:SS)) v) a w) ?_ ?_
 ·
  refine wp_block ?_
  refine wp_loop_fuel (f198.l56 k x0 (f198.j55 k x0)) (fun ((v93,v94):((List (Int × (Int × Int))) × Int)) => [(0,.val sh22 (some (v93,x0.2))),(2,.val sh23 (some (iO,(iO,iO)))),(3,.val sh23 (some (gD x0.1 (tZ iO) (iO,(iO,iO))))),(4,.val iS (w64 ((List.length x0.1:Int) - (1:Int)))),(5,.val iS v94)]) (fun v h => by obtain ⟨v93,v94⟩:=v; rw [f198.l56] at h; cases h) ?_ hF (h.arrive (fz:=[]) (l:=[0,2,3,4,5]) (.inl rfl) (by kernel_rfl))
  intro m56 v a w hF h
  obtain ⟨v93,v94⟩:=v
  rw [f198.l56] at hF
  refine wp_block ?_
  refine wp_reg_seq tok (orc:=o0) (fz:=[]) (l:=[0,2,3,4,5,6]) (.inl rfl) h (by kernel_rfl) an fun a w h => ?_
  refine wp_seq ?_
  refine wp_reg_seq tok (orc:=o0) (fz:=[]) (l:=[0,2,3,4,5,6,45]) (.inl rfl) h (by kernel_rfl) an fun a w h => ?_
  refine zi h hF (fun hF => ?_) (fun hF => ?_)
  ·refine wp_exit ?_
   exact ⟨v93,hF,h.arrive (fz:=[]) (l:=[0,2,3]) (.inl rfl) (by kernel_rfl)⟩
  ·refine wp_skip ?_
   refine wp_seq ?_
   obtain ⟨hc106,hF⟩:=of_if hF
   obtain ⟨hc107,hF⟩:=of_if hF
   obtain ⟨r95,hr108,hF⟩:=of_bind hF
   refine wp_regy_seq tok (orc:=orcL [(66,[⟨.bool,r95⟩])]) (fz:=[]) (l:=[0,2,3,4,5,6,67]) ([],[],[],[]) 22 (.inl rfl) h (by kernel_rfl) (by kernel_rfl) (ac hc106 (ac hc107 (ac (fun (hg:((decide (((w64 ((w64 ((w64 ((2:Int)*v94)) + (1:Int))) + (1:Int))):Int) < (w64 ((List.length x0.1:Int) - (1:Int)))))=true)) => c218 k (gD v93 (tZ (w64 ((w64 ((w64 ((2:Int)*v94)) + (1:Int))) + (1:Int)))) (iO,(iO,iO))) (gD v93 (tZ (w64 ((w64 ((2:Int)*v94)) + (1:Int)))) (iO,(iO,iO))) r95 (of_g hg hr108)) an))) fun a w h => ?_
   refine wp_midT (fun a w => ∃ v:Int,f198.j97 k v93 v94 (f198.j55 k x0) ((f198.l56 k x0 (f198.j55 k x0)) m56) v=some r∧Rel w0 f0 Zi ⟨Try.f198.ntmps,[0],fun _ => v0⟩ ((fun v96 => ([(0,.val sh22 (some (v93,x0.2))),(2,.val sh23 (some (iO,(iO,iO)))),(3,.val sh23 (some (gD x0.1 (tZ iO) (iO,(iO,iO))))),(4,.val iS (w64 ((List.length x0.1:Int) - (1:Int)))),(5,.val iS v94),(6,.val iS v96)]:SS)) v) a w) ?_ ?_
   ·
    refine zi h hF (fun hF => ?_) (fun hF => ?_)
    ·refine wp_reg tok (orc:=o0) (fz:=[]) (l:=[0,2,3,4,5,6]) (.inl rfl) h (by kernel_rfl) an fun a w h => ?_
     exact ⟨(w64 ((w64 ((w64 ((2:Int)*v94)) + (1:Int))) + (1:Int))),hF,h.arrive (fz:=[]) (l:=[0,2,3,4,5,6]) (.inl rfl) (by kernel_rfl)⟩
    ·refine wp_skip ?_
     exact ⟨(w64 ((w64 ((2:Int)*v94)) + (1:Int))),hF,h.arrive (fz:=[]) (l:=[0,2,3,4,5,6]) (.inl rfl) (by kernel_rfl)⟩
   ·rintro a w ⟨v96,hF,h⟩
    rw [f198.j97] at hF
    refine wp_seq ?_
    obtain ⟨hc103,hF⟩:=of_if hF
    obtain ⟨hc104,hF⟩:=of_if hF
    obtain ⟨r98,hr105,hF⟩:=of_bind hF
    refine wp_regy_seq tok (orc:=orcL [(84,[⟨.bool,r98⟩])]) (fz:=[]) (l:=[0,2,3,4,5,6,85]) ([],[],[],[]) 16 (.inl rfl) h (by kernel_rfl) (by kernel_rfl) (ac hc103 (ac hc104 (ac (c218 k (gD v93 (tZ v96) (iO,(iO,iO))) (gD v93 (tZ v94) (iO,(iO,iO))) r98 hr105) an))) fun a w h => ?_
    refine zi h hF (fun hF => ?_) (fun hF => ?_)
    ·refine wp_exit ?_
     exact ⟨v93,hF,h.arrive (fz:=[]) (l:=[0,2,3]) (.inl rfl) (by kernel_rfl)⟩
    ·refine wp_skip ?_
     obtain ⟨hc99,hF⟩:=of_if hF
     obtain ⟨hc100,hF⟩:=of_if hF
     obtain ⟨hc101,hF⟩:=of_if hF
     obtain ⟨hc102,hF⟩:=of_if hF
     refine wp_regy_seq tok (orc:=orcL [(110,[⟨.pt false 4294967289 .unit,some ()⟩])]) (fz:=[]) (l:=[0,2,3,4,6]) ([(25,0)],[],[(25,[86,87,89,91,92,94,96,97,99,103,104,106])],[(9,[6])]) 26 (.inl rfl) h (by kernel_rfl) (by kernel_rfl) (ac hc99 (ac hc100 (ac hc101 (ac hc102 an)))) fun a w h => ?_
     refine wp_reg tok (orc:=o0) (fz:=[]) (l:=[0,2,3,4,5]) (.inl rfl) h (by kernel_rfl) an fun a w h => ?_
     exact ⟨((List.set (List.set v93 (tZ v94) (gD v93 (tZ v96) (iO,(iO,iO)))) (tZ v96) (gD v93 (tZ v94) (iO,(iO,iO)))),v96),hF,h.arrive (fz:=[]) (l:=[0,2,3,4,5]) (.inl rfl) (by kernel_rfl)⟩
 ·rintro a w ⟨v54,hF,h⟩
  rw [f198.j55] at hF
  refine wp_reg_seq tok (orc:=o0) (fz:=[]) (l:=[0,2]) (.inl rfl) h (by kernel_rfl) an fun a w h => ?_
  cases hF
  exact wp_ret (retM_ok tok h rfl (by kernel_rfl) (by kernel_rfl)).1
def f227 (k:Nat) (x0:Int):Option Int:=if (decide (x0 < (0:Int))) then (some (IntKind.i64.wrap (0 - x0))) else (some x0)
theorem c227 (k:Nat) (x0:Int) (r:Int) (hF:f227 k x0=some r):PCall Try.prog 227 [⟨iS,x0⟩] [⟨iS,r⟩]:=by
 refine pcall_intro Try.func227 rfl rfl (Nat.le_of_ble_eq_true rfl) ?_
 intro w0 Zi a w h
 rw [f227] at hF
 refine zs [0] h an fun a w h => ?_
 refine wp_seq ?_
 refine zs [0,4] h an fun a w h => ?_
 refine zi h hF (fun hF => ?_) (fun hF => ?_)
 ·refine zs [2] h an fun a w h => ?_
  cases hF
  exact wp_ret (ret_okR tok h rfl (by kernel_rfl)).1
 ·refine wp_skip ?_
  refine zs [2] h an fun a w h => ?_
  cases hF
  exact wp_ret (ret_okR tok h rfl (by kernel_rfl)).1
def f225 (k:Nat) (x0:(Int × Int)) (x1:(Int × Int)):Option Int:=(if ((Sh.beq sh5 x0 x1)=false) then f147 k x0 else some default).bind fun r1 => ((if ((bif (Sh.beq sh5 x0 x1) then true else (!r1))=false) then f147 k x1 else some default).bind fun r2 => (if (bif (bif (Sh.beq sh5 x0 x1) then true else (!r1)) then true else (!r2)) then (some (-1:Int)) else ((f227 k (IntKind.i64.wrap (x1.1 - x0.1))).bind fun r3 => ((f227 k (IntKind.i64.wrap (x1.2 - x0.2))).bind fun r4 => ((f227 k (IntKind.i64.wrap (x1.1 - x0.1))).bind fun r5 => ((f227 k (IntKind.i64.wrap (x1.2 - x0.2))).bind fun r6 => (if (decide (((IntKind.i64.wrap ((5:Int) * (if r6 < r5 then r6 else r5))):Int) < (IntKind.i64.wrap ((2:Int) * (if r4 > r3 then r4 else r3))))) then ((f227 k (IntKind.i64.wrap (x1.1 - x0.1))).bind fun r31 => ((f227 k (IntKind.i64.wrap (x1.2 - x0.2))).bind fun r32 => (if (bif (decide (r31 > r32)) then (decide (((IntKind.i64.wrap (x1.1 - x0.1)):Int) > (0:Int))) else false) then (some (0:Int)) else ((f227 k (IntKind.i64.wrap (x1.1 - x0.1))).bind fun r33 => ((f227 k (IntKind.i64.wrap (x1.2 - x0.2))).bind fun r34 => (if (decide (r33 > r34)) then (some (4:Int)) else (if (decide (((IntKind.i64.wrap (x1.2 - x0.2)):Int) > (0:Int))) then (some (2:Int)) else (some (6:Int))))))))) else (if (bif (decide (((IntKind.i64.wrap (x1.1 - x0.1)):Int) > (0:Int))) then (decide (((IntKind.i64.wrap (x1.2 - x0.2)):Int) > (0:Int))) else false) then (some (1:Int)) else (if (bif (decide (((IntKind.i64.wrap (x1.1 - x0.1)):Int) < (0:Int))) then (decide (((IntKind.i64.wrap (x1.2 - x0.2)):Int) > (0:Int))) else false) then (some (3:Int)) else (if (bif (decide (((IntKind.i64.wrap (x1.1 - x0.1)):Int) < (0:Int))) then (decide (((IntKind.i64.wrap (x1.2 - x0.2)):Int) < (0:Int))) else false) then (some (5:Int)) else (some (7:Int))))))))))))
theorem c225 (k:Nat) (x0:(Int × Int)) (x1:(Int × Int)) (r:Int) (hF:f225 k x0 x1=some r):PCall Try.prog 225 [⟨sh5,x0⟩,⟨sh5,x1⟩] [⟨iS,r⟩]:=by
 refine pcall_intro Try.func225 rfl rfl (Nat.le_of_ble_eq_true rfl) ?_
 intro w0 Zi a w h
 rw [f225] at hF
 refine zs [2,3] h an fun a w h => ?_
 refine wp_seq ?_
 obtain ⟨r1,hr43,hF⟩:=of_bind hF
 obtain ⟨r2,hr44,hF⟩:=of_bind hF
 refine zc (orcL [(14,[⟨.bool,r1⟩]),(19,[⟨.bool,r2⟩])]) [2,3,21] h (ac (And.intro (show eqTy Try.prog 9 52 (.st (.pair iS iS))=true from by kernel_rfl) (show Try.prog.eqGuardType Try.prog.depth 52=false from by kernel_rfl)) (ac (fun (hg:((Sh.beq sh5 x0 x1)=false)) => c147 k x0 r1 (of_g hg hr43)) (ac (fun (hg:((bif (Sh.beq sh5 x0 x1) then true else (!r1))=false)) => c147 k x1 r2 (of_g hg hr44)) an))) fun a w h => ?_
 refine zi h hF (fun hF => ?_) (fun hF => ?_)
 ·refine zs [4] h an fun a w h => ?_
  cases hF
  exact wp_ret (ret_okR tok h rfl (by kernel_rfl)).1
 ·refine wp_skip ?_
  refine wp_regy_seq tok (orc:=o0) (l:=[5,6]) ([],[],[],[]) 12 nw h (by kernel_rfl) (by kernel_rfl) an fun a w h => ?_
  obtain ⟨r3,hr39,hF⟩:=of_bind hF
  obtain ⟨r4,hr40,hF⟩:=of_bind hF
  obtain ⟨r5,hr41,hF⟩:=of_bind hF
  obtain ⟨r6,hr42,hF⟩:=of_bind hF
  refine zc (orcL [(33,[⟨iS,r3⟩]),(35,[⟨iS,r4⟩]),(38,[⟨iS,r5⟩]),(40,[⟨iS,r6⟩])]) [5,6,7,8] h (ac (c227 k (w64 (x1.1 - x0.1)) r3 hr39) (ac (c227 k (w64 (x1.2 - x0.2)) r4 hr40) (ac (c227 k (w64 (x1.1 - x0.1)) r5 hr41) (ac (c227 k (w64 (x1.2 - x0.2)) r6 hr42) an)))) fun a w h => ?_
  refine wp_seq ?_
  refine zs [5,6,46] h an fun a w h => ?_
  refine zi h hF (fun hF => ?_) (fun hF => ?_)
  ·refine wp_seq <| wp_block ?_
   obtain ⟨r31,hr37,hF⟩:=of_bind hF
   obtain ⟨r32,hr38,hF⟩:=of_bind hF
   refine zc (orcL [(49,[⟨iS,r31⟩]),(51,[⟨iS,r32⟩])]) [5,6,47] h (ac (c227 k (w64 (x1.1 - x0.1)) r31 hr37) (ac (c227 k (w64 (x1.2 - x0.2)) r32 hr38) an)) fun a w h => ?_
   refine zi h hF (fun hF => ?_) (fun hF => ?_)
   ·refine zs [4] h an fun a w h => ?_
    cases hF
    exact wp_ret (ret_okR tok h rfl (by kernel_rfl)).1
   ·obtain ⟨r33,hr35,hF⟩:=of_bind hF
    obtain ⟨r34,hr36,hF⟩:=of_bind hF
    refine zc (orcL [(59,[⟨iS,r33⟩]),(61,[⟨iS,r34⟩])]) [6,57] h (ac (c227 k (w64 (x1.1 - x0.1)) r33 hr35) (ac (c227 k (w64 (x1.2 - x0.2)) r34 hr36) an)) fun a w h => ?_
    refine zi h hF (fun hF => ?_) (fun hF => ?_)
    ·refine zs [4] h an fun a w h => ?_
     cases hF
     exact wp_ret (ret_okR tok h rfl (by kernel_rfl)).1
    ·refine zs [63] h an fun a w h => ?_
     refine zi h hF (fun hF => ?_) (fun hF => ?_)
     ·refine zs [4] h an fun a w h => ?_
      cases hF
      exact wp_ret (ret_okR tok h rfl (by kernel_rfl)).1
     ·refine wp_skip ?_
      refine zs [4] h an fun a w h => ?_
      cases hF
      exact wp_ret (ret_okR tok h rfl (by kernel_rfl)).1
  ·refine wp_skip ?_
   refine wp_seq <| wp_block ?_
   refine zs [5,6,66] h an fun a w h => ?_
   refine zi h hF (fun hF => ?_) (fun hF => ?_)
   ·refine zs [4] h an fun a w h => ?_
    cases hF
    exact wp_ret (ret_okR tok h rfl (by kernel_rfl)).1
   ·refine zs [5,6,73] h an fun a w h => ?_
    refine zi h hF (fun hF => ?_) (fun hF => ?_)
    ·refine zs [4] h an fun a w h => ?_
     cases hF
     exact wp_ret (ret_okR tok h rfl (by kernel_rfl)).1
    ·refine zs [80] h an fun a w h => ?_
     refine zi h hF (fun hF => ?_) (fun hF => ?_)
     ·refine zs [4] h an fun a w h => ?_
      cases hF
      exact wp_ret (ret_okR tok h rfl (by kernel_rfl)).1
     ·refine wp_skip ?_
      refine zs [4] h an fun a w h => ?_
      cases hF
      exact wp_ret (ret_okR tok h rfl (by kernel_rfl)).1
def f219 (k:Nat) (x0:(((List (Int × (Int × Int))) × ((List (Int × (Int × (Int × (Int × (Int × ByteArray)))))) × (List (Int × Int)))) × ((List (List Int)) × ((List (List Int)) × (Option (List ((Int × Int) × Bool))))))) (x1:Int) (x2:Int):Option Int:=if (0≤x1∧x1 < (List.length x0.1.2.1:Int)) then (if (0≤x2∧x2 < (List.length x0.1.2.1:Int)) then (if (0 ≤ (List.getD x0.1.2.1 (Int.toNat x1) ((0:Int),((0:Int),((0:Int),((0:Int),((0:Int),(⟨#[]⟩:ByteArray))))))).1 ∧ (List.getD x0.1.2.1 (Int.toNat x1) ((0:Int),((0:Int),((0:Int),((0:Int),((0:Int),(⟨#[]⟩:ByteArray))))))).1 < (List.length x0.1.1:Int)) then (if (0 ≤ (List.getD x0.1.2.1 (Int.toNat x1) ((0:Int),((0:Int),((0:Int),((0:Int),((0:Int),(⟨#[]⟩:ByteArray))))))).2.1 ∧ (List.getD x0.1.2.1 (Int.toNat x1) ((0:Int),((0:Int),((0:Int),((0:Int),((0:Int),(⟨#[]⟩:ByteArray))))))).2.1 < (List.length x0.1.1:Int)) then ((f225 k (List.getD x0.1.1 (Int.toNat (List.getD x0.1.2.1 (Int.toNat x1) ((0:Int),((0:Int),((0:Int),((0:Int),((0:Int),(⟨#[]⟩:ByteArray))))))).1) ((0:Int),((0:Int),(0:Int)))).2 (List.getD x0.1.1 (Int.toNat (List.getD x0.1.2.1 (Int.toNat x1) ((0:Int),((0:Int),((0:Int),((0:Int),((0:Int),(⟨#[]⟩:ByteArray))))))).2.1) ((0:Int),((0:Int),(0:Int)))).2).bind fun r1 => (if (0 ≤ (List.getD x0.1.2.1 (Int.toNat x2) ((0:Int),((0:Int),((0:Int),((0:Int),((0:Int),(⟨#[]⟩:ByteArray))))))).1 ∧ (List.getD x0.1.2.1 (Int.toNat x2) ((0:Int),((0:Int),((0:Int),((0:Int),((0:Int),(⟨#[]⟩:ByteArray))))))).1 < (List.length x0.1.1:Int)) then (if (0 ≤ (List.getD x0.1.2.1 (Int.toNat x2) ((0:Int),((0:Int),((0:Int),((0:Int),((0:Int),(⟨#[]⟩:ByteArray))))))).2.1 ∧ (List.getD x0.1.2.1 (Int.toNat x2) ((0:Int),((0:Int),((0:Int),((0:Int),((0:Int),(⟨#[]⟩:ByteArray))))))).2.1 < (List.length x0.1.1:Int)) then ((f225 k (List.getD x0.1.1 (Int.toNat (List.getD x0.1.2.1 (Int.toNat x2) ((0:Int),((0:Int),((0:Int),((0:Int),((0:Int),(⟨#[]⟩:ByteArray))))))).1) ((0:Int),((0:Int),(0:Int)))).2 (List.getD x0.1.1 (Int.toNat (List.getD x0.1.2.1 (Int.toNat x2) ((0:Int),((0:Int),((0:Int),((0:Int),((0:Int),(⟨#[]⟩:ByteArray))))))).2.1) ((0:Int),((0:Int),(0:Int)))).2).bind fun r2 => (if (bif (decide (r1 < (0:Int))) then true else (decide (r2 < (0:Int)))) then (some (-1:Int)) else (if (((8:Int):Int)≠0) then (some (Int.tmod (IntKind.i64.wrap ((IntKind.i64.wrap (r2 - r1)) + (8:Int))) (8:Int))) else none))) else none) else none)) else none) else none) else none) else none
theorem c219 (k:Nat) (x0:tN) (x1:Int) (x2:Int) (r:Int) (hF:f219 k x0 x1 x2=some r):PCall Try.prog 219 [⟨sh20,some x0⟩,⟨iS,x1⟩,⟨iS,x2⟩] [⟨iS,r⟩]:=by
 refine pcall_intro Try.func219 rfl rfl (Nat.le_of_ble_eq_true rfl) ?_
 intro w0 Zi a w h
 rw [f219] at hF
 refine zs [0,1,2] h an fun a w h => ?_
 obtain ⟨hc10,hF⟩:=of_if hF
 obtain ⟨hc11,hF⟩:=of_if hF
 refine wp_regy_seq tok (orc:=o0) (l:=[0,7,8]) ([(18,7)],[],[],[(8,[0]),(9,[19]),(10,[20]),(11,[21]),(12,[22]),(13,[2]),(14,[23,24]),(15,[25])]) 19 nw h (by kernel_rfl) (by kernel_rfl) (ac hc10 (ac hc11 an)) fun a w h => ?_
 obtain ⟨hc7,hF⟩:=of_if hF
 obtain ⟨hc8,hF⟩:=of_if hF
 obtain ⟨r1,hr9,hF⟩:=of_bind hF
 refine wp_regy_seq tok (orc:=orcL [(47,[⟨iS,r1⟩])]) (l:=[0,8,9]) ([],[],[],[]) 22 nw h (by kernel_rfl) (by kernel_rfl) (ac hc7 (ac hc8 (ac (c225 k (gD x0.1.1 (tZ (gD x0.1.2.1 (tZ x1) zR).1) (iO,(iO,iO))).2 (gD x0.1.1 (tZ (gD x0.1.2.1 (tZ x1) zR).2.1) (iO,(iO,iO))).2 r1 hr9) an))) fun a w h => ?_
 obtain ⟨hc4,hF⟩:=of_if hF
 obtain ⟨hc5,hF⟩:=of_if hF
 obtain ⟨r2,hr6,hF⟩:=of_bind hF
 refine wp_regy_seq tok (orc:=orcL [(68,[⟨iS,r2⟩])]) (l:=[9,10]) ([],[],[],[]) 22 nw h (by kernel_rfl) (by kernel_rfl) (ac hc4 (ac hc5 (ac (c225 k (gD x0.1.1 (tZ (gD x0.1.2.1 (tZ x2) zR).1) (iO,(iO,iO))).2 (gD x0.1.1 (tZ (gD x0.1.2.1 (tZ x2) zR).2.1) (iO,(iO,iO))).2 r2 hr6) an))) fun a w h => ?_
 refine wp_seq ?_
 refine zs [9,10,74] h an fun a w h => ?_
 refine zi h hF (fun hF => ?_) (fun hF => ?_)
 ·refine zs [6] h an fun a w h => ?_
  cases hF
  exact wp_ret (ret_okR tok h rfl (by kernel_rfl)).1
 ·refine wp_skip ?_
  obtain ⟨hc3,hF⟩:=of_if hF
  refine zs [6] h (ac hc3 an) fun a w h => ?_
  cases hF
  exact wp_ret (ret_okR tok h rfl (by kernel_rfl)).1
def f199.j9 (k:Nat):Bool→Option Int
 | v8 => if v8 then (some (3:Int)) else (some (0:Int))
def f199.j7 (k:Nat) (r1:Int):Bool→Option Int
 | v6 => if v6 then (some (5:Int)) else (if (r1 == (5:Int)) then (f199.j9 k (r1 == (5:Int))) else (f199.j9 k (r1 == (6:Int))))
def f199 (k:Nat) (x0:(((List (Int × (Int × Int))) × ((List (Int × (Int × (Int × (Int × (Int × ByteArray)))))) × (List (Int × Int)))) × ((List (List Int)) × ((List (List Int)) × (Option (List ((Int × Int) × Bool))))))) (x1:Int) (x2:Int):Option Int:=if (0≤x1∧x1 < (List.length x0.1.2.1:Int)) then (if (0≤x2∧x2 < (List.length x0.1.2.1:Int)) then (if (bif (((List.getD x0.1.2.1 (Int.toNat x1) ((0:Int),((0:Int),((0:Int),((0:Int),((0:Int),(⟨#[]⟩:ByteArray))))))).2.1:Int) != (List.getD x0.1.2.1 (Int.toNat x2) ((0:Int),((0:Int),((0:Int),((0:Int),((0:Int),(⟨#[]⟩:ByteArray))))))).1) then true else (mget (Sh.beq sh5) x0.2.2.2 (x1,x2) false)) then (some (-1:Int)) else (if (((List.getD x0.1.2.1 (Int.toNat x2) ((0:Int),((0:Int),((0:Int),((0:Int),((0:Int),(⟨#[]⟩:ByteArray))))))).2.1:Int) == (List.getD x0.1.2.1 (Int.toNat x1) ((0:Int),((0:Int),((0:Int),((0:Int),((0:Int),(⟨#[]⟩:ByteArray))))))).1) then (some (20:Int)) else ((f219 k x0 x1 x2).bind fun r1 => (if (r1 == (2:Int)) then (f199.j7 k r1 (r1 == (2:Int))) else (if (r1 == (3:Int)) then (f199.j7 k r1 (r1 == (3:Int))) else (f199.j7 k r1 (r1 == (4:Int)))))))) else none) else none
theorem c199 (k:Nat) (x0:tN) (x1:Int) (x2:Int) (r:Int) (hF:f199 k x0 x1 x2=some r):PCall Try.prog 199 [⟨sh20,some x0⟩,⟨iS,x1⟩,⟨iS,x2⟩] [⟨iS,r⟩]:=by
 refine pcall_intro Try.func199 rfl rfl (Nat.le_of_ble_eq_true rfl) ?_
 intro w0 Zi a w h
 rw [f199] at hF
 refine zs [0,1,2] h an fun a w h => ?_
 obtain ⟨hc11,hF⟩:=of_if hF
 obtain ⟨hc12,hF⟩:=of_if hF
 refine wp_regy_seq tok (orc:=o0) (l:=[0,1,2,7,8]) ([(18,7)],[],[],[(8,[0]),(9,[17]),(10,[18]),(11,[19]),(12,[20]),(13,[2]),(14,[21,22]),(15,[23])]) 19 nw h (by kernel_rfl) (by kernel_rfl) (ac hc11 (ac hc12 an)) fun a w h => ?_
 refine wp_seq ?_
 refine zs [0,1,2,7,8,39] h (ac (fun (_:((((gD x0.1.2.1 (tZ x1) zR).2.1:Int) != (gD x0.1.2.1 (tZ x2) zR).1)=false)) => (show eqTy Try.prog 9 174 (.st (.pair iS iS))=true from by kernel_rfl)) an) fun a w h => ?_
 refine zi h hF (fun hF => ?_) (fun hF => ?_)
 ·refine zs [6] h an fun a w h => ?_
  cases hF
  exact wp_ret (ret_okR tok h rfl (by kernel_rfl)).1
 ·refine wp_skip ?_
  refine wp_seq ?_
  refine zs [0,1,2,44] h an fun a w h => ?_
  refine zi h hF (fun hF => ?_) (fun hF => ?_)
  ·refine zs [6] h an fun a w h => ?_
   cases hF
   exact wp_ret (ret_okR tok h rfl (by kernel_rfl)).1
  ·refine wp_skip ?_
   refine wp_seq ?_
   obtain ⟨r1,hr10,hF⟩:=of_bind hF
   refine zc (orcL [(48,[⟨iS,r1⟩])]) [48] h (ac (c219 k x0 x1 x2 r1 hr10) an) fun a w h => ?_
   refine wp_block ?_
   refine wp_seq ?_
   refine zs [48,49] h an fun a w h => ?_
   refine wp_midT (fun a w => ∃ v:Bool,f199.j7 k r1 v=some r∧Rel w0 (fun _ => False) Zi Try.f199.ntmps ((fun (v6:Bool) => ([(48,.val iS r1),(49,.val .bool v6)]:SS)) v) a w) ?_ ?_
   ·
    refine zi h hF (fun hF => ?_) (fun hF => ?_)
    ·refine wp_skip ?_
     exact ⟨(r1 == (2:Int)),hF,ar h [48,49]⟩
    ·refine zs [48,49] h an fun a w h => ?_
     refine zi h hF (fun hF => ?_) (fun hF => ?_)
     ·refine wp_skip ?_
      exact ⟨(r1 == (3:Int)),hF,ar h [48,49]⟩
     ·refine zt [48,49] h an fun a w h => ?_
      exact ⟨(r1 == (4:Int)),hF,ar h [48,49]⟩
   ·rintro a w ⟨v6,hF,h⟩
    rw [f199.j7] at hF
    refine zi h hF (fun hF => ?_) (fun hF => ?_)
    ·refine zs [6] h an fun a w h => ?_
     cases hF
     exact wp_ret (ret_okR tok h rfl (by kernel_rfl)).1
    ·refine wp_seq ?_
     refine zs [48,53] h an fun a w h => ?_
     refine wp_midT (fun a w => ∃ v:Bool,f199.j9 k v=some r∧Rel w0 (fun _ => False) Zi Try.f199.ntmps ((fun (v8:Bool) => ([(53,.val .bool v8)]:SS)) v) a w) ?_ ?_
     ·
      refine zi h hF (fun hF => ?_) (fun hF => ?_)
      ·refine wp_skip ?_
       exact ⟨(r1 == (5:Int)),hF,ar h [53]⟩
      ·refine zt [53] h an fun a w h => ?_
       exact ⟨(r1 == (6:Int)),hF,ar h [53]⟩
     ·rintro a w ⟨v8,hF,h⟩
      rw [f199.j9] at hF
      refine zi h hF (fun hF => ?_) (fun hF => ?_)
      ·refine zs [6] h an fun a w h => ?_
       cases hF
       exact wp_ret (ret_okR tok h rfl (by kernel_rfl)).1
      ·refine wp_skip ?_
       refine zs [6] h an fun a w h => ?_
       cases hF
       exact wp_ret (ret_okR tok h rfl (by kernel_rfl)).1
def f157.j807 (k:Nat) (v790:Int) (q716:((List Int) × ((List (Int × (Int × Int))) × Unit) × Int)→Option (List Int)):((List Int) × ((List (Int × (Int × Int))) × Unit))→Option (List Int)
 | (v805,v806) => q716 (v805,v806,(IntKind.i64.wrap (v790 + (1:Int))))
def f157.l716 (k:Nat) (x0:(((List (Int × (Int × Int))) × ((List (Int × (Int × (Int × (Int × (Int × ByteArray)))))) × (List (Int × Int)))) × ((List (List Int)) × ((List (List Int)) × (Option (List ((Int × Int) × Bool))))))) (r715:((Int × (Int × Int)) × ((List (Int × (Int × Int))) × Unit))) (v713:(List Bool)) (q478:((List Int) × (List Bool) × ((List (Int × (Int × Int))) × Unit))→Option (List Int)):Nat → ((List Int) × ((List (Int × (Int × Int))) × Unit) × Int)→Option (List Int)
 | 0,_ => none
 | m716+1,(v788,v789,v790) => if (decide (v790 < (List.length (List.getD x0.2.1 (Int.toNat (List.getD x0.1.2.1 (Int.toNat r715.1.2.2) ((0:Int),((0:Int),((0:Int),((0:Int),((0:Int),(⟨#[]⟩:ByteArray))))))).2.1) ([]:(List Int))):Int))) then (if (0≤v790∧v790 < (List.length (List.getD x0.2.1 (Int.toNat (List.getD x0.1.2.1 (Int.toNat r715.1.2.2) ((0:Int),((0:Int),((0:Int),((0:Int),((0:Int),(⟨#[]⟩:ByteArray))))))).2.1) ([]:(List Int))):Int)) then (if (0 ≤ (List.getD (List.getD x0.2.1 (Int.toNat (List.getD x0.1.2.1 (Int.toNat r715.1.2.2) ((0:Int),((0:Int),((0:Int),((0:Int),((0:Int),(⟨#[]⟩:ByteArray))))))).2.1) ([]:(List Int))) (Int.toNat v790) (0:Int)) ∧ (List.getD (List.getD x0.2.1 (Int.toNat (List.getD x0.1.2.1 (Int.toNat r715.1.2.2) ((0:Int),((0:Int),((0:Int),((0:Int),((0:Int),(⟨#[]⟩:ByteArray))))))).2.1) ([]:(List Int))) (Int.toNat v790) (0:Int)) < (List.length (List.set v713 (Int.toNat r715.1.2.2) true):Int)) then (if (List.getD (List.set v713 (Int.toNat r715.1.2.2) true) (Int.toNat (List.getD (List.getD x0.2.1 (Int.toNat (List.getD x0.1.2.1 (Int.toNat r715.1.2.2) ((0:Int),((0:Int),((0:Int),((0:Int),((0:Int),(⟨#[]⟩:ByteArray))))))).2.1) ([]:(List Int))) (Int.toNat v790) (0:Int))) false) then (f157.j807 k v790 ((f157.l716 k x0 r715 v713 q478) m716) (v788,v789)) else ((f199 k x0 r715.1.2.2 (List.getD (List.getD x0.2.1 (Int.toNat (List.getD x0.1.2.1 (Int.toNat r715.1.2.2) ((0:Int),((0:Int),((0:Int),((0:Int),((0:Int),(⟨#[]⟩:ByteArray))))))).2.1) ([]:(List Int))) (Int.toNat v790) (0:Int))).bind fun r808 => (if (decide (r808 < (0:Int))) then (f157.j807 k v790 ((f157.l716 k x0 r715 v713 q478) m716) (v788,v789)) else (if (0 ≤ (List.getD (List.getD x0.2.1 (Int.toNat (List.getD x0.1.2.1 (Int.toNat r715.1.2.2) ((0:Int),((0:Int),((0:Int),((0:Int),((0:Int),(⟨#[]⟩:ByteArray))))))).2.1) ([]:(List Int))) (Int.toNat v790) (0:Int)) ∧ (List.getD (List.getD x0.2.1 (Int.toNat (List.getD x0.1.2.1 (Int.toNat r715.1.2.2) ((0:Int),((0:Int),((0:Int),((0:Int),((0:Int),(⟨#[]⟩:ByteArray))))))).2.1) ([]:(List Int))) (Int.toNat v790) (0:Int)) < (List.length x0.1.2.1:Int)) then (if (0 ≤ (List.getD (List.getD x0.2.1 (Int.toNat (List.getD x0.1.2.1 (Int.toNat r715.1.2.2) ((0:Int),((0:Int),((0:Int),((0:Int),((0:Int),(⟨#[]⟩:ByteArray))))))).2.1) ([]:(List Int))) (Int.toNat v790) (0:Int)) ∧ (List.getD (List.getD x0.2.1 (Int.toNat (List.getD x0.1.2.1 (Int.toNat r715.1.2.2) ((0:Int),((0:Int),((0:Int),((0:Int),((0:Int),(⟨#[]⟩:ByteArray))))))).2.1) ([]:(List Int))) (Int.toNat v790) (0:Int)) < (List.length v788:Int)) then (if (((decide (((List.getD v788 (Int.toNat (List.getD (List.getD x0.2.1 (Int.toNat (List.getD x0.1.2.1 (Int.toNat r715.1.2.2) ((0:Int),((0:Int),((0:Int),((0:Int),((0:Int),(⟨#[]⟩:ByteArray))))))).2.1) ([]:(List Int))) (Int.toNat v790) (0:Int))) (0:Int)):Int) < (0:Int)))=false) → (0 ≤ (List.getD (List.getD x0.2.1 (Int.toNat (List.getD x0.1.2.1 (Int.toNat r715.1.2.2) ((0:Int),((0:Int),((0:Int),((0:Int),((0:Int),(⟨#[]⟩:ByteArray))))))).2.1) ([]:(List Int))) (Int.toNat v790) (0:Int)) ∧ (List.getD (List.getD x0.2.1 (Int.toNat (List.getD x0.1.2.1 (Int.toNat r715.1.2.2) ((0:Int),((0:Int),((0:Int),((0:Int),((0:Int),(⟨#[]⟩:ByteArray))))))).2.1) ([]:(List Int))) (Int.toNat v790) (0:Int)) < (List.length v788:Int))) then ((some ((bif (decide (((List.getD v788 (Int.toNat (List.getD (List.getD x0.2.1 (Int.toNat (List.getD x0.1.2.1 (Int.toNat r715.1.2.2) ((0:Int),((0:Int),((0:Int),((0:Int),((0:Int),(⟨#[]⟩:ByteArray))))))).2.1) ([]:(List Int))) (Int.toNat v790) (0:Int))) (0:Int)):Int) < (0:Int))) then true else (decide (((IntKind.i64.wrap ((IntKind.i64.wrap (r715.1.1+r808)) + (List.getD x0.1.2.1 (Int.toNat (List.getD (List.getD x0.2.1 (Int.toNat (List.getD x0.1.2.1 (Int.toNat r715.1.2.2) ((0:Int),((0:Int),((0:Int),((0:Int),((0:Int),(⟨#[]⟩:ByteArray))))))).2.1) ([]:(List Int))) (Int.toNat v790) (0:Int))) ((0:Int),((0:Int),((0:Int),((0:Int),((0:Int),(⟨#[]⟩:ByteArray))))))).2.2.2.1)):Int) < (List.getD v788 (Int.toNat (List.getD (List.getD x0.2.1 (Int.toNat (List.getD x0.1.2.1 (Int.toNat r715.1.2.2) ((0:Int),((0:Int),((0:Int),((0:Int),((0:Int),(⟨#[]⟩:ByteArray))))))).2.1) ([]:(List Int))) (Int.toNat v790) (0:Int))) (0:Int))))):Bool)).bind fun v809 => (if v809 then (if (0 ≤ (List.getD (List.getD x0.2.1 (Int.toNat (List.getD x0.1.2.1 (Int.toNat r715.1.2.2) ((0:Int),((0:Int),((0:Int),((0:Int),((0:Int),(⟨#[]⟩:ByteArray))))))).2.1) ([]:(List Int))) (Int.toNat v790) (0:Int)) ∧ (List.getD (List.getD x0.2.1 (Int.toNat (List.getD x0.1.2.1 (Int.toNat r715.1.2.2) ((0:Int),((0:Int),((0:Int),((0:Int),((0:Int),(⟨#[]⟩:ByteArray))))))).2.1) ([]:(List Int))) (Int.toNat v790) (0:Int)) < (List.length v788:Int)) then ((some ((List.set v788 (Int.toNat (List.getD (List.getD x0.2.1 (Int.toNat (List.getD x0.1.2.1 (Int.toNat r715.1.2.2) ((0:Int),((0:Int),((0:Int),((0:Int),((0:Int),(⟨#[]⟩:ByteArray))))))).2.1) ([]:(List Int))) (Int.toNat v790) (0:Int))) (IntKind.i64.wrap ((IntKind.i64.wrap (r715.1.1+r808)) + (List.getD x0.1.2.1 (Int.toNat (List.getD (List.getD x0.2.1 (Int.toNat (List.getD x0.1.2.1 (Int.toNat r715.1.2.2) ((0:Int),((0:Int),((0:Int),((0:Int),((0:Int),(⟨#[]⟩:ByteArray))))))).2.1) ([]:(List Int))) (Int.toNat v790) (0:Int))) ((0:Int),((0:Int),((0:Int),((0:Int),((0:Int),(⟨#[]⟩:ByteArray))))))).2.2.2.1))):(List Int))).bind fun v810 => ((f197 k v789 ((IntKind.i64.wrap ((IntKind.i64.wrap (r715.1.1+r808)) + (List.getD x0.1.2.1 (Int.toNat (List.getD (List.getD x0.2.1 (Int.toNat (List.getD x0.1.2.1 (Int.toNat r715.1.2.2) ((0:Int),((0:Int),((0:Int),((0:Int),((0:Int),(⟨#[]⟩:ByteArray))))))).2.1) ([]:(List Int))) (Int.toNat v790) (0:Int))) ((0:Int),((0:Int),((0:Int),((0:Int),((0:Int),(⟨#[]⟩:ByteArray))))))).2.2.2.1)),((0:Int),(List.getD (List.getD x0.2.1 (Int.toNat (List.getD x0.1.2.1 (Int.toNat r715.1.2.2) ((0:Int),((0:Int),((0:Int),((0:Int),((0:Int),(⟨#[]⟩:ByteArray))))))).2.1) ([]:(List Int))) (Int.toNat v790) (0:Int))))).bind fun r811 => (f157.j807 k v790 ((f157.l716 k x0 r715 v713 q478) m716) (v810,r811)))) else none) else (f157.j807 k v790 ((f157.l716 k x0 r715 v713 q478) m716) (v788,v789)))) else none) else none) else none)))) else none) else none) else (q478 (v788,(List.set v713 (Int.toNat r715.1.2.2) true),v789))
def f157.l478 (k:Nat) (x0:(((List (Int × (Int × Int))) × ((List (Int × (Int × (Int × (Int × (Int × ByteArray)))))) × (List (Int × Int)))) × ((List (List Int)) × ((List (List Int)) × (Option (List ((Int × Int) × Bool))))))):Nat → ((List Int) × (List Bool) × ((List (Int × (Int × Int))) × Unit))→Option (List Int)
 | 0,_ => none
 | m478+1,(v712,v713,v714) => if (decide (((List.length v714.1:Int):Int) > (0:Int))) then ((f198 k v714).bind fun r715 => (if (0≤r715.1.2.2∧r715.1.2.2 < (List.length v713:Int)) then (if (List.getD v713 (Int.toNat r715.1.2.2) false) then ((f157.l478 k x0) m478 (v712,v713,r715.2)) else (if (0≤r715.1.2.2∧r715.1.2.2 < (List.length v713:Int)) then (if (0≤r715.1.2.2∧r715.1.2.2 < (List.length x0.1.2.1:Int)) then (if (0 ≤ (List.getD x0.1.2.1 (Int.toNat r715.1.2.2) ((0:Int),((0:Int),((0:Int),((0:Int),((0:Int),(⟨#[]⟩:ByteArray))))))).2.1 ∧ (List.getD x0.1.2.1 (Int.toNat r715.1.2.2) ((0:Int),((0:Int),((0:Int),((0:Int),((0:Int),(⟨#[]⟩:ByteArray))))))).2.1 < (List.length x0.2.1:Int)) then (f157.l716 k x0 r715 v713 ((f157.l478 k x0) m478) k (v712,r715.2,(0:Int))) else none) else none) else none)) else none)) else (some v712)
def f157.l80 (k:Nat) (x0:(((List (Int × (Int × Int))) × ((List (Int × (Int × (Int × (Int × (Int × ByteArray)))))) × (List (Int × Int)))) × ((List (List Int)) × ((List (List Int)) × (Option (List ((Int × Int) × Bool))))))) (x1:Int):Nat → ((List Int) × ((List (Int × (Int × Int))) × Unit) × Int)→Option (List Int)
 | 0,_ => none
 | m80+1,(v114,v115,v116) => if (decide (v116 < (List.length (List.getD x0.2.1 (Int.toNat x1) ([]:(List Int))):Int))) then (if (0≤v116∧v116 < (List.length (List.getD x0.2.1 (Int.toNat x1) ([]:(List Int))):Int)) then (if (0 ≤ (List.getD (List.getD x0.2.1 (Int.toNat x1) ([]:(List Int))) (Int.toNat v116) (0:Int)) ∧ (List.getD (List.getD x0.2.1 (Int.toNat x1) ([]:(List Int))) (Int.toNat v116) (0:Int)) < (List.length x0.1.2.1:Int)) then (if (0 ≤ (List.getD (List.getD x0.2.1 (Int.toNat x1) ([]:(List Int))) (Int.toNat v116) (0:Int)) ∧ (List.getD (List.getD x0.2.1 (Int.toNat x1) ([]:(List Int))) (Int.toNat v116) (0:Int)) < (List.length v114:Int)) then (if (0 ≤ (List.getD (List.getD x0.2.1 (Int.toNat x1) ([]:(List Int))) (Int.toNat v116) (0:Int)) ∧ (List.getD (List.getD x0.2.1 (Int.toNat x1) ([]:(List Int))) (Int.toNat v116) (0:Int)) < (List.length (List.set v114 (Int.toNat (List.getD (List.getD x0.2.1 (Int.toNat x1) ([]:(List Int))) (Int.toNat v116) (0:Int))) (List.getD x0.1.2.1 (Int.toNat (List.getD (List.getD x0.2.1 (Int.toNat x1) ([]:(List Int))) (Int.toNat v116) (0:Int))) ((0:Int),((0:Int),((0:Int),((0:Int),((0:Int),(⟨#[]⟩:ByteArray))))))).2.2.2.1):Int)) then ((f197 k v115 ((List.getD (List.set v114 (Int.toNat (List.getD (List.getD x0.2.1 (Int.toNat x1) ([]:(List Int))) (Int.toNat v116) (0:Int))) (List.getD x0.1.2.1 (Int.toNat (List.getD (List.getD x0.2.1 (Int.toNat x1) ([]:(List Int))) (Int.toNat v116) (0:Int))) ((0:Int),((0:Int),((0:Int),((0:Int),((0:Int),(⟨#[]⟩:ByteArray))))))).2.2.2.1) (Int.toNat (List.getD (List.getD x0.2.1 (Int.toNat x1) ([]:(List Int))) (Int.toNat v116) (0:Int))) (0:Int)),((0:Int),(List.getD (List.getD x0.2.1 (Int.toNat x1) ([]:(List Int))) (Int.toNat v116) (0:Int))))).bind fun r123 => ((f157.l80 k x0 x1) m80 ((List.set v114 (Int.toNat (List.getD (List.getD x0.2.1 (Int.toNat x1) ([]:(List Int))) (Int.toNat v116) (0:Int))) (List.getD x0.1.2.1 (Int.toNat (List.getD (List.getD x0.2.1 (Int.toNat x1) ([]:(List Int))) (Int.toNat v116) (0:Int))) ((0:Int),((0:Int),((0:Int),((0:Int),((0:Int),(⟨#[]⟩:ByteArray))))))).2.2.2.1),r123,(IntKind.i64.wrap (v116 + (1:Int)))))) else none) else none) else none) else none) else (f157.l478 k x0 k (v114,(List.replicate (Int.toNat (List.length x0.1.2.1:Int)) false),v115))
def f157.l16 (k:Nat) (x0:(((List (Int × (Int × Int))) × ((List (Int × (Int × (Int × (Int × (Int × ByteArray)))))) × (List (Int × Int)))) × ((List (List Int)) × ((List (List Int)) × (Option (List ((Int × Int) × Bool))))))) (x1:Int):Nat → ((List Int) × Int)→Option (List Int)
 | 0,_ => none
 | m16+1,(v27,v28) => if (decide (v28 < (List.length (List.replicate (Int.toNat (List.length x0.1.2.1:Int)) (0:Int)):Int))) then (if (0≤v28∧v28 < (List.length v27:Int)) then ((f157.l16 k x0 x1) m16 ((List.set v27 (Int.toNat v28) (-1:Int)),(IntKind.i64.wrap (v28 + (1:Int))))) else none) else (if (0≤x1∧x1 < (List.length x0.2.1:Int)) then (f157.l80 k x0 x1 k (v27,(([]:(List (Int × (Int × Int)))),()),(0:Int))) else none)
def f157 (k:Nat) (x0:(((List (Int × (Int × Int))) × ((List (Int × (Int × (Int × (Int × (Int × ByteArray)))))) × (List (Int × Int)))) × ((List (List Int)) × ((List (List Int)) × (Option (List ((Int × Int) × Bool))))))) (x1:Int):Option (List Int):=if (0 ≤ (List.length x0.1.2.1:Int)∧Int.toNat (List.length x0.1.2.1:Int)*8≤140737488355328) then (if (0 ≤ (List.length x0.1.2.1:Int)∧Int.toNat (List.length x0.1.2.1:Int)*1≤140737488355328) then (f157.l16 k x0 x1 k ((List.replicate (Int.toNat (List.length x0.1.2.1:Int)) (0:Int)),(0:Int))) else none) else none
theorem c157 (k:Nat) (x0:tN) (x1:Int) (r:(List Int)) (hF:f157 k x0 x1=some r):PCall Try.prog 157 [⟨sh20,some x0⟩,⟨iS,x1⟩] [⟨(.sl true 2 iS),r⟩]:=by
 refine pcall_intro Try.func157 rfl rfl (Nat.le_of_ble_eq_true rfl) ?_
 intro w0 Zi a w h
 rw [f157] at hF
 refine zs [0,1] h an fun a w h => ?_
 refine zs [0,1,5] h an fun a w h => ?_
 obtain ⟨hc828,hF⟩:=of_if hF
 obtain ⟨hc829,hF⟩:=of_if hF
 refine wp_regy_seq tok (orc:=o0) (l:=[0,1,6,7]) ([],[(4,[24])],[],[(2,[5]),(3,[25])]) 5 nw h (by kernel_rfl) (by kernel_rfl) (ac hc828 (ac hc829 an)) fun a w h => ?_
 refine wp_seq ?_
 refine zs [0,1,6,7,28,29] h an fun a w h => ?_
 refine wp_block ?_
 refine wp_loop_fuel (f157.l16 k x0 x1) (fun ((v27,v28):((List Int) × Int)) => [(0,.val sh20 (some x0)),(1,.val iS x1),(6,.val (.sl true 2 iS) v27),(7,.val (.sl true 4 .bool) (List.replicate (tZ (List.length x0.1.2.1:Int)) false)),(28,.val iS (List.length (List.replicate (tZ (List.length x0.1.2.1:Int)) iO):Int)),(29,.val iS v28)]) (fun v h => by obtain ⟨v27,v28⟩:=v; rw [f157.l16] at h; cases h) ?_ hF (ar h [0,1,6,7,28,29])
 intro m16 v a w hF h
 obtain ⟨v27,v28⟩:=v
 rw [f157.l16] at hF
 refine zs [0,1,6,7,28,29,30] h an fun a w h => ?_
 refine wp_seq <| zi h hF (fun hF => ?_) (fun hF => ?_)
 ·refine wp_skip ?_
  refine wp_seq <| wp_block ?_
  refine zs [0,1,6,7,8,28,29] h an fun a w h => ?_
  obtain ⟨hc30,hF⟩:=of_if hF
  refine zt [0,1,6,7,28,29] h (ac hc30 an) fun a w h => ?_
  refine zt [0,1,6,7,28,29] h an fun a w h => ?_
  exact ⟨((List.set v27 (tZ v28) (-1:Int)),(w64 (v28 + (1:Int)))),hF,ar h [0,1,6,7,28,29]⟩
 ·refine wp_exit ?_
  refine zs [0,1,6,7,9] h an fun a w h => ?_
  refine wp_seq ?_
  obtain ⟨hc827,hF⟩:=of_if hF
  refine zs [0,6,7,9,44,45,46] h (ac hc827 an) fun a w h => ?_
  refine wp_block ?_
  refine wp_loop_fuel (f157.l80 k x0 x1) (fun ((v114,v115,v116):((List Int) × ((List (Int × (Int × Int))) × Unit) × Int)) => [(0,.val sh20 (some x0)),(6,.val (.sl true 2 iS) v114),(7,.val (.sl true 4 .bool) (List.replicate (tZ (List.length x0.1.2.1:Int)) false)),(9,.val sh22 (some v115)),(44,.val (.sl false 2 iS) (gD x0.2.1 (tZ x1) lO)),(45,.val iS (List.length (gD x0.2.1 (tZ x1) lO):Int)),(46,.val iS v116)]) (fun v h => by obtain ⟨v114,v115,v116⟩:=v; rw [f157.l80] at h; cases h) ?_ hF (ar h [0,6,7,9,44,45,46])
  intro m80 v a w hF h
  obtain ⟨v114,v115,v116⟩:=v
  rw [f157.l80] at hF
  refine zs [0,6,7,9,44,45,46,47] h an fun a w h => ?_
  refine wp_seq <| zi h hF (fun hF => ?_) (fun hF => ?_)
  ·refine wp_skip ?_
   refine wp_seq <| wp_block ?_
   obtain ⟨hc128,hF⟩:=of_if hF
   refine zs [0,6,7,9,11,44,45,46] h (ac hc128 an) fun a w h => ?_
   obtain ⟨hc126,hF⟩:=of_if hF
   obtain ⟨hc127,hF⟩:=of_if hF
   refine zs [0,6,7,9,11,44,45,46] h (ac hc126 (ac hc127 an)) fun a w h => ?_
   obtain ⟨hc124,hF⟩:=of_if hF
   obtain ⟨r123,hr125,hF⟩:=of_bind hF
   refine zd (orcL [(69,[⟨.pt false 4294967295 (.pt true 260 (.st (.pair (.sl true 263 (.st (.pair iS (.pair iS iS)))) .unit))),some (some r123)⟩])]) [0,6,7,9,44,45,46] h (ac hc124 (ac (c197 k v115 ((gD (List.set v114 (tZ (gD (gD x0.2.1 (tZ x1) lO) (tZ v116) iO)) (gD x0.1.2.1 (tZ (gD (gD x0.2.1 (tZ x1) lO) (tZ v116) iO)) zR).2.2.2.1) (tZ (gD (gD x0.2.1 (tZ x1) lO) (tZ v116) iO)) iO),(iO,(gD (gD x0.2.1 (tZ x1) lO) (tZ v116) iO))) r123 hr125) an)) fun a w h => ?_
   refine zt [0,6,7,9,44,45,46] h an fun a w h => ?_
   exact ⟨((List.set v114 (tZ (gD (gD x0.2.1 (tZ x1) lO) (tZ v116) iO)) (gD x0.1.2.1 (tZ (gD (gD x0.2.1 (tZ x1) lO) (tZ v116) iO)) zR).2.2.2.1),r123,(w64 (v116 + (1:Int)))),hF,ar h [0,6,7,9,44,45,46]⟩
  ·refine wp_exit ?_
   refine wp_seq <| wp_block ?_
   refine wp_loop_fuel (f157.l478 k x0) (fun ((v712,v713,v714):((List Int) × (List Bool) × ((List (Int × (Int × Int))) × Unit))) => [(0,.val sh20 (some x0)),(6,.val (.sl true 2 iS) v712),(7,.val (.sl true 4 .bool) v713),(9,.val sh22 (some v714))]) (fun v h => by obtain ⟨v712,v713,v714⟩:=v; rw [f157.l478] at h; cases h) ?_ hF (ar h [0,6,7,9])
   intro m478 v a w hF h
   obtain ⟨v712,v713,v714⟩:=v
   rw [f157.l478] at hF
   refine wp_seq ?_
   refine zs [0,6,7,9,76] h an fun a w h => ?_
   refine zi h hF (fun hF => ?_) (fun hF => ?_)
   ·refine wp_skip ?_
    refine wp_block ?_
    obtain ⟨r715,hr826,hF⟩:=of_bind hF
    refine zc (orcL [(78,[⟨.pt false 4294967295 (.pt true 260 (.st (.pair (.sl true 263 (.st (.pair iS (.pair iS iS)))) .unit))),some (some r715.2)⟩,⟨sh21,r715.1⟩])]) [0,6,7,9,12] h (ac (c198 k v714 r715 hr826) an) fun a w h => ?_
    refine wp_seq ?_
    obtain ⟨hc825,hF⟩:=of_if hF
    refine zs [0,6,7,9,12,83] h (ac hc825 an) fun a w h => ?_
    refine zi h hF (fun hF => ?_) (fun hF => ?_)
    ·refine wp_exit ?_
     exact ⟨(v712,v713,r715.2),hF,ar h [0,6,7,9]⟩
    ·refine wp_skip ?_
     obtain ⟨hc824,hF⟩:=of_if hF
     refine zs [0,6,7,9,12] h (ac hc824 an) fun a w h => ?_
     obtain ⟨hc822,hF⟩:=of_if hF
     obtain ⟨hc823,hF⟩:=of_if hF
     refine wp_regy_seq tok (orc:=o0) (l:=[0,6,7,9,12,103,104,105]) ([],[],[],[]) 18 nw h (by kernel_rfl) (by kernel_rfl) (ac hc822 (ac hc823 an)) fun a w h => ?_
     refine wp_block ?_
     refine wp_loop_fuel (f157.l716 k x0 r715 v713 ((f157.l478 k x0) m478)) (fun ((v788,v789,v790):((List Int) × ((List (Int × (Int × Int))) × Unit) × Int)) => [(0,.val sh20 (some x0)),(6,.val (.sl true 2 iS) v788),(7,.val (.sl true 4 .bool) (List.set v713 (tZ r715.1.2.2) true)),(9,.val sh22 (some v789)),(12,.val sh23 (some r715.1)),(103,.val (.sl false 2 iS) (gD x0.2.1 (tZ (gD x0.1.2.1 (tZ r715.1.2.2) zR).2.1) lO)),(104,.val iS (List.length (gD x0.2.1 (tZ (gD x0.1.2.1 (tZ r715.1.2.2) zR).2.1) lO):Int)),(105,.val iS v790)]) (fun v h => by obtain ⟨v788,v789,v790⟩:=v; rw [f157.l716] at h; cases h) ?_ hF (ar h [0,6,7,9,12,103,104,105])
     intro m716 v a w hF h
     obtain ⟨v788,v789,v790⟩:=v
     rw [f157.l716] at hF
     refine zs [0,6,7,9,12,103,104,105,106] h an fun a w h => ?_
     refine wp_seq <| zi h hF (fun hF => ?_) (fun hF => ?_)
     ·refine wp_skip ?_
      refine wp_mid (fun a w => ∃ v:((List Int) × ((List (Int × (Int × Int))) × Unit)),f157.j807 k v790 ((f157.l716 k x0 r715 v713 ((f157.l478 k x0) m478)) m716) v=some r∧Rel w0 (fun _ => False) Zi Try.f157.ntmps ((fun ((v805,v806):((List Int) × ((List (Int × (Int × Int))) × Unit))) => ([(0,.val sh20 (some x0)),(6,.val (.sl true 2 iS) v805),(7,.val (.sl true 4 .bool) (List.set v713 (tZ r715.1.2.2) true)),(9,.val sh22 (some v806)),(12,.val sh23 (some r715.1)),(103,.val (.sl false 2 iS) (gD x0.2.1 (tZ (gD x0.1.2.1 (tZ r715.1.2.2) zR).2.1) lO)),(104,.val iS (List.length (gD x0.2.1 (tZ (gD x0.1.2.1 (tZ r715.1.2.2) zR).2.1) lO):Int)),(105,.val iS v790)]:SS)) v) a w) ?_ ?_
      ·
       refine wp_block ?_
       obtain ⟨hc821,hF⟩:=of_if hF
       refine zs [0,6,7,9,12,14,103,104,105] h (ac hc821 an) fun a w h => ?_
       refine wp_seq ?_
       obtain ⟨hc820,hF⟩:=of_if hF
       refine zs [0,6,7,9,12,14,103,104,105,112] h (ac hc820 an) fun a w h => ?_
       refine zi h hF (fun hF => ?_) (fun hF => ?_)
       ·refine wp_exit ?_
        exact ⟨(v788,v789),hF,ar h [0,6,7,9,12,103,104,105]⟩
       ·refine wp_skip ?_
        obtain ⟨r808,hr819,hF⟩:=of_bind hF
        refine zc (orcL [(117,[⟨iS,r808⟩])]) [0,6,7,9,12,14,15,103,104,105] h (ac (c199 k x0 r715.1.2.2 (gD (gD x0.2.1 (tZ (gD x0.1.2.1 (tZ r715.1.2.2) zR).2.1) lO) (tZ v790) iO) r808 hr819) an) fun a w h => ?_
        refine wp_seq ?_
        refine zs [0,6,7,9,12,14,15,103,104,105,119] h an fun a w h => ?_
        refine zi h hF (fun hF => ?_) (fun hF => ?_)
        ·refine wp_exit ?_
         exact ⟨(v788,v789),hF,ar h [0,6,7,9,12,103,104,105]⟩
        ·refine wp_skip ?_
         obtain ⟨hc818,hF⟩:=of_if hF
         refine wp_regy_seq tok (orc:=o0) (l:=[0,6,7,9,12,14,16,103,104,105]) ([],[],[],[]) 15 nw h (by kernel_rfl) (by kernel_rfl) (ac hc818 an) fun a w h => ?_
         obtain ⟨hc816,hF⟩:=of_if hF
         obtain ⟨hc817,hF⟩:=of_if hF
         refine zs [0,6,7,9,12,14,16,103,104,105,146] h (ac hc816 (ac hc817 an)) fun a w h => ?_
         obtain ⟨v809,hv815,hF⟩:=of_bind hF
         replace h:=h.cast (S':=[(0,.val sh20 (some x0)),(6,.val (.sl true 2 iS) v788),(7,.val (.sl true 4 .bool) (List.set v713 (tZ r715.1.2.2) true)),(9,.val sh22 (some v789)),(12,.val sh23 (some r715.1)),(14,.val iS (gD (gD x0.2.1 (tZ (gD x0.1.2.1 (tZ r715.1.2.2) zR).2.1) lO) (tZ v790) iO)),(16,.val iS (w64 ((w64 (r715.1.1+r808)) + (gD x0.1.2.1 (tZ (gD (gD x0.2.1 (tZ (gD x0.1.2.1 (tZ r715.1.2.2) zR).2.1) lO) (tZ v790) iO)) zR).2.2.2.1))),(103,.val (.sl false 2 iS) (gD x0.2.1 (tZ (gD x0.1.2.1 (tZ r715.1.2.2) zR).2.1) lO)),(104,.val iS (List.length (gD x0.2.1 (tZ (gD x0.1.2.1 (tZ r715.1.2.2) zR).2.1) lO):Int)),(105,.val iS v790),(146,.val .bool v809)]) (by cases hv815; kernel_rfl)
         refine zi h hF (fun hF => ?_) (fun hF => ?_)
         ·obtain ⟨hc814,hF⟩:=of_if hF
          refine zs [0,6,7,9,12,14,16,103,104,105] h (ac hc814 an) fun a w h => ?_
          obtain ⟨v810,hv813,hF⟩:=of_bind hF
          replace h:=h.cast (S':=[(0,.val sh20 (some x0)),(6,.val (.sl true 2 iS) v810),(7,.val (.sl true 4 .bool) (List.set v713 (tZ r715.1.2.2) true)),(9,.val sh22 (some v789)),(12,.val sh23 (some r715.1)),(14,.val iS (gD (gD x0.2.1 (tZ (gD x0.1.2.1 (tZ r715.1.2.2) zR).2.1) lO) (tZ v790) iO)),(16,.val iS (w64 ((w64 (r715.1.1+r808)) + (gD x0.1.2.1 (tZ (gD (gD x0.2.1 (tZ (gD x0.1.2.1 (tZ r715.1.2.2) zR).2.1) lO) (tZ v790) iO)) zR).2.2.2.1))),(103,.val (.sl false 2 iS) (gD x0.2.1 (tZ (gD x0.1.2.1 (tZ r715.1.2.2) zR).2.1) lO)),(104,.val iS (List.length (gD x0.2.1 (tZ (gD x0.1.2.1 (tZ r715.1.2.2) zR).2.1) lO):Int)),(105,.val iS v790)]) (by cases hv813; kernel_rfl)
          obtain ⟨r811,hr812,hF⟩:=of_bind hF
          refine zd (orcL [(155,[⟨.pt false 4294967295 (.pt true 260 (.st (.pair (.sl true 263 (.st (.pair iS (.pair iS iS)))) .unit))),some (some r811)⟩])]) [0,6,7,9,12,103,104,105] h (ac (c197 k v789 ((w64 ((w64 (r715.1.1+r808)) + (gD x0.1.2.1 (tZ (gD (gD x0.2.1 (tZ (gD x0.1.2.1 (tZ r715.1.2.2) zR).2.1) lO) (tZ v790) iO)) zR).2.2.2.1)),(iO,(gD (gD x0.2.1 (tZ (gD x0.1.2.1 (tZ r715.1.2.2) zR).2.1) lO) (tZ v790) iO))) r811 hr812) an) fun a w h => ?_
          exact ⟨(v810,r811),hF,ar h [0,6,7,9,12,103,104,105]⟩
         ·refine wp_skip ?_
          exact ⟨(v788,v789),hF,ar h [0,6,7,9,12,103,104,105]⟩
      ·rintro a w ⟨v,hF,h⟩
       obtain ⟨v805,v806⟩:=v
       rw [f157.j807] at hF
       refine zt [0,6,7,9,12,103,104,105] h an fun a w h => ?_
       exact ⟨(v805,v806,(w64 (v790 + (1:Int)))),hF,ar h [0,6,7,9,12,103,104,105]⟩
     ·refine wp_exit ?_
      exact ⟨(v788,(List.set v713 (tZ r715.1.2.2) true),v789),hF,ar h [0,6,7,9]⟩
   ·refine wp_exit ?_
    refine zs [4,6] h an fun a w h => ?_
    cases hF
    exact wp_ret (ret_okR tok h rfl (by kernel_rfl)).1
def f95.j160 (k:Nat) (v149:Int) (q101:((List Int) × Int)→Option (List Int)):(List Int)→Option (List Int)
 | v159 => q101 (v159,(IntKind.i64.wrap (v149 + (1:Int))))
def f95.l101 (k:Nat) (x0:(((List (Int × (Int × Int))) × ((List (Int × (Int × (Int × (Int × (Int × ByteArray)))))) × (List (Int × Int)))) × ((List (List Int)) × ((List (List Int)) × (Option (List ((Int × Int) × Bool))))))) (r1:(List Int)) (x1:Int):Nat → ((List Int) × Int)→Option (List Int)
 | 0,_ => none
 | m101+1,(v148,v149) => if (decide (v149 < (List.length x0.1.2.1:Int))) then (if (0≤v149∧v149 < (List.length x0.1.2.1:Int)) then (if (0≤v149∧v149 < (List.length r1:Int)) then (if (((decide (((List.getD r1 (Int.toNat v149) (0:Int)):Int) ≥ (0:Int)))=true) → (0 ≤ (List.getD x0.1.2.1 (Int.toNat v149) ((0:Int),((0:Int),((0:Int),((0:Int),((0:Int),(⟨#[]⟩:ByteArray))))))).2.1 ∧ (List.getD x0.1.2.1 (Int.toNat v149) ((0:Int),((0:Int),((0:Int),((0:Int),((0:Int),(⟨#[]⟩:ByteArray))))))).2.1 < (List.length v148:Int))) then (if ((((decide (((List.getD r1 (Int.toNat v149) (0:Int)):Int) ≥ (0:Int)))=true) ∧ ((decide (((List.getD v148 (Int.toNat (List.getD x0.1.2.1 (Int.toNat v149) ((0:Int),((0:Int),((0:Int),((0:Int),((0:Int),(⟨#[]⟩:ByteArray))))))).2.1) (0:Int)):Int) < (0:Int)))=false)) → (0≤v149∧v149 < (List.length r1:Int))) then (if ((((decide (((List.getD r1 (Int.toNat v149) (0:Int)):Int) ≥ (0:Int)))=true) ∧ ((decide (((List.getD v148 (Int.toNat (List.getD x0.1.2.1 (Int.toNat v149) ((0:Int),((0:Int),((0:Int),((0:Int),((0:Int),(⟨#[]⟩:ByteArray))))))).2.1) (0:Int)):Int) < (0:Int)))=false)) → (0 ≤ (List.getD x0.1.2.1 (Int.toNat v149) ((0:Int),((0:Int),((0:Int),((0:Int),((0:Int),(⟨#[]⟩:ByteArray))))))).2.1 ∧ (List.getD x0.1.2.1 (Int.toNat v149) ((0:Int),((0:Int),((0:Int),((0:Int),((0:Int),(⟨#[]⟩:ByteArray))))))).2.1 < (List.length v148:Int))) then ((some ((bif (decide (((List.getD r1 (Int.toNat v149) (0:Int)):Int) ≥ (0:Int))) then (bif (decide (((List.getD v148 (Int.toNat (List.getD x0.1.2.1 (Int.toNat v149) ((0:Int),((0:Int),((0:Int),((0:Int),((0:Int),(⟨#[]⟩:ByteArray))))))).2.1) (0:Int)):Int) < (0:Int))) then true else (decide (((List.getD r1 (Int.toNat v149) (0:Int)):Int) < (List.getD v148 (Int.toNat (List.getD x0.1.2.1 (Int.toNat v149) ((0:Int),((0:Int),((0:Int),((0:Int),((0:Int),(⟨#[]⟩:ByteArray))))))).2.1) (0:Int))))) else false):Bool)).bind fun v161 => (if v161 then (if (0≤v149∧v149 < (List.length r1:Int)) then (if (0 ≤ (List.getD x0.1.2.1 (Int.toNat v149) ((0:Int),((0:Int),((0:Int),((0:Int),((0:Int),(⟨#[]⟩:ByteArray))))))).2.1 ∧ (List.getD x0.1.2.1 (Int.toNat v149) ((0:Int),((0:Int),((0:Int),((0:Int),((0:Int),(⟨#[]⟩:ByteArray))))))).2.1 < (List.length v148:Int)) then (f95.j160 k v149 ((f95.l101 k x0 r1 x1) m101) (List.set v148 (Int.toNat (List.getD x0.1.2.1 (Int.toNat v149) ((0:Int),((0:Int),((0:Int),((0:Int),((0:Int),(⟨#[]⟩:ByteArray))))))).2.1) (List.getD r1 (Int.toNat v149) (0:Int)))) else none) else none) else (f95.j160 k v149 ((f95.l101 k x0 r1 x1) m101) v148))) else none) else none) else none) else none) else none) else (if (0≤x1∧x1 < (List.length v148:Int)) then (some (List.set v148 (Int.toNat x1) (0:Int))) else none)
def f95.l17 (k:Nat) (x0:(((List (Int × (Int × Int))) × ((List (Int × (Int × (Int × (Int × (Int × ByteArray)))))) × (List (Int × Int)))) × ((List (List Int)) × ((List (List Int)) × (Option (List ((Int × Int) × Bool))))))) (r1:(List Int)) (x1:Int):Nat → ((List Int) × Int)→Option (List Int)
 | 0,_ => none
 | m17+1,(v28,v29) => if (decide (v29 < (List.length (List.replicate (Int.toNat (List.length x0.1.1:Int)) (0:Int)):Int))) then (if (0≤v29∧v29 < (List.length v28:Int)) then ((f95.l17 k x0 r1 x1) m17 ((List.set v28 (Int.toNat v29) (-1:Int)),(IntKind.i64.wrap (v29 + (1:Int))))) else none) else (f95.l101 k x0 r1 x1 k (v28,(0:Int)))
def f95 (k:Nat) (x0:(((List (Int × (Int × Int))) × ((List (Int × (Int × (Int × (Int × (Int × ByteArray)))))) × (List (Int × Int)))) × ((List (List Int)) × ((List (List Int)) × (Option (List ((Int × Int) × Bool))))))) (x1:Int):Option (List Int):=(f157 k x0 x1).bind fun r1 => (if (0 ≤ (List.length x0.1.1:Int)∧Int.toNat (List.length x0.1.1:Int)*8≤140737488355328) then (f95.l17 k x0 r1 x1 k ((List.replicate (Int.toNat (List.length x0.1.1:Int)) (0:Int)),(0:Int))) else none)
theorem c95 (k:Nat) (x0:tN) (x1:Int) (r:(List Int)) (hF:f95 k x0 x1=some r):PCall Try.prog 95 [⟨sh20,some x0⟩,⟨iS,x1⟩] [⟨(.sl true 2 iS),r⟩]:=by
 refine pcall_intro Try.func95 rfl rfl (Nat.le_of_ble_eq_true rfl) ?_
 intro w0 Zi a w h
 rw [f95] at hF
 refine zs [0,1] h an fun a w h => ?_
 obtain ⟨r1,hr172,hF⟩:=of_bind hF
 refine zc (orcL [(12,[⟨(.sl true 2 iS),r1⟩])]) [0,1,5] h (ac (c157 k x0 x1 r1 hr172) an) fun a w h => ?_
 obtain ⟨hc171,hF⟩:=of_if hF
 refine zs [0,1,5,6] h (ac hc171 an) fun a w h => ?_
 refine wp_seq ?_
 refine zs [0,1,5,6,21,22] h an fun a w h => ?_
 refine wp_block ?_
 refine wp_loop_fuel (f95.l17 k x0 r1 x1) (fun ((v28,v29):((List Int) × Int)) => [(0,.val sh20 (some x0)),(1,.val iS x1),(5,.val (.sl true 2 iS) r1),(6,.val (.sl true 2 iS) v28),(21,.val iS (List.length (List.replicate (tZ (List.length x0.1.1:Int)) iO):Int)),(22,.val iS v29)]) (fun v h => by obtain ⟨v28,v29⟩:=v; rw [f95.l17] at h; cases h) ?_ hF (ar h [0,1,5,6,21,22])
 intro m17 v a w hF h
 obtain ⟨v28,v29⟩:=v
 rw [f95.l17] at hF
 refine zs [0,1,5,6,21,22,23] h an fun a w h => ?_
 refine wp_seq <| zi h hF (fun hF => ?_) (fun hF => ?_)
 ·refine wp_skip ?_
  refine wp_seq <| wp_block ?_
  refine zs [0,1,5,6,7,21,22] h an fun a w h => ?_
  obtain ⟨hc31,hF⟩:=of_if hF
  refine zt [0,1,5,6,21,22] h (ac hc31 an) fun a w h => ?_
  refine zt [0,1,5,6,21,22] h an fun a w h => ?_
  exact ⟨((List.set v28 (tZ v29) (-1:Int)),(w64 (v29 + (1:Int)))),hF,ar h [0,1,5,6,21,22]⟩
 ·refine wp_exit ?_
  refine wp_seq ?_
  refine zs [1,5,6,33,34,35] h an fun a w h => ?_
  refine wp_block ?_
  refine wp_loop_fuel (f95.l101 k x0 r1 x1) (fun ((v148,v149):((List Int) × Int)) => [(1,.val iS x1),(5,.val (.sl true 2 iS) r1),(6,.val (.sl true 2 iS) v148),(33,.val sh17 x0.1.2.1),(34,.val iS (List.length x0.1.2.1:Int)),(35,.val iS v149)]) (fun v h => by obtain ⟨v148,v149⟩:=v; rw [f95.l101] at h; cases h) ?_ hF (ar h [1,5,6,33,34,35])
  intro m101 v a w hF h
  obtain ⟨v148,v149⟩:=v
  rw [f95.l101] at hF
  refine zs [1,5,6,33,34,35,36] h an fun a w h => ?_
  refine wp_seq <| zi h hF (fun hF => ?_) (fun hF => ?_)
  ·refine wp_skip ?_
   refine wp_mid (fun a w => ∃ v:(List Int),f95.j160 k v149 ((f95.l101 k x0 r1 x1) m101) v=some r∧Rel w0 (fun _ => False) Zi Try.f95.ntmps ((fun (v159:(List Int)) => ([(1,.val iS x1),(5,.val (.sl true 2 iS) r1),(6,.val (.sl true 2 iS) v159),(33,.val sh17 x0.1.2.1),(34,.val iS (List.length x0.1.2.1:Int)),(35,.val iS v149)]:SS)) v) a w) ?_ ?_
   ·
    refine wp_block ?_
    obtain ⟨hc169,hF⟩:=of_if hF
    refine zs [1,5,6,8,9,33,34,35] h (ac hc169 an) fun a w h => ?_
    obtain ⟨hc165,hF⟩:=of_if hF
    obtain ⟨hc166,hF⟩:=of_if hF
    obtain ⟨hc167,hF⟩:=of_if hF
    obtain ⟨hc168,hF⟩:=of_if hF
    refine wp_regy_seq tok (orc:=o0) (l:=[1,5,6,8,9,33,34,35,64]) ([],[],[],[]) 25 nw h (by kernel_rfl) (by kernel_rfl) (ac hc165 (ac hc166 (ac hc167 (ac hc168 an)))) fun a w h => ?_
    obtain ⟨v161,hv164,hF⟩:=of_bind hF
    replace h:=h.cast (S':=[(1,.val iS x1),(5,.val (.sl true 2 iS) r1),(6,.val (.sl true 2 iS) v148),(8,.val iS v149),(9,.val sh24 (some (gD x0.1.2.1 (tZ v149) zR))),(33,.val sh17 x0.1.2.1),(34,.val iS (List.length x0.1.2.1:Int)),(35,.val iS v149),(64,.val .bool v161)]) (by cases hv164; kernel_rfl)
    refine zi h hF (fun hF => ?_) (fun hF => ?_)
    ·obtain ⟨hc162,hF⟩:=of_if hF
     obtain ⟨hc163,hF⟩:=of_if hF
     refine wp_regy tok (orc:=o0) (l:=[1,5,6,33,34,35]) ([],[],[],[]) 8 nw h (by kernel_rfl) (by kernel_rfl) (ac hc162 (ac hc163 an)) fun a w h => ?_
     exact ⟨(List.set v148 (tZ (gD x0.1.2.1 (tZ v149) zR).2.1) (gD r1 (tZ v149) iO)),hF,ar h [1,5,6,33,34,35]⟩
    ·refine wp_skip ?_
     exact ⟨v148,hF,ar h [1,5,6,33,34,35]⟩
   ·rintro a w ⟨v159,hF,h⟩
    rw [f95.j160] at hF
    refine zt [1,5,6,33,34,35] h an fun a w h => ?_
    exact ⟨(v159,(w64 (v149 + (1:Int)))),hF,ar h [1,5,6,33,34,35]⟩
  ·refine wp_exit ?_
   obtain ⟨hc170,hF⟩:=of_if hF
   refine zs [6] h (ac hc170 an) fun a w h => ?_
   refine zs [4,6] h an fun a w h => ?_
   cases hF
   exact wp_ret (ret_okR tok h rfl (by kernel_rfl)).1
def f97 (k:Nat) (x0:Int) (x1:Int) (x2_0:(List (Int × Int))):Option Bool:=if (0≤x0∧x0 < (List.length x2_0:Int)) then (if (0≤x1∧x1 < (List.length x2_0:Int)) then (some (decide (((List.getD x2_0 (Int.toNat x0) ((0:Int),(0:Int))).2:Int) < (List.getD x2_0 (Int.toNat x1) ((0:Int),(0:Int))).2))) else none) else none
theorem c97 (k:Nat) (x0:Int) (x1:Int) (x2_0:(List (Int × Int))) (r:Bool) (hF:f97 k x0 x1 x2_0=some r):PCall Try.prog 97 [⟨iS,x0⟩,⟨iS,x1⟩,⟨sh26,(some x2_0)⟩] [⟨.bool,r⟩]:=by
 refine pcall_intro Try.func97 rfl rfl (Nat.le_of_ble_eq_true rfl) ?_
 intro w0 Zi a w h
 rw [f97] at hF
 refine zs [0,1,2] h an fun a w h => ?_
 obtain ⟨hc1,hF⟩:=of_if hF
 obtain ⟨hc2,hF⟩:=of_if hF
 refine wp_regy_seq tok (orc:=o0) (l:=[5]) ([],[],[],[]) 12 nw h (by kernel_rfl) (by kernel_rfl) (ac hc1 (ac hc2 an)) fun a w h => ?_
 cases hF
 exact wp_ret (ret_okR tok h rfl (by kernel_rfl)).1
def H97:Prop:=∀ (k:Nat),LessOk (α:=(Int × Int)) (Sh.dflt sh5) (fun (ys:List (Int × Int)) (i j:Int) => f97 k i j ys)
def f43.j56 (k:Nat) (v52:Int) (q32:((List (Int × Int)) × Int)→Option (List (Int × Int))):(List (Int × Int))→Option (List (Int × Int))
 | v55 => q32 (v55,(IntKind.i64.wrap (v52 + (1:Int))))
def f43.l32 (k:Nat) (r4:(List Int)) (x2:Int):Nat → ((List (Int × Int)) × Int)→Option (List (Int × Int))
 | 0,_ => none
 | m32+1,(v51,v52) => if (decide (v52 < (List.length r4:Int))) then (if (0≤v52∧v52 < (List.length r4:Int)) then (if (bif (decide (((List.getD r4 (Int.toNat v52) (0:Int)):Int) ≥ (0:Int))) then (decide (((List.getD r4 (Int.toNat v52) (0:Int)):Int)≤x2)) else false) then (if ((List.length v51+List.length [(v52,(List.getD r4 (Int.toNat v52) (0:Int)))])*16≤140737488355328) then (f43.j56 k v52 ((f43.l32 k r4 x2) m32) (List.append v51 [(v52,(List.getD r4 (Int.toNat v52) (0:Int)))])) else none) else (f43.j56 k v52 ((f43.l32 k r4 x2) m32) v51)) else none) else (if (List.length v51 < 2305843009213693952) then (some (sortR (α:=(Int × Int)) Go.Proofs.Ytnpaokckkbhdjaa.S.stbR (Sh.dflt sh5) (ofLess (fun (ys:List (Int × Int)) (i j:Int) => f97 k i j ys)) v51)) else none)
def f43 (k:Nat) (x0:((List (Int × (Int × Int))) × ((List (Int × (Int × (Int × (Int × (Int × ByteArray)))))) × (List (Int × Int))))) (x1:Int) (x2:Int):Option (List (Int × Int)):=(f92 k x0).bind fun r1 => (if (!r1) then (some ([]:(List (Int × Int)))) else ((f93 k x0).bind fun r2 => ((f94 k r2 x1).bind fun r3 => (if (!r3) then (some ([]:(List (Int × Int)))) else ((f95 k r2 x1).bind fun r4 => (f43.l32 k r4 x2 k (([]:(List (Int × Int))),(0:Int))))))))
theorem c43 (k:Nat) (x0:tG) (x1:Int) (x2:Int) (h97:H97) (r:(List (Int × Int))) (hF:f43 k x0 x1 x2=some r):PCall Try.prog 43 [⟨sh12,x0⟩,⟨iS,x1⟩,⟨iS,x2⟩] [⟨sh15,r⟩]:=by
 refine pcall_intro Try.func43 rfl rfl (Nat.le_of_ble_eq_true rfl) ?_
 intro w0 Zi a w h
 rw [f43] at hF
 refine zs [1,2,3] h an fun a w h => ?_
 refine wp_seq ?_
 obtain ⟨r1,hr63,hF⟩:=of_bind hF
 refine zc (orcL [(12,[⟨.bool,r1⟩])]) [1,2,3,13] h (ac (c92 k x0 r1 hr63) an) fun a w h => ?_
 refine zi h hF (fun hF => ?_) (fun hF => ?_)
 ·refine zs [6] h an fun a w h => ?_
  cases hF
  exact wp_ret (ret_okR tok h rfl (by kernel_rfl)).1
 ·refine wp_skip ?_
  obtain ⟨r2,hr62,hF⟩:=of_bind hF
  refine zc (orcL [(15,[⟨sh19,some r2⟩])]) [1,2,7] h (ac (c93 k x0 r2 hr62) an) fun a w h => ?_
  refine wp_seq ?_
  obtain ⟨r3,hr61,hF⟩:=of_bind hF
  refine zc (orcL [(18,[⟨.bool,r3⟩])]) [1,2,7,19] h (ac (c94 k r2 x1 r3 hr61) an) fun a w h => ?_
  refine zi h hF (fun hF => ?_) (fun hF => ?_)
  ·refine zs [6] h an fun a w h => ?_
   cases hF
   exact wp_ret (ret_okR tok h rfl (by kernel_rfl)).1
  ·refine wp_skip ?_
   refine zs [1,2,7,8] h an fun a w h => ?_
   refine wp_seq ?_
   obtain ⟨r4,hr60,hF⟩:=of_bind hF
   refine zc (orcL [(22,[⟨(.sl true 2 iS),r4⟩])]) [2,8,22,23,24] h (ac (c95 k r2 x1 r4 hr60) an) fun a w h => ?_
   refine wp_block ?_
   refine wp_loop_fuel (f43.l32 k r4 x2) (fun ((v51,v52):((List (Int × Int)) × Int)) => [(2,.val iS x2),(8,.val sh25 (some v51)),(22,.val (.sl true 2 iS) r4),(23,.val iS (List.length r4:Int)),(24,.val iS v52)]) (fun v h => by obtain ⟨v51,v52⟩:=v; rw [f43.l32] at h; cases h) ?_ hF (ar h [2,8,22,23,24])
   intro m32 v a w hF h
   obtain ⟨v51,v52⟩:=v
   rw [f43.l32] at hF
   refine zs [2,8,22,23,24,25] h an fun a w h => ?_
   refine wp_seq <| zi h hF (fun hF => ?_) (fun hF => ?_)
   ·refine wp_skip ?_
    refine wp_mid (fun a w => ∃ v:(List (Int × Int)),f43.j56 k v52 ((f43.l32 k r4 x2) m32) v=some r∧Rel w0 (fun _ => False) Zi Try.f43.ntmps ((fun (v55:(List (Int × Int))) => ([(2,.val iS x2),(8,.val sh25 (some v55)),(22,.val (.sl true 2 iS) r4),(23,.val iS (List.length r4:Int)),(24,.val iS v52)]:SS)) v) a w) ?_ ?_
    ·
     refine wp_block ?_
     obtain ⟨hc58,hF⟩:=of_if hF
     refine zs [2,8,9,10,22,23,24] h (ac hc58 an) fun a w h => ?_
     refine zs [2,8,9,10,22,23,24,35] h an fun a w h => ?_
     refine zi h hF (fun hF => ?_) (fun hF => ?_)
     ·obtain ⟨hc57,hF⟩:=of_if hF
      refine zd (orcL [(41,[⟨.pt false 4294967293 .unit,some ()⟩])]) [2,8,22,23,24] h (ac (PrefL.mk (l:=[[.der]]) (p:=[.der]) rfl) (ac hc57 (ac (show ([.der]:Path)=[.der] from rfl) an))) fun a w h => ?_
      exact ⟨(List.append v51 [(v52,(gD r4 (tZ v52) iO))]),hF,ar h [2,8,22,23,24]⟩
     ·refine wp_skip ?_
      exact ⟨v51,hF,ar h [2,8,22,23,24]⟩
    ·rintro a w ⟨v55,hF,h⟩
     rw [f43.j56] at hF
     refine zt [2,8,22,23,24] h an fun a w h => ?_
     exact ⟨(v55,(w64 (v52 + (1:Int)))),hF,ar h [2,8,22,23,24]⟩
   ·refine wp_exit ?_
    obtain ⟨hc59,hF⟩:=of_if hF
    refine wp_sort_seq tok (fs:=96) (te:=128) (g:=97) (e:=sh5) (res:=Go.Proofs.Ytnpaokckkbhdjaa.S.stbR) (cap:=#[.tmp 8]) (cl:=[8]) (f:=(fun (ys:List (Int × Int)) (i j:Int) => f97 k i j ys)) Go.Proofs.Ytnpaokckkbhdjaa.S.sc96_65 h rfl rfl rfl rfl rfl rfl rfl rfl rfl rfl rfl rfl rfl rfl (by kernel_rfl) (by kernel_rfl) (by kernel_rfl) rfl (by kernel_rfl) (by kernel_rfl) hc59 ⟨_,Try.func96,rfl,rfl⟩ ⟨_,Try.func97,rfl,rfl⟩ (h97 k) (fun ys => ⟨[(8,[])],[⟨sh26,(some ys)⟩],by kernel_rfl,by kernel_rfl,fun i j r hr => c97 k i j ys r hr⟩) fun a w h => ?_
    replace h:=h.only [8] (by kernel_rfl)
    refine zs [6,8] h an fun a w h => ?_
    cases hF
    exact wp_ret (ret_okR tok h rfl (by kernel_rfl)).1
def f98 (k:Nat) (x0:(Int × Int)) (x1:(Int × Int)):Option Bool:=if (x0.1 != x1.1) then (some false) else (if (x0.2 != x1.2) then (some false) else (some true))
theorem c98 (k:Nat) (x0:(Int × Int)) (x1:(Int × Int)) (r:Bool) (hF:f98 k x0 x1=some r):PCall Try.prog 98 [⟨sh5,x0⟩,⟨sh5,x1⟩] [⟨.bool,r⟩]:=by
 refine pcall_intro Try.func98 rfl rfl (Nat.le_of_ble_eq_true rfl) ?_
 intro w0 Zi a w h
 rw [f98] at hF
 refine zs [2,3] h an fun a w h => ?_
 refine wp_seq ?_
 refine zs [2,3,9] h an fun a w h => ?_
 refine zi h hF (fun hF => ?_) (fun hF => ?_)
 ·refine zs [4] h an fun a w h => ?_
  cases hF
  exact wp_ret (ret_okR tok h rfl (by kernel_rfl)).1
 ·refine wp_skip ?_
  refine wp_seq ?_
  refine zs [14] h an fun a w h => ?_
  refine zi h hF (fun hF => ?_) (fun hF => ?_)
  ·refine zs [4] h an fun a w h => ?_
   cases hF
   exact wp_ret (ret_okR tok h rfl (by kernel_rfl)).1
  ·refine wp_skip ?_
   refine zs [4] h an fun a w h => ?_
   cases hF
   exact wp_ret (ret_okR tok h rfl (by kernel_rfl)).1
def f44.l30 (k:Nat) (x0:(List (Int × Int))) (x1:(List (Int × Int))):Nat→Int→Option Bool
 | 0,_ => none
 | m30+1,v50 => if (decide (v50 < (List.length x0:Int))) then (if (0≤v50∧v50 < (List.length x0:Int)) then (if (0≤v50∧v50 < (List.length x1:Int)) then ((f98 k (List.getD x0 (Int.toNat v50) ((0:Int),(0:Int))) (List.getD x1 (Int.toNat v50) ((0:Int),(0:Int)))).bind fun r55 => (if (!r55) then (some false) else ((f44.l30 k x0 x1) m30 (IntKind.i64.wrap (v50 + (1:Int)))))) else none) else none) else (some true)
def f44 (k:Nat) (x0:(List (Int × Int))) (x1:(List (Int × Int))):Option Bool:=if (((List.length x0:Int):Int) != (List.length x1:Int)) then (some false) else (f44.l30 k x0 x1 k (0:Int))
theorem c44 (k:Nat) (x0:(List (Int × Int))) (x1:(List (Int × Int))) (r:Bool) (hF:f44 k x0 x1=some r):PCall Try.prog 44 [⟨sh27,x0⟩,⟨sh27,x1⟩] [⟨.bool,r⟩]:=by
 refine pcall_intro Try.func44 rfl rfl (Nat.le_of_ble_eq_true rfl) ?_
 intro w0 Zi a w h
 rw [f44] at hF
 refine zs [0,1] h an fun a w h => ?_
 refine wp_seq ?_
 refine zs [0,1,10] h an fun a w h => ?_
 refine zi h hF (fun hF => ?_) (fun hF => ?_)
 ·refine zs [4] h an fun a w h => ?_
  cases hF
  exact wp_ret (ret_okR tok h rfl (by kernel_rfl)).1
 ·refine wp_skip ?_
  refine wp_seq ?_
  refine zs [0,1,5] h an fun a w h => ?_
  refine wp_block ?_
  refine wp_loop_fuel (f44.l30 k x0 x1) (fun v50 => [(0,.val sh27 x0),(1,.val sh27 x1),(5,.val iS v50)]) (fun v h => by rw [f44.l30] at h; cases h) ?_ hF (ar h [0,1,5])
  intro m30 v50 a w hF h
  rw [f44.l30] at hF
  refine wp_seq ?_
  refine zs [0,1,5,14] h an fun a w h => ?_
  refine zi h hF (fun hF => ?_) (fun hF => ?_)
  ·refine wp_skip ?_
   refine wp_seq <| wp_block ?_
   obtain ⟨hc56,hF⟩:=of_if hF
   obtain ⟨hc57,hF⟩:=of_if hF
   obtain ⟨r55,hr58,hF⟩:=of_bind hF
   refine wp_regy_seq tok (orc:=orcL [(25,[⟨.bool,r55⟩])]) (l:=[0,1,5,26]) ([],[],[],[]) 10 nw h (by kernel_rfl) (by kernel_rfl) (ac hc56 (ac hc57 (ac (c98 k (gD x0 (tZ v50) (iO,iO)) (gD x1 (tZ v50) (iO,iO)) r55 hr58) an))) fun a w h => ?_
   refine zi h hF (fun hF => ?_) (fun hF => ?_)
   ·refine zs [4] h an fun a w h => ?_
    cases hF
    exact wp_ret (ret_okR tok h rfl (by kernel_rfl)).1
   ·refine wp_skip ?_
    refine zt [0,1,5] h an fun a w h => ?_
    exact ⟨(w64 (v50 + (1:Int))),hF,ar h [0,1,5]⟩
  ·refine wp_exit ?_
   refine zs [4] h an fun a w h => ?_
   cases hF
   exact wp_ret (ret_okR tok h rfl (by kernel_rfl)).1
def f143 (k:Nat) (x0:(Int × Int)) (x1:(Int × Int)):Option Bool:=if (x0.1 != x1.1) then (some false) else (if (x0.2 != x1.2) then (some false) else (some true))
theorem c143 (k:Nat) (x0:(Int × Int)) (x1:(Int × Int)) (r:Bool) (hF:f143 k x0 x1=some r):PCall Try.prog 143 [⟨sh5,x0⟩,⟨sh5,x1⟩] [⟨.bool,r⟩]:=by
 refine pcall_intro Try.func143 rfl rfl (Nat.le_of_ble_eq_true rfl) ?_
 intro w0 Zi a w h
 rw [f143] at hF
 refine zs [2,3] h an fun a w h => ?_
 refine wp_seq ?_
 refine zs [2,3,9] h an fun a w h => ?_
 refine zi h hF (fun hF => ?_) (fun hF => ?_)
 ·refine zs [4] h an fun a w h => ?_
  cases hF
  exact wp_ret (ret_okR tok h rfl (by kernel_rfl)).1
 ·refine wp_skip ?_
  refine wp_seq ?_
  refine zs [14] h an fun a w h => ?_
  refine zi h hF (fun hF => ?_) (fun hF => ?_)
  ·refine zs [4] h an fun a w h => ?_
   cases hF
   exact wp_ret (ret_okR tok h rfl (by kernel_rfl)).1
  ·refine wp_skip ?_
   refine zs [4] h an fun a w h => ?_
   cases hF
   exact wp_ret (ret_okR tok h rfl (by kernel_rfl)).1
def f159 (k:Nat) (x0:(Int × (Int × Int))) (x1:(Int × (Int × Int))):Option Bool:=if (x0.1 != x1.1) then (some false) else ((f143 k x0.2 x1.2).bind fun r1 => (if (!r1) then (some false) else (some true)))
theorem c159 (k:Nat) (x0:(Int × (Int × Int))) (x1:(Int × (Int × Int))) (r:Bool) (hF:f159 k x0 x1=some r):PCall Try.prog 159 [⟨sh6,x0⟩,⟨sh6,x1⟩] [⟨.bool,r⟩]:=by
 refine pcall_intro Try.func159 rfl rfl (Nat.le_of_ble_eq_true rfl) ?_
 intro w0 Zi a w h
 rw [f159] at hF
 refine zs [2,3] h an fun a w h => ?_
 refine wp_seq ?_
 refine zs [2,3,9] h an fun a w h => ?_
 refine zi h hF (fun hF => ?_) (fun hF => ?_)
 ·refine zs [4] h an fun a w h => ?_
  cases hF
  exact wp_ret (ret_okR tok h rfl (by kernel_rfl)).1
 ·refine wp_skip ?_
  refine wp_seq ?_
  obtain ⟨r1,hr2,hF⟩:=of_bind hF
  refine zc (orcL [(14,[⟨.bool,r1⟩])]) [15] h (ac (c143 k x0.2 x1.2 r1 hr2) an) fun a w h => ?_
  refine zi h hF (fun hF => ?_) (fun hF => ?_)
  ·refine zs [4] h an fun a w h => ?_
   cases hF
   exact wp_ret (ret_okR tok h rfl (by kernel_rfl)).1
  ·refine wp_skip ?_
   refine zs [4] h an fun a w h => ?_
   cases hF
   exact wp_ret (ret_okR tok h rfl (by kernel_rfl)).1
def f99.l30 (k:Nat) (x0:(List (Int × (Int × Int)))) (x1:(List (Int × (Int × Int)))):Nat→Int→Option Bool
 | 0,_ => none
 | m30+1,v50 => if (decide (v50 < (List.length x0:Int))) then (if (0≤v50∧v50 < (List.length x0:Int)) then (if (0≤v50∧v50 < (List.length x1:Int)) then ((f159 k (List.getD x0 (Int.toNat v50) ((0:Int),((0:Int),(0:Int)))) (List.getD x1 (Int.toNat v50) ((0:Int),((0:Int),(0:Int))))).bind fun r55 => (if (!r55) then (some false) else ((f99.l30 k x0 x1) m30 (IntKind.i64.wrap (v50 + (1:Int)))))) else none) else none) else (some true)
def f99 (k:Nat) (x0:(List (Int × (Int × Int)))) (x1:(List (Int × (Int × Int)))):Option Bool:=if (((List.length x0:Int):Int) != (List.length x1:Int)) then (some false) else (f99.l30 k x0 x1 k (0:Int))
theorem c99 (k:Nat) (x0:(List (Int × (Int × Int)))) (x1:(List (Int × (Int × Int)))) (r:Bool) (hF:f99 k x0 x1=some r):PCall Try.prog 99 [⟨sh16,x0⟩,⟨sh16,x1⟩] [⟨.bool,r⟩]:=by
 refine pcall_intro Try.func99 rfl rfl (Nat.le_of_ble_eq_true rfl) ?_
 intro w0 Zi a w h
 rw [f99] at hF
 refine zs [0,1] h an fun a w h => ?_
 refine wp_seq ?_
 refine zs [0,1,10] h an fun a w h => ?_
 refine zi h hF (fun hF => ?_) (fun hF => ?_)
 ·refine zs [4] h an fun a w h => ?_
  cases hF
  exact wp_ret (ret_okR tok h rfl (by kernel_rfl)).1
 ·refine wp_skip ?_
  refine wp_seq ?_
  refine zs [0,1,5] h an fun a w h => ?_
  refine wp_block ?_
  refine wp_loop_fuel (f99.l30 k x0 x1) (fun v50 => [(0,.val sh16 x0),(1,.val sh16 x1),(5,.val iS v50)]) (fun v h => by rw [f99.l30] at h; cases h) ?_ hF (ar h [0,1,5])
  intro m30 v50 a w hF h
  rw [f99.l30] at hF
  refine wp_seq ?_
  refine zs [0,1,5,14] h an fun a w h => ?_
  refine zi h hF (fun hF => ?_) (fun hF => ?_)
  ·refine wp_skip ?_
   refine wp_seq <| wp_block ?_
   obtain ⟨hc56,hF⟩:=of_if hF
   obtain ⟨hc57,hF⟩:=of_if hF
   obtain ⟨r55,hr58,hF⟩:=of_bind hF
   refine wp_regy_seq tok (orc:=orcL [(25,[⟨.bool,r55⟩])]) (l:=[0,1,5,26]) ([],[],[],[]) 10 nw h (by kernel_rfl) (by kernel_rfl) (ac hc56 (ac hc57 (ac (c159 k (gD x0 (tZ v50) (iO,(iO,iO))) (gD x1 (tZ v50) (iO,(iO,iO))) r55 hr58) an))) fun a w h => ?_
   refine zi h hF (fun hF => ?_) (fun hF => ?_)
   ·refine zs [4] h an fun a w h => ?_
    cases hF
    exact wp_ret (ret_okR tok h rfl (by kernel_rfl)).1
   ·refine wp_skip ?_
    refine zt [0,1,5] h an fun a w h => ?_
    exact ⟨(w64 (v50 + (1:Int))),hF,ar h [0,1,5]⟩
  ·refine wp_exit ?_
   refine zs [4] h an fun a w h => ?_
   cases hF
   exact wp_ret (ret_okR tok h rfl (by kernel_rfl)).1
def f160 (k:Nat) (x0:(Int × (Int × (Int × (Int × (Int × ByteArray)))))) (x1:(Int × (Int × (Int × (Int × (Int × ByteArray)))))):Option Bool:=if (x0.1 != x1.1) then (some false) else (if (x0.2.1 != x1.2.1) then (some false) else (if (x0.2.2.1 != x1.2.2.1) then (some false) else (if (x0.2.2.2.1 != x1.2.2.2.1) then (some false) else (if (x0.2.2.2.2.1 != x1.2.2.2.2.1) then (some false) else (if (!(ByteArray.toList x0.2.2.2.2.2 == ByteArray.toList x1.2.2.2.2.2)) then (some false) else (some true))))))
theorem c160 (k:Nat) (x0:(Int × (Int × (Int × (Int × (Int × ByteArray)))))) (x1:(Int × (Int × (Int × (Int × (Int × ByteArray)))))) (r:Bool) (hF:f160 k x0 x1=some r):PCall Try.prog 160 [⟨sh1,x0⟩,⟨sh1,x1⟩] [⟨.bool,r⟩]:=by
 refine pcall_intro Try.func160 rfl rfl (Nat.le_of_ble_eq_true rfl) ?_
 intro w0 Zi a w h
 rw [f160] at hF
 refine zs [2,3] h an fun a w h => ?_
 refine wp_seq ?_
 refine zs [2,3,9] h an fun a w h => ?_
 refine zi h hF (fun hF => ?_) (fun hF => ?_)
 ·refine zs [4] h an fun a w h => ?_
  cases hF
  exact wp_ret (ret_okR tok h rfl (by kernel_rfl)).1
 ·refine wp_skip ?_
  refine wp_seq ?_
  refine zs [2,3,14] h an fun a w h => ?_
  refine zi h hF (fun hF => ?_) (fun hF => ?_)
  ·refine zs [4] h an fun a w h => ?_
   cases hF
   exact wp_ret (ret_okR tok h rfl (by kernel_rfl)).1
  ·refine wp_skip ?_
   refine wp_seq ?_
   refine zs [2,3,19] h an fun a w h => ?_
   refine zi h hF (fun hF => ?_) (fun hF => ?_)
   ·refine zs [4] h an fun a w h => ?_
    cases hF
    exact wp_ret (ret_okR tok h rfl (by kernel_rfl)).1
   ·refine wp_skip ?_
    refine wp_seq ?_
    refine zs [2,3,24] h an fun a w h => ?_
    refine zi h hF (fun hF => ?_) (fun hF => ?_)
    ·refine zs [4] h an fun a w h => ?_
     cases hF
     exact wp_ret (ret_okR tok h rfl (by kernel_rfl)).1
    ·refine wp_skip ?_
     refine wp_seq ?_
     refine zs [2,3,29] h an fun a w h => ?_
     refine zi h hF (fun hF => ?_) (fun hF => ?_)
     ·refine zs [4] h an fun a w h => ?_
      cases hF
      exact wp_ret (ret_okR tok h rfl (by kernel_rfl)).1
     ·refine wp_skip ?_
      refine wp_seq ?_
      refine zs [34] h an fun a w h => ?_
      refine zi h hF (fun hF => ?_) (fun hF => ?_)
      ·refine zs [4] h an fun a w h => ?_
       cases hF
       exact wp_ret (ret_okR tok h rfl (by kernel_rfl)).1
      ·refine wp_skip ?_
       refine zs [4] h an fun a w h => ?_
       cases hF
       exact wp_ret (ret_okR tok h rfl (by kernel_rfl)).1
def f100.l30 (k:Nat) (x0:(List (Int × (Int × (Int × (Int × (Int × ByteArray))))))) (x1:(List (Int × (Int × (Int × (Int × (Int × ByteArray))))))):Nat→Int→Option Bool
 | 0,_ => none
 | m30+1,v50 => if (decide (v50 < (List.length x0:Int))) then (if (0≤v50∧v50 < (List.length x0:Int)) then (if (0≤v50∧v50 < (List.length x1:Int)) then ((f160 k (List.getD x0 (Int.toNat v50) ((0:Int),((0:Int),((0:Int),((0:Int),((0:Int),(⟨#[]⟩:ByteArray))))))) (List.getD x1 (Int.toNat v50) ((0:Int),((0:Int),((0:Int),((0:Int),((0:Int),(⟨#[]⟩:ByteArray)))))))).bind fun r55 => (if (!r55) then (some false) else ((f100.l30 k x0 x1) m30 (IntKind.i64.wrap (v50 + (1:Int)))))) else none) else none) else (some true)
def f100 (k:Nat) (x0:(List (Int × (Int × (Int × (Int × (Int × ByteArray))))))) (x1:(List (Int × (Int × (Int × (Int × (Int × ByteArray))))))):Option Bool:=if (((List.length x0:Int):Int) != (List.length x1:Int)) then (some false) else (f100.l30 k x0 x1 k (0:Int))
theorem c100 (k:Nat) (x0:(List (Int × (Int × (Int × (Int × (Int × ByteArray))))))) (x1:(List (Int × (Int × (Int × (Int × (Int × ByteArray))))))) (r:Bool) (hF:f100 k x0 x1=some r):PCall Try.prog 100 [⟨sh17,x0⟩,⟨sh17,x1⟩] [⟨.bool,r⟩]:=by
 refine pcall_intro Try.func100 rfl rfl (Nat.le_of_ble_eq_true rfl) ?_
 intro w0 Zi a w h
 rw [f100] at hF
 refine zs [0,1] h an fun a w h => ?_
 refine wp_seq ?_
 refine zs [0,1,10] h an fun a w h => ?_
 refine zi h hF (fun hF => ?_) (fun hF => ?_)
 ·refine zs [4] h an fun a w h => ?_
  cases hF
  exact wp_ret (ret_okR tok h rfl (by kernel_rfl)).1
 ·refine wp_skip ?_
  refine wp_seq ?_
  refine zs [0,1,5] h an fun a w h => ?_
  refine wp_block ?_
  refine wp_loop_fuel (f100.l30 k x0 x1) (fun v50 => [(0,.val sh17 x0),(1,.val sh17 x1),(5,.val iS v50)]) (fun v h => by rw [f100.l30] at h; cases h) ?_ hF (ar h [0,1,5])
  intro m30 v50 a w hF h
  rw [f100.l30] at hF
  refine wp_seq ?_
  refine zs [0,1,5,14] h an fun a w h => ?_
  refine zi h hF (fun hF => ?_) (fun hF => ?_)
  ·refine wp_skip ?_
   refine wp_seq <| wp_block ?_
   obtain ⟨hc56,hF⟩:=of_if hF
   obtain ⟨hc57,hF⟩:=of_if hF
   obtain ⟨r55,hr58,hF⟩:=of_bind hF
   refine wp_regy_seq tok (orc:=orcL [(25,[⟨.bool,r55⟩])]) (l:=[0,1,5,26]) ([],[],[],[]) 10 nw h (by kernel_rfl) (by kernel_rfl) (ac hc56 (ac hc57 (ac (c160 k (gD x0 (tZ v50) zR) (gD x1 (tZ v50) zR) r55 hr58) an))) fun a w h => ?_
   refine zi h hF (fun hF => ?_) (fun hF => ?_)
   ·refine zs [4] h an fun a w h => ?_
    cases hF
    exact wp_ret (ret_okR tok h rfl (by kernel_rfl)).1
   ·refine wp_skip ?_
    refine zt [0,1,5] h an fun a w h => ?_
    exact ⟨(w64 (v50 + (1:Int))),hF,ar h [0,1,5]⟩
  ·refine wp_exit ?_
   refine zs [4] h an fun a w h => ?_
   cases hF
   exact wp_ret (ret_okR tok h rfl (by kernel_rfl)).1
def f161 (k:Nat) (x0:(Int × Int)) (x1:(Int × Int)):Option Bool:=if (x0.1 != x1.1) then (some false) else (if (x0.2 != x1.2) then (some false) else (some true))
theorem c161 (k:Nat) (x0:(Int × Int)) (x1:(Int × Int)) (r:Bool) (hF:f161 k x0 x1=some r):PCall Try.prog 161 [⟨sh5,x0⟩,⟨sh5,x1⟩] [⟨.bool,r⟩]:=by
 refine pcall_intro Try.func161 rfl rfl (Nat.le_of_ble_eq_true rfl) ?_
 intro w0 Zi a w h
 rw [f161] at hF
 refine zs [2,3] h an fun a w h => ?_
 refine wp_seq ?_
 refine zs [2,3,9] h an fun a w h => ?_
 refine zi h hF (fun hF => ?_) (fun hF => ?_)
 ·refine zs [4] h an fun a w h => ?_
  cases hF
  exact wp_ret (ret_okR tok h rfl (by kernel_rfl)).1
 ·refine wp_skip ?_
  refine wp_seq ?_
  refine zs [14] h an fun a w h => ?_
  refine zi h hF (fun hF => ?_) (fun hF => ?_)
  ·refine zs [4] h an fun a w h => ?_
   cases hF
   exact wp_ret (ret_okR tok h rfl (by kernel_rfl)).1
  ·refine wp_skip ?_
   refine zs [4] h an fun a w h => ?_
   cases hF
   exact wp_ret (ret_okR tok h rfl (by kernel_rfl)).1
def f101.l30 (k:Nat) (x0:(List (Int × Int))) (x1:(List (Int × Int))):Nat→Int→Option Bool
 | 0,_ => none
 | m30+1,v50 => if (decide (v50 < (List.length x0:Int))) then (if (0≤v50∧v50 < (List.length x0:Int)) then (if (0≤v50∧v50 < (List.length x1:Int)) then ((f161 k (List.getD x0 (Int.toNat v50) ((0:Int),(0:Int))) (List.getD x1 (Int.toNat v50) ((0:Int),(0:Int)))).bind fun r55 => (if (!r55) then (some false) else ((f101.l30 k x0 x1) m30 (IntKind.i64.wrap (v50 + (1:Int)))))) else none) else none) else (some true)
def f101 (k:Nat) (x0:(List (Int × Int))) (x1:(List (Int × Int))):Option Bool:=if (((List.length x0:Int):Int) != (List.length x1:Int)) then (some false) else (f101.l30 k x0 x1 k (0:Int))
theorem c101 (k:Nat) (x0:(List (Int × Int))) (x1:(List (Int × Int))) (r:Bool) (hF:f101 k x0 x1=some r):PCall Try.prog 101 [⟨sh18,x0⟩,⟨sh18,x1⟩] [⟨.bool,r⟩]:=by
 refine pcall_intro Try.func101 rfl rfl (Nat.le_of_ble_eq_true rfl) ?_
 intro w0 Zi a w h
 rw [f101] at hF
 refine zs [0,1] h an fun a w h => ?_
 refine wp_seq ?_
 refine zs [0,1,10] h an fun a w h => ?_
 refine zi h hF (fun hF => ?_) (fun hF => ?_)
 ·refine zs [4] h an fun a w h => ?_
  cases hF
  exact wp_ret (ret_okR tok h rfl (by kernel_rfl)).1
 ·refine wp_skip ?_
  refine wp_seq ?_
  refine zs [0,1,5] h an fun a w h => ?_
  refine wp_block ?_
  refine wp_loop_fuel (f101.l30 k x0 x1) (fun v50 => [(0,.val sh18 x0),(1,.val sh18 x1),(5,.val iS v50)]) (fun v h => by rw [f101.l30] at h; cases h) ?_ hF (ar h [0,1,5])
  intro m30 v50 a w hF h
  rw [f101.l30] at hF
  refine wp_seq ?_
  refine zs [0,1,5,14] h an fun a w h => ?_
  refine zi h hF (fun hF => ?_) (fun hF => ?_)
  ·refine wp_skip ?_
   refine wp_seq <| wp_block ?_
   obtain ⟨hc56,hF⟩:=of_if hF
   obtain ⟨hc57,hF⟩:=of_if hF
   obtain ⟨r55,hr58,hF⟩:=of_bind hF
   refine wp_regy_seq tok (orc:=orcL [(25,[⟨.bool,r55⟩])]) (l:=[0,1,5,26]) ([],[],[],[]) 10 nw h (by kernel_rfl) (by kernel_rfl) (ac hc56 (ac hc57 (ac (c161 k (gD x0 (tZ v50) (iO,iO)) (gD x1 (tZ v50) (iO,iO)) r55 hr58) an))) fun a w h => ?_
   refine zi h hF (fun hF => ?_) (fun hF => ?_)
   ·refine zs [4] h an fun a w h => ?_
    cases hF
    exact wp_ret (ret_okR tok h rfl (by kernel_rfl)).1
   ·refine wp_skip ?_
    refine zt [0,1,5] h an fun a w h => ?_
    exact ⟨(w64 (v50 + (1:Int))),hF,ar h [0,1,5]⟩
  ·refine wp_exit ?_
   refine zs [4] h an fun a w h => ?_
   cases hF
   exact wp_ret (ret_okR tok h rfl (by kernel_rfl)).1
def f45 (k:Nat) (x0:((List (Int × (Int × Int))) × ((List (Int × (Int × (Int × (Int × (Int × ByteArray)))))) × (List (Int × Int))))) (x1:((List (Int × (Int × Int))) × ((List (Int × (Int × (Int × (Int × (Int × ByteArray)))))) × (List (Int × Int))))):Option Bool:=(f99 k x0.1 x1.1).bind fun r1 => (if (!r1) then (some false) else ((f100 k x0.2.1 x1.2.1).bind fun r2 => (if (!r2) then (some false) else ((f101 k x0.2.2 x1.2.2).bind fun r3 => (if (!r3) then (some false) else (some true))))))
theorem c45 (k:Nat) (x0:tG) (x1:tG) (r:Bool) (hF:f45 k x0 x1=some r):PCall Try.prog 45 [⟨sh12,x0⟩,⟨sh12,x1⟩] [⟨.bool,r⟩]:=by
 refine pcall_intro Try.func45 rfl rfl (Nat.le_of_ble_eq_true rfl) ?_
 intro w0 Zi a w h
 rw [f45] at hF
 refine zs [2,3] h an fun a w h => ?_
 refine wp_seq ?_
 obtain ⟨r1,hr6,hF⟩:=of_bind hF
 refine zc (orcL [(9,[⟨.bool,r1⟩])]) [2,3,10] h (ac (c99 k x0.1 x1.1 r1 hr6) an) fun a w h => ?_
 refine zi h hF (fun hF => ?_) (fun hF => ?_)
 ·refine zs [4] h an fun a w h => ?_
  cases hF
  exact wp_ret (ret_okR tok h rfl (by kernel_rfl)).1
 ·refine wp_skip ?_
  refine wp_seq ?_
  obtain ⟨r2,hr5,hF⟩:=of_bind hF
  refine zc (orcL [(15,[⟨.bool,r2⟩])]) [2,3,16] h (ac (c100 k x0.2.1 x1.2.1 r2 hr5) an) fun a w h => ?_
  refine zi h hF (fun hF => ?_) (fun hF => ?_)
  ·refine zs [4] h an fun a w h => ?_
   cases hF
   exact wp_ret (ret_okR tok h rfl (by kernel_rfl)).1
  ·refine wp_skip ?_
   refine wp_seq ?_
   obtain ⟨r3,hr4,hF⟩:=of_bind hF
   refine zc (orcL [(21,[⟨.bool,r3⟩])]) [22] h (ac (c101 k x0.2.2 x1.2.2 r3 hr4) an) fun a w h => ?_
   refine zi h hF (fun hF => ?_) (fun hF => ?_)
   ·refine zs [4] h an fun a w h => ?_
    cases hF
    exact wp_ret (ret_okR tok h rfl (by kernel_rfl)).1
   ·refine wp_skip ?_
    refine zs [4] h an fun a w h => ?_
    cases hF
    exact wp_ret (ret_okR tok h rfl (by kernel_rfl)).1
def f102.l44 (k:Nat):Nat → ((List (Int × (Int × Int))) × Int × Int)→Option (Int × (List (Int × (Int × Int))))
 | 0,_ => none
 | m44+1,(v74,v75,v76) => if (decide (v76 < (List.length v74:Int))) then (if (0≤v76∧v76 < (List.length v74:Int)) then (if (0≤v76∧v76 < (List.length (List.set v74 (Int.toNat v76) (v75,(List.getD v74 (Int.toNat v76) ((0:Int),((0:Int),(0:Int)))).2)):Int)) then ((some ((List.set (List.set v74 (Int.toNat v76) (v75,(List.getD v74 (Int.toNat v76) ((0:Int),((0:Int),(0:Int)))).2)) (Int.toNat v76) ((List.getD (List.set v74 (Int.toNat v76) (v75,(List.getD v74 (Int.toNat v76) ((0:Int),((0:Int),(0:Int)))).2)) (Int.toNat v76) ((0:Int),((0:Int),(0:Int)))).1,((IntKind.i64.wrap (v75 + (1:Int))),(List.getD (List.set v74 (Int.toNat v76) (v75,(List.getD v74 (Int.toNat v76) ((0:Int),((0:Int),(0:Int)))).2)) (Int.toNat v76) ((0:Int),((0:Int),(0:Int)))).2.2))):(List (Int × (Int × Int))))).bind fun v82 => (if (0≤v76∧v76 < (List.length v82:Int)) then ((f102.l44 k) m44 ((List.set v82 (Int.toNat v76) ((List.getD v82 (Int.toNat v76) ((0:Int),((0:Int),(0:Int)))).1,((List.getD v82 (Int.toNat v76) ((0:Int),((0:Int),(0:Int)))).2.1,(IntKind.i64.wrap ((IntKind.i64.wrap (v75 + (1:Int))) + (1:Int)))))),(IntKind.i64.wrap ((IntKind.i64.wrap ((IntKind.i64.wrap (v75 + (1:Int))) + (1:Int))) + (1:Int))),(IntKind.i64.wrap (v76 + (1:Int))))) else none)) else none) else none) else (some (v75,v74))
def f102 (k:Nat) (x0:(List (Int × (Int × Int)))) (x1:Int):Option (Int × (List (Int × (Int × Int)))):=f102.l44 k k (x0,x1,(0:Int))
theorem c102 (k:Nat) (x0:(List (Int × (Int × Int)))) (x1:Int) (r:(Int × (List (Int × (Int × Int))))) (hF:f102 k x0 x1=some r):PMut Try.prog 102 [⟨sh7,x0⟩,⟨iS,x1⟩] [⟨iS,r.1⟩] (List.set [⟨sh7,x0⟩,⟨iS,x1⟩] 0 ⟨sh7,r.2⟩):=by
 refine pmut_intro (j:=0) (fin:=⟨sh7,r.2⟩) Try.func102 rfl rfl (Nat.le_of_ble_eq_true rfl) (Nat.le_of_ble_eq_true rfl) (by kernel_rfl) ?_
 intro w0 Zi f0 v0 a w h
 rw [f102] at hF
 refine wp_reg_seq tok (orc:=o0) (fz:=[]) (l:=[0,1]) (.inl rfl) h (by kernel_rfl) an fun a w h => ?_
 refine wp_seq ?_
 refine wp_reg_seq tok (orc:=o0) (fz:=[]) (l:=[0,1,5]) (.inl rfl) h (by kernel_rfl) an fun a w h => ?_
 refine wp_block ?_
 refine wp_loop_fuel (f102.l44 k) (fun ((v74,v75,v76):((List (Int × (Int × Int))) × Int × Int)) => [(0,.val sh7 v74),(1,.val iS v75),(5,.val iS v76)]) (fun v h => by obtain ⟨v74,v75,v76⟩:=v; rw [f102.l44] at h; cases h) ?_ hF (h.arrive (fz:=[]) (l:=[0,1,5]) (.inl rfl) (by kernel_rfl))
 intro m44 v a w hF h
 obtain ⟨v74,v75,v76⟩:=v
 rw [f102.l44] at hF
 refine wp_seq ?_
 refine wp_reg_seq tok (orc:=o0) (fz:=[]) (l:=[0,1,5,9]) (.inl rfl) h (by kernel_rfl) an fun a w h => ?_
 refine zi h hF (fun hF => ?_) (fun hF => ?_)
 ·refine wp_skip ?_
  refine wp_seq <| wp_block ?_
  obtain ⟨hc86,hF⟩:=of_if hF
  refine wp_reg_seq tok (orc:=o0) (fz:=[]) (l:=[0,1,5]) (.inl rfl) h (by kernel_rfl) (ac hc86 an) fun a w h => ?_
  refine wp_reg_seq tok (orc:=o0) (fz:=[]) (l:=[0,1,5]) (.inl rfl) h (by kernel_rfl) an fun a w h => ?_
  obtain ⟨hc85,hF⟩:=of_if hF
  refine wp_reg_seq tok (orc:=o0) (fz:=[]) (l:=[0,1,5]) (.inl rfl) h (by kernel_rfl) (ac hc85 an) fun a w h => ?_
  obtain ⟨v82,hv84,hF⟩:=of_bind hF
  replace h:=h.cast (S':=[(0,.val sh7 v82),(1,.val iS (w64 (v75 + (1:Int)))),(5,.val iS v76)]) (by cases hv84; kernel_rfl)
  refine wp_reg_seq tok (orc:=o0) (fz:=[]) (l:=[0,1,5]) (.inl rfl) h (by kernel_rfl) an fun a w h => ?_
  obtain ⟨hc83,hF⟩:=of_if hF
  refine wp_reg_seq tok (orc:=o0) (fz:=[]) (l:=[0,1,5]) (.inl rfl) h (by kernel_rfl) (ac hc83 an) fun a w h => ?_
  refine wp_reg tok (orc:=o0) (fz:=[]) (l:=[0,1,5]) (.inl rfl) h (by kernel_rfl) an fun a w h => ?_
  refine wp_reg tok (orc:=o0) (fz:=[]) (l:=[0,1,5]) (.inl rfl) h (by kernel_rfl) an fun a w h => ?_
  exact ⟨((List.set v82 (tZ v76) ((gD v82 (tZ v76) (iO,(iO,iO))).1,((gD v82 (tZ v76) (iO,(iO,iO))).2.1,(w64 ((w64 (v75 + (1:Int))) + (1:Int)))))),(w64 ((w64 ((w64 (v75 + (1:Int))) + (1:Int))) + (1:Int))),(w64 (v76 + (1:Int)))),hF,h.arrive (fz:=[]) (l:=[0,1,5]) (.inl rfl) (by kernel_rfl)⟩
 ·refine wp_exit ?_
  refine wp_reg_seq tok (orc:=o0) (fz:=[]) (l:=[0,4]) (.inl rfl) h (by kernel_rfl) an fun a w h => ?_
  cases hF
  exact wp_ret (retM_ok tok h rfl (by kernel_rfl) (by kernel_rfl)).1
def f119.l19 (k:Nat):Nat → (Int × ByteArray)→Option ByteArray
 | 0,_ => none
 | m19+1,(v32,v33) => if (decide (v32 > (0:Int))) then (if (((10:Int):Int)≠0) then (if (ByteArray.size (strOfNums [(IntKind.u8.wrap (IntKind.i64.wrap ((48:Int) + (Int.tmod v32 (10:Int)))))])+ByteArray.size v33≤9223372036854775807) then (if (((10:Int):Int)≠0) then ((f119.l19 k) m19 ((IntKind.i64.wrap (Int.tdiv v32 (10:Int))),((strOfNums [(IntKind.u8.wrap (IntKind.i64.wrap ((48:Int) + (Int.tmod v32 (10:Int)))))]) ++ v33))) else none) else none) else none) else (if (ByteArray.size (⟨#[109]⟩:ByteArray)+ByteArray.size v33≤9223372036854775807) then (some ((⟨#[109]⟩:ByteArray) ++ v33)) else none)
def f119 (k:Nat) (x0:Int):Option ByteArray:=if (decide (x0 ≤ (0:Int))) then (some (⟨#[109,48]⟩:ByteArray)) else (f119.l19 k k (x0,(⟨#[]⟩:ByteArray)))
theorem c119 (k:Nat) (x0:Int) (r:ByteArray) (hF:f119 k x0=some r):PCall Try.prog 119 [⟨iS,x0⟩] [⟨.str,r⟩]:=by
 refine pcall_intro Try.func119 rfl rfl (Nat.le_of_ble_eq_true rfl) ?_
 intro w0 Zi a w h
 rw [f119] at hF
 refine zs [0] h an fun a w h => ?_
 refine wp_seq ?_
 refine zs [0,5] h an fun a w h => ?_
 refine zi h hF (fun hF => ?_) (fun hF => ?_)
 ·refine zs [2] h an fun a w h => ?_
  cases hF
  exact wp_ret (ret_okR tok h rfl (by kernel_rfl)).1
 ·refine wp_skip ?_
  refine zs [0,3] h an fun a w h => ?_
  refine wp_seq <| wp_block ?_
  refine wp_loop_fuel (f119.l19 k) (fun ((v32,v33):(Int × ByteArray)) => [(0,.val iS v32),(3,.val .str v33)]) (fun v h => by obtain ⟨v32,v33⟩:=v; rw [f119.l19] at h; cases h) ?_ hF (ar h [0,3])
  intro m19 v a w hF h
  obtain ⟨v32,v33⟩:=v
  rw [f119.l19] at hF
  refine wp_seq ?_
  refine zs [0,3,7] h an fun a w h => ?_
  refine zi h hF (fun hF => ?_) (fun hF => ?_)
  ·refine wp_skip ?_
   refine wp_block ?_
   obtain ⟨hc35,hF⟩:=of_if hF
   obtain ⟨hc36,hF⟩:=of_if hF
   refine zs [0,3] h (ac hc35 (ac hc36 an)) fun a w h => ?_
   obtain ⟨hc34,hF⟩:=of_if hF
   refine zt [0,3] h (ac hc34 an) fun a w h => ?_
   exact ⟨((w64 (Int.tdiv v32 (10:Int))),((strOfNums [(IntKind.u8.wrap (w64 ((48:Int) + (Int.tmod v32 (10:Int)))))]) ++ v33)),hF,ar h [0,3]⟩
  ·refine wp_exit ?_
   obtain ⟨hc37,hF⟩:=of_if hF
   refine zs [2] h (ac hc37 an) fun a w h => ?_
   cases hF
   exact wp_ret (ret_okR tok h rfl (by kernel_rfl)).1
def f103.l110 (k:Nat):Nat → ((List (Int × (Int × (Int × (Int × (Int × ByteArray)))))) × Int × Int)→Option (Int × (List (Int × (Int × (Int × (Int × (Int × ByteArray)))))))
 | 0,_ => none
 | m110+1,(v184,v185,v186) => if (decide (v186 < (List.length v184:Int))) then (if (0≤v186∧v186 < (List.length v184:Int)) then (if (0≤v186∧v186 < (List.length (List.set v184 (Int.toNat v186) (v185,(List.getD v184 (Int.toNat v186) ((0:Int),((0:Int),((0:Int),((0:Int),((0:Int),(⟨#[]⟩:ByteArray))))))).2)):Int)) then ((some ((List.set (List.set v184 (Int.toNat v186) (v185,(List.getD v184 (Int.toNat v186) ((0:Int),((0:Int),((0:Int),((0:Int),((0:Int),(⟨#[]⟩:ByteArray))))))).2)) (Int.toNat v186) ((List.getD (List.set v184 (Int.toNat v186) (v185,(List.getD v184 (Int.toNat v186) ((0:Int),((0:Int),((0:Int),((0:Int),((0:Int),(⟨#[]⟩:ByteArray))))))).2)) (Int.toNat v186) ((0:Int),((0:Int),((0:Int),((0:Int),((0:Int),(⟨#[]⟩:ByteArray))))))).1,((IntKind.i64.wrap (v185 + (1:Int))),(List.getD (List.set v184 (Int.toNat v186) (v185,(List.getD v184 (Int.toNat v186) ((0:Int),((0:Int),((0:Int),((0:Int),((0:Int),(⟨#[]⟩:ByteArray))))))).2)) (Int.toNat v186) ((0:Int),((0:Int),((0:Int),((0:Int),((0:Int),(⟨#[]⟩:ByteArray))))))).2.2))):(List (Int × (Int × (Int × (Int × (Int × ByteArray)))))))).bind fun v203 => (if (0≤v186∧v186 < (List.length v203:Int)) then (if (0≤v186∧v186 < (List.length (List.set v203 (Int.toNat v186) ((List.getD v203 (Int.toNat v186) ((0:Int),((0:Int),((0:Int),((0:Int),((0:Int),(⟨#[]⟩:ByteArray))))))).1,((List.getD v203 (Int.toNat v186) ((0:Int),((0:Int),((0:Int),((0:Int),((0:Int),(⟨#[]⟩:ByteArray))))))).2.1,((IntKind.i64.wrap ((IntKind.i64.wrap (v185 + (1:Int))) + (1:Int))),(List.getD v203 (Int.toNat v186) ((0:Int),((0:Int),((0:Int),((0:Int),((0:Int),(⟨#[]⟩:ByteArray))))))).2.2.2)))):Int)) then ((some ((List.set (List.set v203 (Int.toNat v186) ((List.getD v203 (Int.toNat v186) ((0:Int),((0:Int),((0:Int),((0:Int),((0:Int),(⟨#[]⟩:ByteArray))))))).1,((List.getD v203 (Int.toNat v186) ((0:Int),((0:Int),((0:Int),((0:Int),((0:Int),(⟨#[]⟩:ByteArray))))))).2.1,((IntKind.i64.wrap ((IntKind.i64.wrap (v185 + (1:Int))) + (1:Int))),(List.getD v203 (Int.toNat v186) ((0:Int),((0:Int),((0:Int),((0:Int),((0:Int),(⟨#[]⟩:ByteArray))))))).2.2.2)))) (Int.toNat v186) ((List.getD (List.set v203 (Int.toNat v186) ((List.getD v203 (Int.toNat v186) ((0:Int),((0:Int),((0:Int),((0:Int),((0:Int),(⟨#[]⟩:ByteArray))))))).1,((List.getD v203 (Int.toNat v186) ((0:Int),((0:Int),((0:Int),((0:Int),((0:Int),(⟨#[]⟩:ByteArray))))))).2.1,((IntKind.i64.wrap ((IntKind.i64.wrap (v185 + (1:Int))) + (1:Int))),(List.getD v203 (Int.toNat v186) ((0:Int),((0:Int),((0:Int),((0:Int),((0:Int),(⟨#[]⟩:ByteArray))))))).2.2.2)))) (Int.toNat v186) ((0:Int),((0:Int),((0:Int),((0:Int),((0:Int),(⟨#[]⟩:ByteArray))))))).1,((List.getD (List.set v203 (Int.toNat v186) ((List.getD v203 (Int.toNat v186) ((0:Int),((0:Int),((0:Int),((0:Int),((0:Int),(⟨#[]⟩:ByteArray))))))).1,((List.getD v203 (Int.toNat v186) ((0:Int),((0:Int),((0:Int),((0:Int),((0:Int),(⟨#[]⟩:ByteArray))))))).2.1,((IntKind.i64.wrap ((IntKind.i64.wrap (v185 + (1:Int))) + (1:Int))),(List.getD v203 (Int.toNat v186) ((0:Int),((0:Int),((0:Int),((0:Int),((0:Int),(⟨#[]⟩:ByteArray))))))).2.2.2)))) (Int.toNat v186) ((0:Int),((0:Int),((0:Int),((0:Int),((0:Int),(⟨#[]⟩:ByteArray))))))).2.1,((List.getD (List.set v203 (Int.toNat v186) ((List.getD v203 (Int.toNat v186) ((0:Int),((0:Int),((0:Int),((0:Int),((0:Int),(⟨#[]⟩:ByteArray))))))).1,((List.getD v203 (Int.toNat v186) ((0:Int),((0:Int),((0:Int),((0:Int),((0:Int),(⟨#[]⟩:ByteArray))))))).2.1,((IntKind.i64.wrap ((IntKind.i64.wrap (v185 + (1:Int))) + (1:Int))),(List.getD v203 (Int.toNat v186) ((0:Int),((0:Int),((0:Int),((0:Int),((0:Int),(⟨#[]⟩:ByteArray))))))).2.2.2)))) (Int.toNat v186) ((0:Int),((0:Int),((0:Int),((0:Int),((0:Int),(⟨#[]⟩:ByteArray))))))).2.2.1,((IntKind.i64.wrap ((IntKind.i64.wrap ((IntKind.i64.wrap (v185 + (1:Int))) + (1:Int))) + (1:Int))),(List.getD (List.set v203 (Int.toNat v186) ((List.getD v203 (Int.toNat v186) ((0:Int),((0:Int),((0:Int),((0:Int),((0:Int),(⟨#[]⟩:ByteArray))))))).1,((List.getD v203 (Int.toNat v186) ((0:Int),((0:Int),((0:Int),((0:Int),((0:Int),(⟨#[]⟩:ByteArray))))))).2.1,((IntKind.i64.wrap ((IntKind.i64.wrap (v185 + (1:Int))) + (1:Int))),(List.getD v203 (Int.toNat v186) ((0:Int),((0:Int),((0:Int),((0:Int),((0:Int),(⟨#[]⟩:ByteArray))))))).2.2.2)))) (Int.toNat v186) ((0:Int),((0:Int),((0:Int),((0:Int),((0:Int),(⟨#[]⟩:ByteArray))))))).2.2.2.2))))):(List (Int × (Int × (Int × (Int × (Int × ByteArray)))))))).bind fun v204 => (if (0≤v186∧v186 < (List.length v204:Int)) then ((some ((List.set v204 (Int.toNat v186) ((List.getD v204 (Int.toNat v186) ((0:Int),((0:Int),((0:Int),((0:Int),((0:Int),(⟨#[]⟩:ByteArray))))))).1,((List.getD v204 (Int.toNat v186) ((0:Int),((0:Int),((0:Int),((0:Int),((0:Int),(⟨#[]⟩:ByteArray))))))).2.1,((List.getD v204 (Int.toNat v186) ((0:Int),((0:Int),((0:Int),((0:Int),((0:Int),(⟨#[]⟩:ByteArray))))))).2.2.1,((List.getD v204 (Int.toNat v186) ((0:Int),((0:Int),((0:Int),((0:Int),((0:Int),(⟨#[]⟩:ByteArray))))))).2.2.2.1,((IntKind.i64.wrap ((IntKind.i64.wrap ((IntKind.i64.wrap ((IntKind.i64.wrap (v185 + (1:Int))) + (1:Int))) + (1:Int))) + (1:Int))),(List.getD v204 (Int.toNat v186) ((0:Int),((0:Int),((0:Int),((0:Int),((0:Int),(⟨#[]⟩:ByteArray))))))).2.2.2.2.2)))))):(List (Int × (Int × (Int × (Int × (Int × ByteArray)))))))).bind fun v205 => ((f119 k (IntKind.i64.wrap ((IntKind.i64.wrap ((IntKind.i64.wrap ((IntKind.i64.wrap ((IntKind.i64.wrap (v185 + (1:Int))) + (1:Int))) + (1:Int))) + (1:Int))) + (1:Int)))).bind fun r206 => (if (0≤v186∧v186 < (List.length v205:Int)) then ((some ((List.set v205 (Int.toNat v186) ((List.getD v205 (Int.toNat v186) ((0:Int),((0:Int),((0:Int),((0:Int),((0:Int),(⟨#[]⟩:ByteArray))))))).1,((List.getD v205 (Int.toNat v186) ((0:Int),((0:Int),((0:Int),((0:Int),((0:Int),(⟨#[]⟩:ByteArray))))))).2.1,((List.getD v205 (Int.toNat v186) ((0:Int),((0:Int),((0:Int),((0:Int),((0:Int),(⟨#[]⟩:ByteArray))))))).2.2.1,((List.getD v205 (Int.toNat v186) ((0:Int),((0:Int),((0:Int),((0:Int),((0:Int),(⟨#[]⟩:ByteArray))))))).2.2.2.1,((List.getD v205 (Int.toNat v186) ((0:Int),((0:Int),((0:Int),((0:Int),((0:Int),(⟨#[]⟩:ByteArray))))))).2.2.2.2.1,r206)))))):(List (Int × (Int × (Int × (Int × (Int × ByteArray)))))))).bind fun v207 => ((f103.l110 k) m110 (v207,(IntKind.i64.wrap ((IntKind.i64.wrap ((IntKind.i64.wrap ((IntKind.i64.wrap ((IntKind.i64.wrap ((IntKind.i64.wrap (v185 + (1:Int))) + (1:Int))) + (1:Int))) + (1:Int))) + (1:Int))) + (1:Int))),(IntKind.i64.wrap (v186 + (1:Int)))))) else none))) else none)) else none) else none)) else none) else none) else (some (v185,v184))
def f103 (k:Nat) (x0:(List (Int × (Int × (Int × (Int × (Int × ByteArray))))))) (x1:Int):Option (Int × (List (Int × (Int × (Int × (Int × (Int × ByteArray))))))):=f103.l110 k k (x0,x1,(0:Int))
theorem c103 (k:Nat) (x0:(List (Int × (Int × (Int × (Int × (Int × ByteArray))))))) (x1:Int) (r:(Int × (List (Int × (Int × (Int × (Int × (Int × ByteArray)))))))) (hF:f103 k x0 x1=some r):PMut Try.prog 103 [⟨sh8,x0⟩,⟨iS,x1⟩] [⟨iS,r.1⟩] (List.set [⟨sh8,x0⟩,⟨iS,x1⟩] 0 ⟨sh8,r.2⟩):=by
 refine pmut_intro (j:=0) (fin:=⟨sh8,r.2⟩) Try.func103 rfl rfl (Nat.le_of_ble_eq_true rfl) (Nat.le_of_ble_eq_true rfl) (by kernel_rfl) ?_
 intro w0 Zi f0 v0 a w h
 rw [f103] at hF
 refine wp_reg_seq tok (orc:=o0) (fz:=[]) (l:=[0,1]) (.inl rfl) h (by kernel_rfl) an fun a w h => ?_
 refine wp_seq ?_
 refine wp_reg_seq tok (orc:=o0) (fz:=[]) (l:=[0,1,5]) (.inl rfl) h (by kernel_rfl) an fun a w h => ?_
 refine wp_block ?_
 refine wp_loop_fuel (f103.l110 k) (fun ((v184,v185,v186):((List (Int × (Int × (Int × (Int × (Int × ByteArray)))))) × Int × Int)) => [(0,.val sh8 v184),(1,.val iS v185),(5,.val iS v186)]) (fun v h => by obtain ⟨v184,v185,v186⟩:=v; rw [f103.l110] at h; cases h) ?_ hF (h.arrive (fz:=[]) (l:=[0,1,5]) (.inl rfl) (by kernel_rfl))
 intro m110 v a w hF h
 obtain ⟨v184,v185,v186⟩:=v
 rw [f103.l110] at hF
 refine wp_seq ?_
 refine wp_reg_seq tok (orc:=o0) (fz:=[]) (l:=[0,1,5,9]) (.inl rfl) h (by kernel_rfl) an fun a w h => ?_
 refine zi h hF (fun hF => ?_) (fun hF => ?_)
 ·refine wp_skip ?_
  refine wp_seq <| wp_block ?_
  obtain ⟨hc218,hF⟩:=of_if hF
  refine wp_reg_seq tok (orc:=o0) (fz:=[]) (l:=[0,1,5]) (.inl rfl) h (by kernel_rfl) (ac hc218 an) fun a w h => ?_
  refine wp_reg_seq tok (orc:=o0) (fz:=[]) (l:=[0,1,5]) (.inl rfl) h (by kernel_rfl) an fun a w h => ?_
  obtain ⟨hc217,hF⟩:=of_if hF
  refine wp_reg_seq tok (orc:=o0) (fz:=[]) (l:=[0,1,5]) (.inl rfl) h (by kernel_rfl) (ac hc217 an) fun a w h => ?_
  obtain ⟨v203,hv216,hF⟩:=of_bind hF
  replace h:=h.cast (S':=[(0,.val sh8 v203),(1,.val iS (w64 (v185 + (1:Int)))),(5,.val iS v186)]) (by cases hv216; kernel_rfl)
  refine wp_reg_seq tok (orc:=o0) (fz:=[]) (l:=[0,1,5]) (.inl rfl) h (by kernel_rfl) an fun a w h => ?_
  obtain ⟨hc215,hF⟩:=of_if hF
  refine wp_reg_seq tok (orc:=o0) (fz:=[]) (l:=[0,1,5]) (.inl rfl) h (by kernel_rfl) (ac hc215 an) fun a w h => ?_
  refine wp_reg_seq tok (orc:=o0) (fz:=[]) (l:=[0,1,5]) (.inl rfl) h (by kernel_rfl) an fun a w h => ?_
  obtain ⟨hc214,hF⟩:=of_if hF
  refine wp_reg_seq tok (orc:=o0) (fz:=[]) (l:=[0,1,5]) (.inl rfl) h (by kernel_rfl) (ac hc214 an) fun a w h => ?_
  obtain ⟨v204,hv213,hF⟩:=of_bind hF
  replace h:=h.cast (S':=[(0,.val sh8 v204),(1,.val iS (w64 ((w64 ((w64 (v185 + (1:Int))) + (1:Int))) + (1:Int)))),(5,.val iS v186)]) (by cases hv213; kernel_rfl)
  refine wp_reg_seq tok (orc:=o0) (fz:=[]) (l:=[0,1,5]) (.inl rfl) h (by kernel_rfl) an fun a w h => ?_
  obtain ⟨hc212,hF⟩:=of_if hF
  refine wp_reg_seq tok (orc:=o0) (fz:=[]) (l:=[0,1,5]) (.inl rfl) h (by kernel_rfl) (ac hc212 an) fun a w h => ?_
  obtain ⟨v205,hv211,hF⟩:=of_bind hF
  replace h:=h.cast (S':=[(0,.val sh8 v205),(1,.val iS (w64 ((w64 ((w64 ((w64 (v185 + (1:Int))) + (1:Int))) + (1:Int))) + (1:Int)))),(5,.val iS v186)]) (by cases hv211; kernel_rfl)
  refine wp_reg_seq tok (orc:=o0) (fz:=[]) (l:=[0,1,5]) (.inl rfl) h (by kernel_rfl) an fun a w h => ?_
  obtain ⟨r206,hr209,hF⟩:=of_bind hF
  obtain ⟨hc210,hF⟩:=of_if hF
  refine wp_reg_seq tok (orc:=orcL [(50,[⟨.str,r206⟩])]) (fz:=[]) (l:=[0,1,5]) (.inl rfl) h (by kernel_rfl) (ac (c119 k (w64 ((w64 ((w64 ((w64 ((w64 (v185 + (1:Int))) + (1:Int))) + (1:Int))) + (1:Int))) + (1:Int))) r206 hr209) (ac hc210 an)) fun a w h => ?_
  obtain ⟨v207,hv208,hF⟩:=of_bind hF
  replace h:=h.cast (S':=[(0,.val sh8 v207),(1,.val iS (w64 ((w64 ((w64 ((w64 ((w64 (v185 + (1:Int))) + (1:Int))) + (1:Int))) + (1:Int))) + (1:Int)))),(5,.val iS v186)]) (by cases hv208; kernel_rfl)
  refine wp_reg tok (orc:=o0) (fz:=[]) (l:=[0,1,5]) (.inl rfl) h (by kernel_rfl) an fun a w h => ?_
  refine wp_reg tok (orc:=o0) (fz:=[]) (l:=[0,1,5]) (.inl rfl) h (by kernel_rfl) an fun a w h => ?_
  exact ⟨(v207,(w64 ((w64 ((w64 ((w64 ((w64 ((w64 (v185 + (1:Int))) + (1:Int))) + (1:Int))) + (1:Int))) + (1:Int))) + (1:Int))),(w64 (v186 + (1:Int)))),hF,h.arrive (fz:=[]) (l:=[0,1,5]) (.inl rfl) (by kernel_rfl)⟩
 ·refine wp_exit ?_
  refine wp_reg_seq tok (orc:=o0) (fz:=[]) (l:=[0,4]) (.inl rfl) h (by kernel_rfl) an fun a w h => ?_
  cases hF
  exact wp_ret (retM_ok tok h rfl (by kernel_rfl) (by kernel_rfl)).1
def f104.l26 (k:Nat):Nat → ((List (Int × Int)) × Int × Int)→Option (Int × (List (Int × Int)))
 | 0,_ => none
 | m26+1,(v44,v45,v46) => if (decide (v46 < (List.length v44:Int))) then (if (0≤v46∧v46 < (List.length v44:Int)) then (if (0≤v46∧v46 < (List.length (List.set v44 (Int.toNat v46) (v45,(List.getD v44 (Int.toNat v46) ((0:Int),(0:Int))).2)):Int)) then ((f104.l26 k) m26 ((List.set (List.set v44 (Int.toNat v46) (v45,(List.getD v44 (Int.toNat v46) ((0:Int),(0:Int))).2)) (Int.toNat v46) ((List.getD (List.set v44 (Int.toNat v46) (v45,(List.getD v44 (Int.toNat v46) ((0:Int),(0:Int))).2)) (Int.toNat v46) ((0:Int),(0:Int))).1,(IntKind.i64.wrap (v45 + (1:Int))))),(IntKind.i64.wrap ((IntKind.i64.wrap (v45 + (1:Int))) + (1:Int))),(IntKind.i64.wrap (v46 + (1:Int))))) else none) else none) else (some (v45,v44))
def f104 (k:Nat) (x0:(List (Int × Int))) (x1:Int):Option (Int × (List (Int × Int))):=f104.l26 k k (x0,x1,(0:Int))
theorem c104 (k:Nat) (x0:(List (Int × Int))) (x1:Int) (r:(Int × (List (Int × Int)))) (hF:f104 k x0 x1=some r):PMut Try.prog 104 [⟨sh9,x0⟩,⟨iS,x1⟩] [⟨iS,r.1⟩] (List.set [⟨sh9,x0⟩,⟨iS,x1⟩] 0 ⟨sh9,r.2⟩):=by
 refine pmut_intro (j:=0) (fin:=⟨sh9,r.2⟩) Try.func104 rfl rfl (Nat.le_of_ble_eq_true rfl) (Nat.le_of_ble_eq_true rfl) (by kernel_rfl) ?_
 intro w0 Zi f0 v0 a w h
 rw [f104] at hF
 refine wp_reg_seq tok (orc:=o0) (fz:=[]) (l:=[0,1]) (.inl rfl) h (by kernel_rfl) an fun a w h => ?_
 refine wp_seq ?_
 refine wp_reg_seq tok (orc:=o0) (fz:=[]) (l:=[0,1,5]) (.inl rfl) h (by kernel_rfl) an fun a w h => ?_
 refine wp_block ?_
 refine wp_loop_fuel (f104.l26 k) (fun ((v44,v45,v46):((List (Int × Int)) × Int × Int)) => [(0,.val sh9 v44),(1,.val iS v45),(5,.val iS v46)]) (fun v h => by obtain ⟨v44,v45,v46⟩:=v; rw [f104.l26] at h; cases h) ?_ hF (h.arrive (fz:=[]) (l:=[0,1,5]) (.inl rfl) (by kernel_rfl))
 intro m26 v a w hF h
 obtain ⟨v44,v45,v46⟩:=v
 rw [f104.l26] at hF
 refine wp_seq ?_
 refine wp_reg_seq tok (orc:=o0) (fz:=[]) (l:=[0,1,5,9]) (.inl rfl) h (by kernel_rfl) an fun a w h => ?_
 refine zi h hF (fun hF => ?_) (fun hF => ?_)
 ·refine wp_skip ?_
  refine wp_seq <| wp_block ?_
  obtain ⟨hc50,hF⟩:=of_if hF
  refine wp_reg_seq tok (orc:=o0) (fz:=[]) (l:=[0,1,5]) (.inl rfl) h (by kernel_rfl) (ac hc50 an) fun a w h => ?_
  refine wp_reg_seq tok (orc:=o0) (fz:=[]) (l:=[0,1,5]) (.inl rfl) h (by kernel_rfl) an fun a w h => ?_
  obtain ⟨hc49,hF⟩:=of_if hF
  refine wp_reg_seq tok (orc:=o0) (fz:=[]) (l:=[0,1,5]) (.inl rfl) h (by kernel_rfl) (ac hc49 an) fun a w h => ?_
  refine wp_reg tok (orc:=o0) (fz:=[]) (l:=[0,1,5]) (.inl rfl) h (by kernel_rfl) an fun a w h => ?_
  refine wp_reg tok (orc:=o0) (fz:=[]) (l:=[0,1,5]) (.inl rfl) h (by kernel_rfl) an fun a w h => ?_
  exact ⟨((List.set (List.set v44 (tZ v46) (v45,(gD v44 (tZ v46) (iO,iO)).2)) (tZ v46) ((gD (List.set v44 (tZ v46) (v45,(gD v44 (tZ v46) (iO,iO)).2)) (tZ v46) (iO,iO)).1,(w64 (v45 + (1:Int))))),(w64 ((w64 (v45 + (1:Int))) + (1:Int))),(w64 (v46 + (1:Int)))),hF,h.arrive (fz:=[]) (l:=[0,1,5]) (.inl rfl) (by kernel_rfl)⟩
 ·refine wp_exit ?_
  refine wp_reg_seq tok (orc:=o0) (fz:=[]) (l:=[0,4]) (.inl rfl) h (by kernel_rfl) an fun a w h => ?_
  cases hF
  exact wp_ret (retM_ok tok h rfl (by kernel_rfl) (by kernel_rfl)).1
def f46 (k:Nat) (x0:((List (Int × (Int × Int))) × ((List (Int × (Int × (Int × (Int × (Int × ByteArray)))))) × (List (Int × Int))))) (x1:Int):Option (Int × ((List (Int × (Int × Int))) × ((List (Int × (Int × (Int × (Int × (Int × ByteArray)))))) × (List (Int × Int))))):=(f102 k x0.1 x1).bind fun r1 => ((f103 k x0.2.1 r1.1).bind fun r2 => ((f104 k x0.2.2 r2.1).bind fun r3 => (some (r3.1,(r1.2,(r2.2,r3.2))))))
theorem c46 (k:Nat) (x0:tG) (x1:Int) (r:(Int × tG)) (hF:f46 k x0 x1=some r):PMut Try.prog 46 [⟨sh10,x0⟩,⟨iS,x1⟩] [⟨iS,r.1⟩] (List.set [⟨sh10,x0⟩,⟨iS,x1⟩] 0 ⟨sh10,r.2⟩):=by
 refine pmut_intro (j:=0) (fin:=⟨sh10,r.2⟩) Try.func46 rfl rfl (Nat.le_of_ble_eq_true rfl) (Nat.le_of_ble_eq_true rfl) (by kernel_rfl) ?_
 intro w0 Zi f0 v0 a w h
 rw [f46] at hF
 refine wp_reg_seq tok (orc:=o0) (fz:=[]) (l:=[0,1,2]) (.inl rfl) h (by kernel_rfl) an fun a w h => ?_
 obtain ⟨r1,hr6,hF⟩:=of_bind hF
 refine wp_reg_seq tok (orc:=orcL [(8,[⟨.pt false 4294967295 (.sl true 181 (.st (.pair iS (.st (.pair iS iS))))),some r1.2⟩,⟨iS,r1.1⟩])]) (fz:=[]) (l:=[0,1,2]) (.inl rfl) h (by kernel_rfl) (ac (c102 k x0.1 x1 r1 hr6) an) fun a w h => ?_
 obtain ⟨r2,hr5,hF⟩:=of_bind hF
 refine wp_reg_seq tok (orc:=orcL [(12,[⟨.pt false 4294967295 (.sl true 171 (.st (.pair iS (.pair iS (.pair iS (.pair iS (.pair iS .str))))))),some r2.2⟩,⟨iS,r2.1⟩])]) (fz:=[]) (l:=[0,1,2]) (.inl rfl) h (by kernel_rfl) (ac (c103 k x0.2.1 r1.1 r2 hr5) an) fun a w h => ?_
 obtain ⟨r3,hr4,hF⟩:=of_bind hF
 refine wp_reg_seq tok (orc:=orcL [(16,[⟨.pt false 4294967295 (.sl true 174 (.st (.pair iS iS))),some r3.2⟩,⟨iS,r3.1⟩])]) (fz:=[]) (l:=[0,1,2]) (.inl rfl) h (by kernel_rfl) (ac (c104 k x0.2.2 r2.1 r3 hr4) an) fun a w h => ?_
 refine wp_reg_seq tok (orc:=o0) (fz:=[]) (l:=[0,2,4]) (.inl rfl) h (by kernel_rfl) an fun a w h => ?_
 cases hF
 exact wp_ret (retMS_ok (d:=2) (t:=71) tok h rfl (by kernel_rfl) (by kernel_rfl)).1
def f47.l26 (k:Nat):Nat → ((List (Int × Int)) × Int × Int)→Option (Int × (List (Int × Int)))
 | 0,_ => none
 | m26+1,(v44,v45,v46) => if (decide (v46 < (List.length v44:Int))) then (if (0≤v46∧v46 < (List.length v44:Int)) then (if (0≤v46∧v46 < (List.length (List.set v44 (Int.toNat v46) (v45,(List.getD v44 (Int.toNat v46) ((0:Int),(0:Int))).2)):Int)) then ((f47.l26 k) m26 ((List.set (List.set v44 (Int.toNat v46) (v45,(List.getD v44 (Int.toNat v46) ((0:Int),(0:Int))).2)) (Int.toNat v46) ((List.getD (List.set v44 (Int.toNat v46) (v45,(List.getD v44 (Int.toNat v46) ((0:Int),(0:Int))).2)) (Int.toNat v46) ((0:Int),(0:Int))).1,(IntKind.i64.wrap (v45 + (1:Int))))),(IntKind.i64.wrap ((IntKind.i64.wrap (v45 + (1:Int))) + (1:Int))),(IntKind.i64.wrap (v46 + (1:Int))))) else none) else none) else (some (v45,v44))
def f47 (k:Nat) (x0:(List (Int × Int))) (x1:Int):Option (Int × (List (Int × Int))):=f47.l26 k k (x0,x1,(0:Int))
theorem c47 (k:Nat) (x0:(List (Int × Int))) (x1:Int) (r:(Int × (List (Int × Int)))) (hF:f47 k x0 x1=some r):PMut Try.prog 47 [⟨sh15,x0⟩,⟨iS,x1⟩] [⟨iS,r.1⟩] (List.set [⟨sh15,x0⟩,⟨iS,x1⟩] 0 ⟨sh15,r.2⟩):=by
 refine pmut_intro (j:=0) (fin:=⟨sh15,r.2⟩) Try.func47 rfl rfl (Nat.le_of_ble_eq_true rfl) (Nat.le_of_ble_eq_true rfl) (by kernel_rfl) ?_
 intro w0 Zi f0 v0 a w h
 rw [f47] at hF
 refine wp_reg_seq tok (orc:=o0) (fz:=[]) (l:=[0,1]) (.inl rfl) h (by kernel_rfl) an fun a w h => ?_
 refine wp_seq ?_
 refine wp_reg_seq tok (orc:=o0) (fz:=[]) (l:=[0,1,5]) (.inl rfl) h (by kernel_rfl) an fun a w h => ?_
 refine wp_block ?_
 refine wp_loop_fuel (f47.l26 k) (fun ((v44,v45,v46):((List (Int × Int)) × Int × Int)) => [(0,.val sh15 v44),(1,.val iS v45),(5,.val iS v46)]) (fun v h => by obtain ⟨v44,v45,v46⟩:=v; rw [f47.l26] at h; cases h) ?_ hF (h.arrive (fz:=[]) (l:=[0,1,5]) (.inl rfl) (by kernel_rfl))
 intro m26 v a w hF h
 obtain ⟨v44,v45,v46⟩:=v
 rw [f47.l26] at hF
 refine wp_seq ?_
 refine wp_reg_seq tok (orc:=o0) (fz:=[]) (l:=[0,1,5,9]) (.inl rfl) h (by kernel_rfl) an fun a w h => ?_
 refine zi h hF (fun hF => ?_) (fun hF => ?_)
 ·refine wp_skip ?_
  refine wp_seq <| wp_block ?_
  obtain ⟨hc50,hF⟩:=of_if hF
  refine wp_reg_seq tok (orc:=o0) (fz:=[]) (l:=[0,1,5]) (.inl rfl) h (by kernel_rfl) (ac hc50 an) fun a w h => ?_
  refine wp_reg_seq tok (orc:=o0) (fz:=[]) (l:=[0,1,5]) (.inl rfl) h (by kernel_rfl) an fun a w h => ?_
  obtain ⟨hc49,hF⟩:=of_if hF
  refine wp_reg_seq tok (orc:=o0) (fz:=[]) (l:=[0,1,5]) (.inl rfl) h (by kernel_rfl) (ac hc49 an) fun a w h => ?_
  refine wp_reg tok (orc:=o0) (fz:=[]) (l:=[0,1,5]) (.inl rfl) h (by kernel_rfl) an fun a w h => ?_
  refine wp_reg tok (orc:=o0) (fz:=[]) (l:=[0,1,5]) (.inl rfl) h (by kernel_rfl) an fun a w h => ?_
  exact ⟨((List.set (List.set v44 (tZ v46) (v45,(gD v44 (tZ v46) (iO,iO)).2)) (tZ v46) ((gD (List.set v44 (tZ v46) (v45,(gD v44 (tZ v46) (iO,iO)).2)) (tZ v46) (iO,iO)).1,(w64 (v45 + (1:Int))))),(w64 ((w64 (v45 + (1:Int))) + (1:Int))),(w64 (v46 + (1:Int)))),hF,h.arrive (fz:=[]) (l:=[0,1,5]) (.inl rfl) (by kernel_rfl)⟩
 ·refine wp_exit ?_
  refine wp_reg_seq tok (orc:=o0) (fz:=[]) (l:=[0,4]) (.inl rfl) h (by kernel_rfl) an fun a w h => ?_
  cases hF
  exact wp_ret (retM_ok tok h rfl (by kernel_rfl) (by kernel_rfl)).1
def f48.l22 (k:Nat) (x0:(List (Int × Int))):Nat → (Int × Int)→Option Int
 | 0,_ => none
 | m22+1,(v37,v38) => if (decide (v38 < (List.length x0:Int))) then (if (0≤v38∧v38 < (List.length x0:Int)) then (if (((List.getD x0 (Int.toNat v38) ((0:Int),(0:Int))).1:Int) != v37) then (some (-1:Int)) else (if (0≤v38∧v38 < (List.length x0:Int)) then (if (((List.getD x0 (Int.toNat v38) ((0:Int),(0:Int))).2:Int) != (IntKind.i64.wrap (v37 + (1:Int)))) then (some (-1:Int)) else ((f48.l22 k x0) m22 ((IntKind.i64.wrap ((IntKind.i64.wrap (v37 + (1:Int))) + (1:Int))),(IntKind.i64.wrap (v38 + (1:Int)))))) else none)) else none) else (some v37)
def f48 (k:Nat) (x0:(List (Int × Int))) (x1:Int):Option Int:=f48.l22 k x0 k (x1,(0:Int))
theorem c48 (k:Nat) (x0:(List (Int × Int))) (x1:Int) (r:Int) (hF:f48 k x0 x1=some r):PCall Try.prog 48 [⟨sh27,x0⟩,⟨iS,x1⟩] [⟨iS,r⟩]:=by
 refine pcall_intro Try.func48 rfl rfl (Nat.le_of_ble_eq_true rfl) ?_
 intro w0 Zi a w h
 rw [f48] at hF
 refine zs [0,1] h an fun a w h => ?_
 refine wp_seq ?_
 refine zs [0,1,5] h an fun a w h => ?_
 refine wp_block ?_
 refine wp_loop_fuel (f48.l22 k x0) (fun ((v37,v38):(Int × Int)) => [(0,.val sh27 x0),(1,.val iS v37),(5,.val iS v38)]) (fun v h => by obtain ⟨v37,v38⟩:=v; rw [f48.l22] at h; cases h) ?_ hF (ar h [0,1,5])
 intro m22 v a w hF h
 obtain ⟨v37,v38⟩:=v
 rw [f48.l22] at hF
 refine wp_seq ?_
 refine zs [0,1,5,9] h an fun a w h => ?_
 refine zi h hF (fun hF => ?_) (fun hF => ?_)
 ·refine wp_skip ?_
  refine wp_seq <| wp_block ?_
  refine wp_seq ?_
  obtain ⟨hc42,hF⟩:=of_if hF
  refine zs [0,1,5,18] h (ac hc42 an) fun a w h => ?_
  refine zi h hF (fun hF => ?_) (fun hF => ?_)
  ·refine zs [4] h an fun a w h => ?_
   cases hF
   exact wp_ret (ret_okR tok h rfl (by kernel_rfl)).1
  ·refine wp_skip ?_
   refine zs [0,1,5] h an fun a w h => ?_
   refine wp_seq ?_
   obtain ⟨hc41,hF⟩:=of_if hF
   refine zs [0,1,5,27] h (ac hc41 an) fun a w h => ?_
   refine zi h hF (fun hF => ?_) (fun hF => ?_)
   ·refine zs [4] h an fun a w h => ?_
    cases hF
    exact wp_ret (ret_okR tok h rfl (by kernel_rfl)).1
   ·refine wp_skip ?_
    refine zt [0,1,5] h an fun a w h => ?_
    refine zt [0,1,5] h an fun a w h => ?_
    exact ⟨((w64 ((w64 (v37 + (1:Int))) + (1:Int))),(w64 (v38 + (1:Int)))),hF,ar h [0,1,5]⟩
 ·refine wp_exit ?_
  refine zs [4] h an fun a w h => ?_
  cases hF
  exact wp_ret (ret_okR tok h rfl (by kernel_rfl)).1
def f7 (k:Nat) (x0:((List (Int × (Int × Int))) × ((List (Int × (Int × (Int × (Int × (Int × ByteArray)))))) × (List (Int × Int))))) (x1:Int) (x2:Int):Option Bool:=(f40 k x0 (1048576:Int)).bind fun r1 => (if (decide (r1 < (0:Int))) then (some true) else ((f42 k x0).bind fun r2 => ((f41 k r2 x1 x2).bind fun r3 => ((f42 k x0).bind fun r4 => ((f43 k r4 x1 x2).bind fun r5 => ((f44 k r5 r3).bind fun r6 => (if (!r6) then (some false) else ((f42 k x0).bind fun r7 => ((f45 k r4 r7).bind fun r8 => (if (!r8) then (some false) else ((f46 k r4 (1:Int)).bind fun r9 => ((if ((decide (r9.1 < (0:Int)))=false) then f44 k r5 r3 else some default).bind fun r10 => (if (bif (decide (r9.1 < (0:Int))) then true else (!r10)) then (some false) else ((f47 k r5 (1:Int)).bind fun r11 => ((f48 k r11.2 (1:Int)).bind fun r12 => (if (decide (r12 < (0:Int))) then (some false) else (if (r12 != r11.1) then (some false) else ((f42 k x0).bind fun r13 => ((f43 k r13 x1 x2).bind fun r14 => ((f44 k r14 r3).bind fun r15 => (if (!r15) then (some false) else ((f48 k r11.2 (1:Int)).bind fun r16 => (if (decide (r16 < (0:Int))) then (some false) else (if (r16 != r11.1) then (some false) else (some true)))))))))))))))))))))))))
theorem c7 (k:Nat) (x0:tG) (x1:Int) (x2:Int) (h97:H97) (r:Bool) (hF:f7 k x0 x1 x2=some r):PCall Try.prog 7 [⟨sh4,x0⟩,⟨iS,x1⟩,⟨iS,x2⟩] [⟨.bool,r⟩]:=by
 refine pcall_intro Try.func7 rfl rfl (Nat.le_of_ble_eq_true rfl) ?_
 intro w0 Zi a w h
 rw [f7] at hF
 refine zs [1,2,3] h an fun a w h => ?_
 refine zs [1,2,3,7] h an fun a w h => ?_
 obtain ⟨r1,hr32,hF⟩:=of_bind hF
 refine zc (orcL [(17,[⟨iS,r1⟩])]) [1,2,3,7] h (ac (c40 k x0 (1048576:Int) r1 hr32) an) fun a w h => ?_
 refine wp_seq ?_
 refine zs [1,2,3,19] h an fun a w h => ?_
 refine zi h hF (fun hF => ?_) (fun hF => ?_)
 ·refine zs [6] h an fun a w h => ?_
  cases hF
  exact wp_ret (ret_okR tok h rfl (by kernel_rfl)).1
 ·refine wp_skip ?_
  obtain ⟨r2,hr30,hF⟩:=of_bind hF
  obtain ⟨r3,hr31,hF⟩:=of_bind hF
  refine zc (orcL [(21,[⟨sh10,r2⟩]),(24,[⟨sh15,r3⟩])]) [1,2,3,8] h (ac (c42 k x0 r2 hr30) (ac (c41 k r2 x1 x2 r3 hr31) an)) fun a w h => ?_
  obtain ⟨r4,hr29,hF⟩:=of_bind hF
  refine zc (orcL [(26,[⟨sh10,r4⟩])]) [1,2,3,8,9] h (ac (c42 k x0 r4 hr29) an) fun a w h => ?_
  obtain ⟨r5,hr28,hF⟩:=of_bind hF
  refine zc (orcL [(30,[⟨sh15,r5⟩])]) [1,2,3,8,9,10] h (ac (c43 k r4 x1 x2 h97 r5 hr28) an) fun a w h => ?_
  refine wp_seq ?_
  obtain ⟨r6,hr27,hF⟩:=of_bind hF
  refine zc (orcL [(33,[⟨.bool,r6⟩])]) [1,2,3,8,9,10,34] h (ac (c44 k r5 r3 r6 hr27) an) fun a w h => ?_
  refine zi h hF (fun hF => ?_) (fun hF => ?_)
  ·refine zs [6] h an fun a w h => ?_
   cases hF
   exact wp_ret (ret_okR tok h rfl (by kernel_rfl)).1
  ·refine wp_skip ?_
   refine wp_seq ?_
   obtain ⟨r7,hr25,hF⟩:=of_bind hF
   obtain ⟨r8,hr26,hF⟩:=of_bind hF
   refine wp_regy_seq tok (orc:=orcL [(37,[⟨sh10,r7⟩]),(38,[⟨.bool,r8⟩])]) (l:=[1,2,3,8,9,10,39]) ([],[],[],[]) 5 nw h (by kernel_rfl) (by kernel_rfl) (ac (c42 k x0 r7 hr25) (ac (c45 k r4 r7 r8 hr26) an)) fun a w h => ?_
   refine zi h hF (fun hF => ?_) (fun hF => ?_)
   ·refine zs [6] h an fun a w h => ?_
    cases hF
    exact wp_ret (ret_okR tok h rfl (by kernel_rfl)).1
   ·refine wp_skip ?_
    refine zs [1,2,3,8,9,10,11] h an fun a w h => ?_
    obtain ⟨r9,hr24,hF⟩:=of_bind hF
    refine zc (orcL [(42,[⟨.pt false 4294967295 (.st (.pair (.sl true 181 (.st (.pair iS (.st (.pair iS iS))))) (.pair (.sl true 171 (.st (.pair iS (.pair iS (.pair iS (.pair iS (.pair iS .str))))))) (.sl true 174 (.st (.pair iS iS)))))),some r9.2⟩,⟨iS,r9.1⟩])]) [1,2,3,8,10,11] h (ac (c46 k r4 (1:Int) r9 hr24) an) fun a w h => ?_
    refine wp_seq ?_
    obtain ⟨r10,hr23,hF⟩:=of_bind hF
    refine zc (orcL [(48,[⟨.bool,r10⟩])]) [1,2,3,8,10,50] h (ac (fun (hg:((decide (r9.1 < iO))=false)) => c44 k r5 r3 r10 (of_g hg hr23)) an) fun a w h => ?_
    refine zi h hF (fun hF => ?_) (fun hF => ?_)
    ·refine zs [6] h an fun a w h => ?_
     cases hF
     exact wp_ret (ret_okR tok h rfl (by kernel_rfl)).1
    ·refine wp_skip ?_
     refine zs [1,2,3,8,10,12] h an fun a w h => ?_
     obtain ⟨r11,hr22,hF⟩:=of_bind hF
     refine zc (orcL [(53,[⟨.pt false 4294967295 (.sl true 128 (.st (.pair iS iS))),some r11.2⟩,⟨iS,r11.1⟩])]) [1,2,3,8,10,12] h (ac (c47 k r5 (1:Int) r11 hr22) an) fun a w h => ?_
     refine zs [1,2,3,8,10,12,13] h an fun a w h => ?_
     obtain ⟨r12,hr21,hF⟩:=of_bind hF
     refine zc (orcL [(56,[⟨iS,r12⟩])]) [1,2,3,8,10,12,13] h (ac (c48 k r11.2 (1:Int) r12 hr21) an) fun a w h => ?_
     refine wp_seq ?_
     refine zs [1,2,3,8,10,12,13,58] h an fun a w h => ?_
     refine zi h hF (fun hF => ?_) (fun hF => ?_)
     ·refine zs [6] h an fun a w h => ?_
      cases hF
      exact wp_ret (ret_okR tok h rfl (by kernel_rfl)).1
     ·refine wp_skip ?_
      refine wp_seq ?_
      refine zs [1,2,3,8,10,12,61] h an fun a w h => ?_
      refine zi h hF (fun hF => ?_) (fun hF => ?_)
      ·refine zs [6] h an fun a w h => ?_
       cases hF
       exact wp_ret (ret_okR tok h rfl (by kernel_rfl)).1
      ·refine wp_skip ?_
       obtain ⟨r13,hr19,hF⟩:=of_bind hF
       obtain ⟨r14,hr20,hF⟩:=of_bind hF
       refine zc (orcL [(63,[⟨sh10,r13⟩]),(66,[⟨sh15,r14⟩])]) [8,10,12,14] h (ac (c42 k x0 r13 hr19) (ac (c43 k r13 x1 x2 h97 r14 hr20) an)) fun a w h => ?_
       refine wp_seq ?_
       obtain ⟨r15,hr18,hF⟩:=of_bind hF
       refine zc (orcL [(69,[⟨.bool,r15⟩])]) [10,12,70] h (ac (c44 k r14 r3 r15 hr18) an) fun a w h => ?_
       refine zi h hF (fun hF => ?_) (fun hF => ?_)
       ·refine zs [6] h an fun a w h => ?_
        cases hF
        exact wp_ret (ret_okR tok h rfl (by kernel_rfl)).1
       ·refine wp_skip ?_
        refine zs [10,12,13] h an fun a w h => ?_
        obtain ⟨r16,hr17,hF⟩:=of_bind hF
        refine zc (orcL [(73,[⟨iS,r16⟩])]) [12,13] h (ac (c48 k r11.2 (1:Int) r16 hr17) an) fun a w h => ?_
        refine wp_seq ?_
        refine zs [12,13,75] h an fun a w h => ?_
        refine zi h hF (fun hF => ?_) (fun hF => ?_)
        ·refine zs [6] h an fun a w h => ?_
         cases hF
         exact wp_ret (ret_okR tok h rfl (by kernel_rfl)).1
        ·refine wp_skip ?_
         refine wp_seq ?_
         refine zs [78] h an fun a w h => ?_
         refine zi h hF (fun hF => ?_) (fun hF => ?_)
         ·refine zs [6] h an fun a w h => ?_
          cases hF
          exact wp_ret (ret_okR tok h rfl (by kernel_rfl)).1
         ·refine wp_skip ?_
          refine zs [6] h an fun a w h => ?_
          cases hF
          exact wp_ret (ret_okR tok h rfl (by kernel_rfl)).1
end Go.Proofs.Ytnpaokckkbhdjaa.V
