/-
  THE CONTRACTS OF SOME FUNCTIONS OF THIS SEAT, PRINTED BY A PROGRAM OF THIS PROJECT (wip/gen/vgen.py).
-/
import Derived.Test.YtdjadmdiehkfdaaProg
import Derived.Test.YtdjadmdiehkfdaaVmW
import Derived.Test.YtdjadmdiehkfdaaVmAn
import Derived.KernelRfl
import Derived.Test.YtdjadmdiehkfdaaR6vA
set_option linter.unusedVariables false
open Go Go.Vm Go.Proofs
namespace Go.Proofs.Ytdjadmdiehkfdaa.V
set_option maxRecDepth 100000
def f104 (k:Nat) (x0:((List (Int × (Int × Int))) × ((List (Int × (Int × (Int × (Int × (Int × ByteArray)))))) × (List (Int × Int))))):Option ((List (Int × (Int × Int))) × ((List (Int × (Int × (Int × (Int × (Int × ByteArray)))))) × (List (Int × Int)))):=if ((List.length ([]:List (Int × (Int × Int)))+List.length x0.1)*24≤140737488355328) then (if ((List.length ([]:List (Int × (Int × (Int × (Int × (Int × ByteArray))))))+List.length x0.2.1)*56≤140737488355328) then (if ((List.length ([]:List (Int × Int))+List.length x0.2.2)*16≤140737488355328) then (some ((([]:List (Int × (Int × Int))) ++ x0.1),((([]:List (Int × (Int × (Int × (Int × (Int × ByteArray)))))) ++ x0.2.1),(([]:List (Int × Int)) ++ x0.2.2)))) else none) else none) else none
theorem c104 (k:Nat) (x0:tG) (r:tG) (hF:f104 k x0=some r):PCall Try.prog 104 [⟨sh18,x0⟩] [⟨sh20,r⟩]:=by
 refine pcall_intro Try.func104 rfl rfl (Nat.le_of_ble_eq_true rfl) ?_
 intro w0 Zi a w h
 rw [f104] at hF
 refine zs [1,2] h an fun a w h => ?_
 obtain ⟨hc1,hF⟩:=of_if hF
 obtain ⟨hc2,hF⟩:=of_if hF
 obtain ⟨hc3,hF⟩:=of_if hF
 refine wp_regy_seq tok (orc:=o0) (l:=[2]) ([],[(3,[3]),(7,[7])],[],[(4,[]),(5,[1]),(6,[1,8]),(8,[]),(9,[1]),(10,[1,12])]) 11 nw h (by kernel_rfl) (by kernel_rfl) (ac hc1 (ac hc2 (ac hc3 an))) fun a w h => ?_
 cases hF
 exact wp_ret (ret_okR tok h rfl (by kernel_rfl)).1
def f106.l22 (k:Nat) (x0:(List (Int × Int))) (x1:(Int × Int)):Nat → (Int × Int)→Option (List (Int × Int))
 | 0,_ => none
 | m22+1,(v37,v38) => if (decide (v37 < v38)) then (if (((2:Int):Int)≠0) then (if (0 ≤ (IntKind.i64.wrap (Int.tdiv (IntKind.i64.wrap (v37+v38)) (2:Int))) ∧ (IntKind.i64.wrap (Int.tdiv (IntKind.i64.wrap (v37+v38)) (2:Int))) < (List.length x0:Int)) then ((f72 k (List.getD x0 (Int.toNat (IntKind.i64.wrap (Int.tdiv (IntKind.i64.wrap (v37+v38)) (2:Int)))) ((0:Int),(0:Int))) x1).bind fun r39 => (if r39 then ((f106.l22 k x0 x1) m22 ((IntKind.i64.wrap ((IntKind.i64.wrap (Int.tdiv (IntKind.i64.wrap (v37+v38)) (2:Int))) + (1:Int))),v38)) else ((f106.l22 k x0 x1) m22 (v37,(IntKind.i64.wrap (Int.tdiv (IntKind.i64.wrap (v37+v38)) (2:Int))))))) else none) else none) else (if (((decide (v37 < (List.length x0:Int)))=true) → (0≤v37∧v37 < (List.length x0:Int))) then (if (bif (decide (v37 < (List.length x0:Int))) then (Sh.beq sh5 (List.getD x0 (Int.toNat v37) ((0:Int),(0:Int))) x1) else false) then (some x0) else (if (True ∧ ((0:Int)≤v37)∧0 ≤ (Int.toNat v37) ∧ (Int.toNat v37) ≤ (List.length x0)) then (if ((List.length ([]:List (Int × Int))+List.length (List.drop 0 (List.take (Int.toNat v37) x0)))*16≤140737488355328) then (if ((List.length (([]:List (Int × Int)) ++ (List.drop 0 (List.take (Int.toNat v37) x0)))+List.length [x1])*16≤140737488355328) then (if (((0:Int)≤v37)∧True ∧ (Int.toNat v37) ≤ (List.length x0) ∧ (List.length x0) ≤ (List.length x0)) then (if ((List.length ((([]:List (Int × Int)) ++ (List.drop 0 (List.take (Int.toNat v37) x0))) ++ [x1])+List.length (List.drop (Int.toNat v37) (List.take (List.length x0) x0)))*16≤140737488355328) then (some (((([]:List (Int × Int)) ++ (List.drop 0 (List.take (Int.toNat v37) x0))) ++ [x1]) ++ (List.drop (Int.toNat v37) (List.take (List.length x0) x0)))) else none) else none) else none) else none) else none)) else none)
def f106 (k:Nat) (x0:(List (Int × Int))) (x1:(Int × Int)):Option (List (Int × Int)):=f106.l22 k x0 x1 k ((0:Int),(List.length x0:Int))
theorem c106 (k:Nat) (x0:(List (Int × Int))) (x1:(Int × Int)) (r:(List (Int × Int))) (hF:f106 k x0 x1=some r):PAns Try.prog 106 [⟨sh25,x0⟩,⟨sh5,x1⟩] ⟨sh25,r⟩ 0:=by
 refine pans_intro (j:=0) (ins':=[⟨sh23,x0⟩,⟨sh5,x1⟩]) Try.func106 rfl rfl (Nat.le_of_ble_eq_true rfl) rfl (by kernel_rfl) (by kernel_rfl) (by kernel_rfl) ?_
 intro w0 Zi v0 a w h
 rw [f106] at hF
 refine zs [0,3] h an fun a w h => ?_
 refine zs [0,3,5] h an fun a w h => ?_
 refine zs [0,3,5,6] h an fun a w h => ?_
 refine wp_seq <| wp_block ?_
 refine wp_loop_fuel (f106.l22 k x0 x1) (fun ((v37,v38):(Int × Int)) => [(0,.val sh23 x0),(3,.val sh24 (some x1)),(5,.val iS v37),(6,.val iS v38)]) (fun v h => by obtain ⟨v37,v38⟩:=v; rw [f106.l22] at h; cases h) ?_ hF (ar h [0,3,5,6])
 intro m22 v a w hF h
 obtain ⟨v37,v38⟩:=v
 rw [f106.l22] at hF
 refine wp_seq ?_
 refine zs [0,3,5,6,12] h an fun a w h => ?_
 refine zi h hF (fun hF => ?_) (fun hF => ?_)
 ·refine wp_skip ?_
  refine wp_block ?_
  obtain ⟨hc42,hF⟩:=of_if hF
  refine zs [0,3,5,6,7] h (ac hc42 an) fun a w h => ?_
  obtain ⟨hc40,hF⟩:=of_if hF
  obtain ⟨r39,hr41,hF⟩:=of_bind hF
  refine wp_regy_seq tok (orc:=orcL [(22,[⟨.bool,r39⟩])]) (l:=[0,3,5,6,7,22]) ([],[],[],[]) 6 nw h (by kernel_rfl) (by kernel_rfl) (ac hc40 (ac (c72 k (gD x0 (tZ (w64 (Int.tdiv (w64 (v37+v38)) (2:Int)))) (iO,iO)) x1 r39 hr41) an)) fun a w h => ?_
  refine zi h hF (fun hF => ?_) (fun hF => ?_)
  ·refine zt [0,3,5,6] h an fun a w h => ?_
   exact ⟨((w64 ((w64 (Int.tdiv (w64 (v37+v38)) (2:Int))) + (1:Int))),v38),hF,ar h [0,3,5,6]⟩
  ·refine zt [0,3,5,6] h an fun a w h => ?_
   exact ⟨(v37,(w64 (Int.tdiv (w64 (v37+v38)) (2:Int)))),hF,ar h [0,3,5,6]⟩
 ·refine wp_exit ?_
  refine wp_seq ?_
  obtain ⟨hc48,hF⟩:=of_if hF
  refine wp_regy_seq tok (orc:=o0) (l:=[0,3,5,37]) ([],[],[],[]) 12 nw h (by kernel_rfl) (by kernel_rfl) (ac hc48 (ac (fun (_:((decide (v37 < (List.length x0:Int)))=true)) => (And.intro (show eqTy Try.prog 9 69 (.st (.pair iS iS))=true from by kernel_rfl) (show Try.prog.eqGuardType Try.prog.depth 69=false from by kernel_rfl))) an)) fun a w h => ?_
  refine zi h hF (fun hF => ?_) (fun hF => ?_)
  ·cases hF
   exact wp_retarg (fn:=Try.f106) (d:=4) (tv:=⟨sh25,x0⟩) (out:=⟨sh25,x0⟩) h (by kernel_rfl) (Nat.le_of_ble_eq_true rfl) (by intro x hx; exact (Option.some.inj hx).symm) rfl rfl rfl rfl (fun _ _ h => h)
  ·refine wp_skip ?_
   obtain ⟨hc43,hF⟩:=of_if hF
   obtain ⟨hc44,hF⟩:=of_if hF
   obtain ⟨hc45,hF⟩:=of_if hF
   obtain ⟨hc46,hF⟩:=of_if hF
   obtain ⟨hc47,hF⟩:=of_if hF
   refine wp_regy_seq tok (orc:=o0) (l:=[4]) ([],[(4,[39]),(7,[43])],[],[(5,[3]),(6,[44]),(8,[0]),(9,[5]),(10,[47,48])]) 11 nw h (by kernel_rfl) (by kernel_rfl) (ac hc43 (ac hc44 (ac hc45 (ac hc46 (ac hc47 an))))) fun a w h => ?_
   cases hF
   exact wp_ret (retA_ok tok h rfl (by kernel_rfl)).1
def f105.j482 (k:Nat) (v439:Int) (q263:(((List (Int × (Int × Int))) × ((List (Int × (Int × (Int × (Int × (Int × ByteArray)))))) × (List (Int × Int)))) × Int)→Option ((List (Int × (Int × Int))) × ((List (Int × (Int × (Int × (Int × (Int × ByteArray)))))) × (List (Int × Int))))):((List (Int × (Int × Int))) × ((List (Int × (Int × (Int × (Int × (Int × ByteArray)))))) × (List (Int × Int))))→Option ((List (Int × (Int × Int))) × ((List (Int × (Int × (Int × (Int × (Int × ByteArray)))))) × (List (Int × Int))))
 | v481 => q263 (v481,(IntKind.i64.wrap (v439 + (1:Int))))
def f105.j517 (k:Nat) (v511:Int) (q483:(((List (Int × (Int × Int))) × ((List (Int × (Int × (Int × (Int × (Int × ByteArray)))))) × (List (Int × Int)))) × Int)→Option ((List (Int × (Int × Int))) × ((List (Int × (Int × (Int × (Int × (Int × ByteArray)))))) × (List (Int × Int))))):((List (Int × (Int × Int))) × ((List (Int × (Int × (Int × (Int × (Int × ByteArray)))))) × (List (Int × Int))))→Option ((List (Int × (Int × Int))) × ((List (Int × (Int × (Int × (Int × (Int × ByteArray)))))) × (List (Int × Int))))
 | v516 => q483 (v516,(IntKind.i64.wrap (v511 + (1:Int))))
def f105.l483 (k:Nat) (x3:Int) (r1:Int) (v439:Int) (q482:((List (Int × (Int × Int))) × ((List (Int × (Int × (Int × (Int × (Int × ByteArray)))))) × (List (Int × Int))))→Option ((List (Int × (Int × Int))) × ((List (Int × (Int × (Int × (Int × (Int × ByteArray)))))) × (List (Int × Int))))):Nat → (((List (Int × (Int × Int))) × ((List (Int × (Int × (Int × (Int × (Int × ByteArray)))))) × (List (Int × Int)))) × Int)→Option ((List (Int × (Int × Int))) × ((List (Int × (Int × (Int × (Int × (Int × ByteArray)))))) × (List (Int × Int))))
 | 0,_ => none
 | m483+1,(v510,v511) => if (bif (decide (v511 < (List.length v510.2.1:Int))) then (decide (((List.length v510.2.2:Int):Int) ≤ (2000:Int))) else false) then (if (0≤v511∧v511 < (List.length v510.2.1:Int)) then (if (((((List.getD v510.2.1 (Int.toNat v511) ((0:Int),((0:Int),((0:Int),((0:Int),((0:Int),(⟨#[]⟩:ByteArray))))))).2.2.1:Int) == x3)=true) → (0≤v511∧v511 < (List.length v510.2.1:Int))) then (if (bif (((List.getD v510.2.1 (Int.toNat v511) ((0:Int),((0:Int),((0:Int),((0:Int),((0:Int),(⟨#[]⟩:ByteArray))))))).2.2.1:Int) == x3) then (((List.getD v510.2.1 (Int.toNat v511) ((0:Int),((0:Int),((0:Int),((0:Int),((0:Int),(⟨#[]⟩:ByteArray))))))).1:Int) == r1) else false) then ((f106 k v510.2.2 (v439,v511)).bind fun r518 => (f105.j517 k v511 ((f105.l483 k x3 r1 v439 q482) m483) (v510.1,(v510.2.1,r518)))) else (f105.j517 k v511 ((f105.l483 k x3 r1 v439 q482) m483) v510)) else none) else none) else (q482 v510)
def f105.l263 (k:Nat) (x1:Int) (r1:Int) (x3:Int):Nat → (((List (Int × (Int × Int))) × ((List (Int × (Int × (Int × (Int × (Int × ByteArray)))))) × (List (Int × Int)))) × Int)→Option ((List (Int × (Int × Int))) × ((List (Int × (Int × (Int × (Int × (Int × ByteArray)))))) × (List (Int × Int))))
 | 0,_ => none
 | m263+1,(v438,v439) => if (decide (v439 < (List.length v438.2.1:Int))) then (if (0≤v439∧v439 < (List.length v438.2.1:Int)) then (if (((((List.getD v438.2.1 (Int.toNat v439) ((0:Int),((0:Int),((0:Int),((0:Int),((0:Int),(⟨#[]⟩:ByteArray))))))).2.2.1:Int) != x1)=false) → (0≤v439∧v439 < (List.length v438.2.1:Int))) then (if (bif (((List.getD v438.2.1 (Int.toNat v439) ((0:Int),((0:Int),((0:Int),((0:Int),((0:Int),(⟨#[]⟩:ByteArray))))))).2.2.1:Int) != x1) then true else (((List.getD v438.2.1 (Int.toNat v439) ((0:Int),((0:Int),((0:Int),((0:Int),((0:Int),(⟨#[]⟩:ByteArray))))))).2.1:Int) != r1)) then (f105.j482 k v439 ((f105.l263 k x1 r1 x3) m263) v438) else (f105.l483 k x3 r1 v439 (f105.j482 k v439 ((f105.l263 k x1 r1 x3) m263)) k (v438,(0:Int)))) else none) else none) else (some v438)
def f105 (k:Nat) (x0:((List (Int × (Int × Int))) × ((List (Int × (Int × (Int × (Int × (Int × ByteArray)))))) × (List (Int × Int))))) (x1:Int) (x2:Int) (x3:Int):Option ((List (Int × (Int × Int))) × ((List (Int × (Int × (Int × (Int × (Int × ByteArray)))))) × (List (Int × Int)))):=(f101 k x0 x2).bind fun r1 => (f105.l263 k x1 r1 x3 k (x0,(0:Int)))
theorem c105 (k:Nat) (x0:tG) (x1:Int) (x2:Int) (x3:Int) (r:tG) (hF:f105 k x0 x1 x2 x3=some r):PCons Try.prog 105 [⟨sh20,x0⟩,⟨iS,x1⟩,⟨iS,x2⟩,⟨iS,x3⟩] [⟨sh20,r⟩]:=by
 refine pcons_intro (j:=0) Try.func105 rfl rfl (Nat.le_of_ble_eq_true rfl) (Nat.le_of_ble_eq_true rfl) (by kernel_rfl) ?_
 intro w0 Zi f0 a w h
 rw [f105] at hF
 refine wp_reg_seq tok (orc:=o0) (fz:=[]) (l:=[1,2,3,4,8]) (.inl rfl) h (by kernel_rfl) an fun a w h => ?_
 obtain ⟨r1,hr524,hF⟩:=of_bind hF
 refine wp_reg_seq tok (orc:=orcL [(14,[⟨iS,r1⟩])]) (fz:=[]) (l:=[1,3,4,8,9]) (.inl rfl) h (by kernel_rfl) (ac (c101 k x0 x2 r1 hr524) an) fun a w h => ?_
 refine wp_seq ?_
 refine wp_reg_seq tok (orc:=o0) (fz:=[]) (l:=[1,3,4,8,9,10]) (.inl rfl) h (by kernel_rfl) an fun a w h => ?_
 refine wp_block ?_
 refine wp_loop_fuel (f105.l263 k x1 r1 x3) (fun ((v438,v439):(tG × Int)) => [(1,.val iS x1),(3,.val iS x3),(4,.val sh16 (some v438)),(8,.val sh16 (some (([]:(List (Int × (Int × Int)))),(([]:(List (Int × (Int × (Int × (Int × (Int × ByteArray))))))),([]:(List (Int × Int))))))),(9,.val iS r1),(10,.val iS v439)]) (fun v h => by obtain ⟨v438,v439⟩:=v; rw [f105.l263] at h; cases h) ?_ hF (h.arrive (fz:=[]) (l:=[1,3,4,8,9,10]) (.inl rfl) (by kernel_rfl))
 intro m263 v a w hF h
 obtain ⟨v438,v439⟩:=v
 rw [f105.l263] at hF
 refine wp_seq ?_
 refine wp_reg_seq tok (orc:=o0) (fz:=[]) (l:=[1,3,4,8,9,10,19]) (.inl rfl) h (by kernel_rfl) an fun a w h => ?_
 refine zi h hF (fun hF => ?_) (fun hF => ?_)
 ·refine wp_skip ?_
  refine wp_mid (fun a w => ∃ v:tG,f105.j482 k v439 ((f105.l263 k x1 r1 x3) m263) v=some r∧Rel w0 f0 Zi Try.f105.ntmps ((fun (v481:tG) => ([(1,.val iS x1),(3,.val iS x3),(4,.val sh16 (some v481)),(8,.val sh16 (some (([]:(List (Int × (Int × Int)))),(([]:(List (Int × (Int × (Int × (Int × (Int × ByteArray))))))),([]:(List (Int × Int))))))),(9,.val iS r1),(10,.val iS v439)]:SS)) v) a w) ?_ ?_
  ·
   refine wp_block ?_
   refine wp_seq ?_
   obtain ⟨hc522,hF⟩:=of_if hF
   obtain ⟨hc523,hF⟩:=of_if hF
   refine wp_reg_seq tok (orc:=o0) (fz:=[]) (l:=[1,3,4,8,9,10,39]) (.inl rfl) h (by kernel_rfl) (ac hc522 (ac hc523 an)) fun a w h => ?_
   refine zi h hF (fun hF => ?_) (fun hF => ?_)
   ·refine wp_exit ?_
    exact ⟨v438,hF,h.arrive (fz:=[]) (l:=[1,3,4,8,9,10]) (.inl rfl) (by kernel_rfl)⟩
   ·refine wp_skip ?_
    refine wp_reg_seq tok (orc:=o0) (fz:=[]) (l:=[1,3,4,8,9,10,11]) (.inl rfl) h (by kernel_rfl) an fun a w h => ?_
    refine wp_block ?_
    refine wp_loop_fuel (f105.l483 k x3 r1 v439 (f105.j482 k v439 ((f105.l263 k x1 r1 x3) m263))) (fun ((v510,v511):(tG × Int)) => [(1,.val iS x1),(3,.val iS x3),(4,.val sh16 (some v510)),(8,.val sh16 (some (([]:(List (Int × (Int × Int)))),(([]:(List (Int × (Int × (Int × (Int × (Int × ByteArray))))))),([]:(List (Int × Int))))))),(9,.val iS r1),(10,.val iS v439),(11,.val iS v511)]) (fun v h => by obtain ⟨v510,v511⟩:=v; rw [f105.l483] at h; cases h) ?_ hF (h.arrive (fz:=[]) (l:=[1,3,4,8,9,10,11]) (.inl rfl) (by kernel_rfl))
    intro m483 v a w hF h
    obtain ⟨v510,v511⟩:=v
    rw [f105.l483] at hF
    refine wp_seq ?_
    refine wp_reg_seq tok (orc:=o0) (fz:=[]) (l:=[1,3,4,8,9,10,11,50]) (.inl rfl) h (by kernel_rfl) an fun a w h => ?_
    refine zi h hF (fun hF => ?_) (fun hF => ?_)
    ·refine wp_skip ?_
     refine wp_mid (fun a w => ∃ v:tG,f105.j517 k v511 ((f105.l483 k x3 r1 v439 (f105.j482 k v439 ((f105.l263 k x1 r1 x3) m263))) m483) v=some r∧Rel w0 f0 Zi Try.f105.ntmps ((fun (v516:tG) => ([(1,.val iS x1),(3,.val iS x3),(4,.val sh16 (some v516)),(8,.val sh16 (some (([]:(List (Int × (Int × Int)))),(([]:(List (Int × (Int × (Int × (Int × (Int × ByteArray))))))),([]:(List (Int × Int))))))),(9,.val iS r1),(10,.val iS v439),(11,.val iS v511)]:SS)) v) a w) ?_ ?_
     ·
      refine wp_block ?_
      obtain ⟨hc520,hF⟩:=of_if hF
      obtain ⟨hc521,hF⟩:=of_if hF
      refine wp_reg_seq tok (orc:=o0) (fz:=[]) (l:=[1,3,4,8,9,10,11,70]) (.inl rfl) h (by kernel_rfl) (ac hc520 (ac hc521 an)) fun a w h => ?_
      refine zi h hF (fun hF => ?_) (fun hF => ?_)
      ·obtain ⟨r518,hr519,hF⟩:=of_bind hF
       refine wp_seqX (sxA_ok tok (orc:=o0) (spA:=[(5,⟨sh25,r518⟩)]) (sp:=[])) h (by kernel_rfl) (ac (c106 k v510.2.2 (v439,v511) r518 hr519) (ac (show ([.der,.snd,.snd]:Path)=[.der,.snd,.snd] from rfl) an)) fun a w h => ?_
       exact ⟨(v510.1,(v510.2.1,r518)),hF,h.arrive (fz:=[]) (l:=[1,3,4,8,9,10,11]) (.inl rfl) (by kernel_rfl)⟩
      ·refine wp_skip ?_
       exact ⟨v510,hF,h.arrive (fz:=[]) (l:=[1,3,4,8,9,10,11]) (.inl rfl) (by kernel_rfl)⟩
     ·rintro a w ⟨v516,hF,h⟩
      rw [f105.j517] at hF
      refine wp_reg tok (orc:=o0) (fz:=[]) (l:=[1,3,4,8,9,10,11]) (.inl rfl) h (by kernel_rfl) an fun a w h => ?_
      exact ⟨(v516,(w64 (v511 + (1:Int)))),hF,h.arrive (fz:=[]) (l:=[1,3,4,8,9,10,11]) (.inl rfl) (by kernel_rfl)⟩
    ·refine wp_exit ?_
     exact ⟨v510,hF,h.arrive (fz:=[]) (l:=[1,3,4,8,9,10]) (.inl rfl) (by kernel_rfl)⟩
  ·rintro a w ⟨v481,hF,h⟩
   rw [f105.j482] at hF
   refine wp_reg tok (orc:=o0) (fz:=[]) (l:=[1,3,4,8,9,10]) (.inl rfl) h (by kernel_rfl) an fun a w h => ?_
   exact ⟨(v481,(w64 (v439 + (1:Int)))),hF,h.arrive (fz:=[]) (l:=[1,3,4,8,9,10]) (.inl rfl) (by kernel_rfl)⟩
 ·refine wp_exit ?_
  refine wp_reg_seq tok (orc:=o0) (fz:=[]) (l:=[8]) (.inl rfl) h (by kernel_rfl) an fun a w h => ?_
  cases hF
  exact wp_ret (retC_ok tok h rfl (by kernel_rfl)).1
def f84.j175 (k:Nat) (v160:Int) (q96:(((List (Int × (Int × Int))) × ((List (Int × (Int × (Int × (Int × (Int × ByteArray)))))) × (List (Int × Int)))) × Int)→Option ((List (Int × (Int × Int))) × ((List (Int × (Int × (Int × (Int × (Int × ByteArray)))))) × (List (Int × Int))))):((List (Int × (Int × Int))) × ((List (Int × (Int × (Int × (Int × (Int × ByteArray)))))) × (List (Int × Int))))→Option ((List (Int × (Int × Int))) × ((List (Int × (Int × (Int × (Int × (Int × ByteArray)))))) × (List (Int × Int))))
 | v174 => q96 (v174,(IntKind.i64.wrap (v160 + (1:Int))))
def f84.l96 (k:Nat) (x1:(List (List Int))):Nat → (((List (Int × (Int × Int))) × ((List (Int × (Int × (Int × (Int × (Int × ByteArray)))))) × (List (Int × Int)))) × Int)→Option ((List (Int × (Int × Int))) × ((List (Int × (Int × (Int × (Int × (Int × ByteArray)))))) × (List (Int × Int))))
 | 0,_ => none
 | m96+1,(v159,v160) => if (decide (v160 < (List.length x1:Int))) then (if (0≤v160∧v160 < (List.length x1:Int)) then (if (((((List.length (List.getD x1 (Int.toNat v160) ([]:(List Int))):Int):Int) == (3:Int))=true) → (0≤v160∧v160 < (List.length x1:Int))) then (if (((((List.length (List.getD x1 (Int.toNat v160) ([]:(List Int))):Int):Int) == (3:Int))=true) → (0 ≤ (1:Int) ∧ (1:Int) < (List.length (List.getD x1 (Int.toNat v160) ([]:(List Int))):Int))) then ((if ((((List.length (List.getD x1 (Int.toNat v160) ([]:(List Int))):Int):Int) == (3:Int))=true) then f101 k v159 (List.getD (List.getD x1 (Int.toNat v160) ([]:(List Int))) (Int.toNat (1:Int)) (0:Int)) else some default).bind fun r176 => (if (bif (((List.length (List.getD x1 (Int.toNat v160) ([]:(List Int))):Int):Int) == (3:Int)) then (decide (r176 ≥ (0:Int))) else false) then (if (0≤v160∧v160 < (List.length x1:Int)) then (if (0 ≤ (0:Int) ∧ (0:Int) < (List.length (List.getD x1 (Int.toNat v160) ([]:(List Int))):Int)) then (if (0≤v160∧v160 < (List.length x1:Int)) then (if (0 ≤ (1:Int) ∧ (1:Int) < (List.length (List.getD x1 (Int.toNat v160) ([]:(List Int))):Int)) then (if (0≤v160∧v160 < (List.length x1:Int)) then (if (0 ≤ (2:Int) ∧ (2:Int) < (List.length (List.getD x1 (Int.toNat v160) ([]:(List Int))):Int)) then ((f105 k v159 (List.getD (List.getD x1 (Int.toNat v160) ([]:(List Int))) (Int.toNat (0:Int)) (0:Int)) (List.getD (List.getD x1 (Int.toNat v160) ([]:(List Int))) (Int.toNat (1:Int)) (0:Int)) (List.getD (List.getD x1 (Int.toNat v160) ([]:(List Int))) (Int.toNat (2:Int)) (0:Int))).bind fun r177 => (f84.j175 k v160 ((f84.l96 k x1) m96) r177)) else none) else none) else none) else none) else none) else none) else (f84.j175 k v160 ((f84.l96 k x1) m96) v159))) else none) else none) else none) else (if (decide (((List.length v159.2.2:Int):Int) > (2000:Int))) then (some (([]:(List (Int × (Int × Int)))),(([]:(List (Int × (Int × (Int × (Int × (Int × ByteArray))))))),([]:(List (Int × Int)))))) else (some v159))
def f84 (k:Nat) (x0:((List (Int × (Int × Int))) × ((List (Int × (Int × (Int × (Int × (Int × ByteArray)))))) × (List (Int × Int))))) (x1:(List (List Int))):Option ((List (Int × (Int × Int))) × ((List (Int × (Int × (Int × (Int × (Int × ByteArray)))))) × (List (Int × Int)))):=(f47 k x0).bind fun r1 => (if (bif (!r1) then true else (decide (((List.length x1:Int):Int) > (2000:Int)))) then (some (([]:(List (Int × (Int × Int)))),(([]:(List (Int × (Int × (Int × (Int × (Int × ByteArray))))))),([]:(List (Int × Int)))))) else ((f104 k x0).bind fun r2 => (f84.l96 k x1 k (r2,(0:Int)))))
theorem c84 (k:Nat) (x0:tG) (x1:(List (List Int))) (r:tG) (hF:f84 k x0 x1=some r):PCall Try.prog 84 [⟨sh18,x0⟩,⟨sh26,x1⟩] [⟨sh20,r⟩]:=by
 refine pcall_intro Try.func84 rfl rfl (Nat.le_of_ble_eq_true rfl) ?_
 intro w0 Zi a w h
 rw [f84] at hF
 refine zs [1,2,4] h an fun a w h => ?_
 refine wp_seq ?_
 obtain ⟨r1,hr190,hF⟩:=of_bind hF
 refine zc (orcL [(8,[⟨.bool,r1⟩])]) [1,2,4,14] h (ac (c47 k x0 r1 hr190) an) fun a w h => ?_
 refine zi h hF (fun hF => ?_) (fun hF => ?_)
 ·refine zs [4] h an fun a w h => ?_
  cases hF
  exact wp_ret (ret_okR tok h rfl (by kernel_rfl)).1
 ·refine wp_skip ?_
  obtain ⟨r2,hr189,hF⟩:=of_bind hF
  refine zc (orcL [(17,[⟨sh20,r2⟩])]) [1,4,5] h (ac (c104 k x0 r2 hr189) an) fun a w h => ?_
  refine wp_seq ?_
  refine zs [1,4,5,6] h an fun a w h => ?_
  refine wp_block ?_
  refine wp_loop_fuel (f84.l96 k x1) (fun ((v159,v160):(tG × Int)) => [(1,.val sh26 x1),(4,.val sh16 (some (([]:(List (Int × (Int × Int)))),(([]:(List (Int × (Int × (Int × (Int × (Int × ByteArray))))))),([]:(List (Int × Int))))))),(5,.val sh16 (some v159)),(6,.val iS v160)]) (fun v h => by obtain ⟨v159,v160⟩:=v; rw [f84.l96] at h; cases h) ?_ hF (ar h [1,4,5,6])
  intro m96 v a w hF h
  obtain ⟨v159,v160⟩:=v
  rw [f84.l96] at hF
  refine wp_seq ?_
  refine zs [1,4,5,6,21] h an fun a w h => ?_
  refine zi h hF (fun hF => ?_) (fun hF => ?_)
  ·refine wp_skip ?_
   refine wp_mid (fun a w => ∃ v:tG,f84.j175 k v160 ((f84.l96 k x1) m96) v=some r∧Rel w0 (fun _ => False) Zi Try.f84.ntmps ((fun (v174:tG) => ([(1,.val sh26 x1),(4,.val sh16 (some (([]:(List (Int × (Int × Int)))),(([]:(List (Int × (Int × (Int × (Int × (Int × ByteArray))))))),([]:(List (Int × Int))))))),(5,.val sh16 (some v174)),(6,.val iS v160)]:SS)) v) a w) ?_ ?_
   ·
    refine wp_block ?_
    obtain ⟨hc185,hF⟩:=of_if hF
    obtain ⟨hc186,hF⟩:=of_if hF
    obtain ⟨hc187,hF⟩:=of_if hF
    obtain ⟨r176,hr188,hF⟩:=of_bind hF
    refine wp_regy_seq tok (orc:=orcL [(38,[⟨iS,r176⟩])]) (l:=[1,4,5,6,40]) ([],[],[],[]) 17 nw h (by kernel_rfl) (by kernel_rfl) (ac hc185 (ac hc186 (ac hc187 (ac (fun (hg:((((List.length (gD x1 (tZ v160) lO):Int):Int) == (3:Int))=true)) => c101 k v159 (gD (gD x1 (tZ v160) lO) (tZ (1:Int)) iO) r176 (of_g hg hr188)) an)))) fun a w h => ?_
    refine zi h hF (fun hF => ?_) (fun hF => ?_)
    ·obtain ⟨hc178,hF⟩:=of_if hF
     obtain ⟨hc179,hF⟩:=of_if hF
     obtain ⟨hc180,hF⟩:=of_if hF
     obtain ⟨hc181,hF⟩:=of_if hF
     obtain ⟨hc182,hF⟩:=of_if hF
     obtain ⟨hc183,hF⟩:=of_if hF
     obtain ⟨r177,hr184,hF⟩:=of_bind hF
     refine wp_regX (sxA_ok tok (orc:=orcL [(60,[⟨.pt false 4294967294 .unit,some ()⟩,⟨sh20,r177⟩])]) (spA:=[]) (sp:=[(19,.part [⟨sh20,r177⟩])])) [((1,.val sh26 x1),none,none),((4,.val sh16 (some (([]:(List (Int × (Int × Int)))),(([]:(List (Int × (Int × (Int × (Int × (Int × ByteArray))))))),([]:(List (Int × Int))))))),none,none),((5,.val sh16 (some v159)),none,some 19),((5,.val sh27 (some ((),((),())))),some 19,some 20),((5,.val sh16 (some r177)),some 20,none),((6,.val iS v160),none,none),((40,.val .bool (bif (((List.length (gD x1 (tZ v160) lO):Int):Int) == (3:Int)) then (decide (r176 ≥ iO)) else false)),none,some 20),((41,.copy 5 [.der]),some 0,some 19),((42,.val sh26 x1),some 1,some 20),((43,.val iS v160),some 2,some 20),((44,.val sh28 (some (gD x1 (tZ v160) lO))),some 3,some 20),((45,.val (.sl false 2 iS) (gD x1 (tZ v160) lO)),some 4,some 20),((46,.val (.pt false 0 iS) (some (gD (gD x1 (tZ v160) lO) (tZ iO) iO))),some 5,some 20),((47,.val iS (gD (gD x1 (tZ v160) lO) (tZ iO) iO)),some 6,some 20),((48,.val sh26 x1),some 7,some 20),((49,.val iS v160),some 8,some 20),((50,.val sh28 (some (gD x1 (tZ v160) lO))),some 9,some 20),((51,.val (.sl false 2 iS) (gD x1 (tZ v160) lO)),some 10,some 20),((52,.val (.pt false 0 iS) (some (gD (gD x1 (tZ v160) lO) (tZ (1:Int)) iO))),some 11,some 20),((53,.val iS (gD (gD x1 (tZ v160) lO) (tZ (1:Int)) iO)),some 12,some 20),((54,.val sh26 x1),some 13,some 20),((55,.val iS v160),some 14,some 20),((56,.val sh28 (some (gD x1 (tZ v160) lO))),some 15,some 20),((57,.val (.sl false 2 iS) (gD x1 (tZ v160) lO)),some 16,some 20),((58,.val (.pt false 0 iS) (some (gD (gD x1 (tZ v160) lO) (tZ (2:Int)) iO))),some 17,some 20),((59,.val iS (gD (gD x1 (tZ v160) lO) (tZ (2:Int)) iO)),some 18,some 20),((60,.val sh20 r177),some 19,some 20)] [] [0,2,6,134,390,8582,24966,24967,24974,25478,57734,24975,25479,57735,24990,25486,57742,26502,58246,123270,24991,25487,57743,26503,58247,123271,25022,25502,57758,26510,58254,123278,28550,59270,123782,254342,25023,25503,57759,26511,58255,123279,28551,59271,123783,254343,25086,25534,57790,26526,58270,123294,28558,59278,123790,254350,32646,61318,124806,254854,516486,25087,25535,57791,26527,58271,123295,28559,59279,123791,254351,32647,61319,124807,254855,516487,25598,57854,26558,58302,123326,28574,59294,123806,254366,32654,61326,124814,254862,516494,65414,126854,255878,516998,25599,57855,26559,58303,123327,28575,59295,123807,254367,32655,61327,124815,254863,516495,65415,126855,255879,516999,26622,58366,123390,28606,59326,123838,254398,32670,61342,124830,254878,516510,65422,126862,255886,517006,130950,257926,518022,26623,58367,123391,28607,59327,123839,254399,32671,61343,124831,254879,516511,65423,126863,255887,517007,130951,257927,518023,28670,59390,123902,254462,32702,61374,124862,254910,516542,65438,126878,255902,517022,130958,257934,518030,262022,520070,28671,59391,123903,254463,32703,61375,124863,254911,516543,65439,126879,255903,517023,130959,257935,518031,262023,520071,32766,61438,124926,254974,516606,65470,126910,255934,517054,130974,257950,518046,262030,520078,524166,32767,61439,124927,254975,516607,65471,126911,255935,517055,130975,257951,518047,262031,520079,524167,65534,126974,255998,517118,131006,257982,518078,262046,520094,524174,65535,126975,255999,517119,131007,257983,518079,262047,520095,524175,131070,258046,518142,262078,520126,524190,131071,258047,518143,262079,520127,524191,262142,520190,524222,262143,520191,524223,524286,524287,1048575,2097151] 2097151 [(3,0,1),(5,1,1),(9,2,1),(11,3,1),(15,4,1),(17,5,1),(19,6,1)] h (by kernel_rfl) (by kernel_rfl) (by kernel_rfl) (ac hc178 (ac hc179 (ac hc180 (ac hc181 (ac hc182 (ac hc183 (ac (c105 k v159 (gD (gD x1 (tZ v160) lO) (tZ iO) iO) (gD (gD x1 (tZ v160) lO) (tZ (1:Int)) iO) (gD (gD x1 (tZ v160) lO) (tZ (2:Int)) iO) r177 hr184) an))))))) (fun _ _ _ _ _ h => h) fun a w h => ?_
     exact ⟨r177,hF,ar h [1,4,5,6]⟩
    ·refine wp_skip ?_
     exact ⟨v159,hF,ar h [1,4,5,6]⟩
   ·rintro a w ⟨v174,hF,h⟩
    rw [f84.j175] at hF
    refine zt [1,4,5,6] h an fun a w h => ?_
    exact ⟨(v174,(w64 (v160 + (1:Int)))),hF,ar h [1,4,5,6]⟩
  ·refine wp_exit ?_
   refine wp_seq ?_
   refine zs [4,5,64] h an fun a w h => ?_
   refine zi h hF (fun hF => ?_) (fun hF => ?_)
   ·refine zs [4] h an fun a w h => ?_
    cases hF
    exact wp_ret (ret_okR tok h rfl (by kernel_rfl)).1
   ·refine wp_skip ?_
    refine zs [4] h an fun a w h => ?_
    cases hF
    exact wp_ret (ret_okR tok h rfl (by kernel_rfl)).1
def f85.j1428 (k:Nat) (v1421:Int) (q1387:((List Int) × Bool × Int)→Option ((List (Int × (Int × Int))) × ((List (Int × (Int × (Int × (Int × (Int × ByteArray)))))) × (List (Int × Int))))):((List Int) × Bool)→Option ((List (Int × (Int × Int))) × ((List (Int × (Int × (Int × (Int × (Int × ByteArray)))))) × (List (Int × Int))))
 | (v1426,v1427) => q1387 (v1426,v1427,(IntKind.i64.wrap (v1421 + (1:Int))))
def f85.l1433 (k:Nat) (v1419:(List Int)) (v1420:Bool) (v1220:Int) (q732:(((List (Int × (Int × Int))) × ((List (Int × (Int × (Int × (Int × (Int × ByteArray)))))) × (List (Int × Int)))) × Int)→Option ((List (Int × (Int × Int))) × ((List (Int × (Int × (Int × (Int × (Int × ByteArray)))))) × (List (Int × Int))))):Nat → (((List (Int × (Int × Int))) × ((List (Int × (Int × (Int × (Int × (Int × ByteArray)))))) × (List (Int × Int)))) × Int)→Option ((List (Int × (Int × Int))) × ((List (Int × (Int × (Int × (Int × (Int × ByteArray)))))) × (List (Int × Int))))
 | 0,_ => none
 | m1433+1,(v1452,v1453) => if (bif (decide (v1453 < (List.length v1419:Int))) then v1420 else false) then (if (0≤v1453∧v1453 < (List.length v1419:Int)) then ((f106 k v1452.2.2 (v1220,(List.getD v1419 (Int.toNat v1453) (0:Int)))).bind fun r1457 => (if (decide (((List.length r1457:Int):Int) > (2000:Int))) then (some (([]:(List (Int × (Int × Int)))),(([]:(List (Int × (Int × (Int × (Int × (Int × ByteArray))))))),([]:(List (Int × Int)))))) else ((f85.l1433 k v1419 v1420 v1220 q732) m1433 ((v1452.1,(v1452.2.1,r1457)),(IntKind.i64.wrap (v1453 + (1:Int))))))) else none) else (q732 (v1452,(IntKind.i64.wrap (v1220 + (1:Int)))))
def f85.l1387 (k:Nat) (x0:((List (Int × (Int × Int))) × ((List (Int × (Int × (Int × (Int × (Int × ByteArray)))))) × (List (Int × Int))))) (v1220:Int) (v1219:((List (Int × (Int × Int))) × ((List (Int × (Int × (Int × (Int × (Int × ByteArray)))))) × (List (Int × Int))))) (q732:(((List (Int × (Int × Int))) × ((List (Int × (Int × (Int × (Int × (Int × ByteArray)))))) × (List (Int × Int)))) × Int)→Option ((List (Int × (Int × Int))) × ((List (Int × (Int × (Int × (Int × (Int × ByteArray)))))) × (List (Int × Int))))):Nat → ((List Int) × Bool × Int)→Option ((List (Int × (Int × Int))) × ((List (Int × (Int × (Int × (Int × (Int × ByteArray)))))) × (List (Int × Int))))
 | 0,_ => none
 | m1387+1,(v1419,v1420,v1421) => if (decide (v1421 < (List.length x0.2.1:Int))) then (if (0≤v1421∧v1421 < (List.length x0.2.1:Int)) then (if (((List.getD x0.2.1 (Int.toNat v1421) ((0:Int),((0:Int),((0:Int),((0:Int),((0:Int),(⟨#[]⟩:ByteArray))))))).1:Int) != (List.getD x0.2.1 (Int.toNat v1220) ((0:Int),((0:Int),((0:Int),((0:Int),((0:Int),(⟨#[]⟩:ByteArray))))))).2.1) then (f85.j1428 k v1421 ((f85.l1387 k x0 v1220 v1219 q732) m1387) (v1419,v1420)) else ((some ((bif (((List.getD x0.2.1 (Int.toNat v1421) ((0:Int),((0:Int),((0:Int),((0:Int),((0:Int),(⟨#[]⟩:ByteArray))))))).2.1:Int) == (List.getD x0.2.1 (Int.toNat v1220) ((0:Int),((0:Int),((0:Int),((0:Int),((0:Int),(⟨#[]⟩:ByteArray))))))).1) then (((List.getD x0.2.1 (Int.toNat v1421) ((0:Int),((0:Int),((0:Int),((0:Int),((0:Int),(⟨#[]⟩:ByteArray))))))).2.2.1:Int) == (List.getD x0.2.1 (Int.toNat v1220) ((0:Int),((0:Int),((0:Int),((0:Int),((0:Int),(⟨#[]⟩:ByteArray))))))).2.2.1) else false):Bool)).bind fun v1429 => (if v1429 then (if ((List.length v1419+List.length [v1421])*8≤140737488355328) then (f85.j1428 k v1421 ((f85.l1387 k x0 v1220 v1219 q732) m1387) ((v1419 ++ [v1421]),v1420)) else none) else (f85.j1428 k v1421 ((f85.l1387 k x0 v1220 v1219 q732) m1387) (v1419,true))))) else none) else (f85.l1433 k v1419 v1420 v1220 (q732) k (v1219,(0:Int)))
def f85.l732 (k:Nat) (x0:((List (Int × (Int × Int))) × ((List (Int × (Int × (Int × (Int × (Int × ByteArray)))))) × (List (Int × Int))))):Nat → (((List (Int × (Int × Int))) × ((List (Int × (Int × (Int × (Int × (Int × ByteArray)))))) × (List (Int × Int)))) × Int)→Option ((List (Int × (Int × Int))) × ((List (Int × (Int × (Int × (Int × (Int × ByteArray)))))) × (List (Int × Int))))
 | 0,_ => none
 | m732+1,(v1219,v1220) => if (decide (v1220 < (List.length x0.2.1:Int))) then (if (0≤v1220∧v1220 < (List.length x0.2.1:Int)) then (f85.l1387 k x0 v1220 v1219 ((f85.l732 k x0) m732) k (([]:List Int),false,(0:Int))) else none) else (some v1219)
def f85 (k:Nat) (x0:((List (Int × (Int × Int))) × ((List (Int × (Int × (Int × (Int × (Int × ByteArray)))))) × (List (Int × Int))))):Option ((List (Int × (Int × Int))) × ((List (Int × (Int × (Int × (Int × (Int × ByteArray)))))) × (List (Int × Int)))):=(f47 k x0).bind fun r1 => (if (!r1) then (some (([]:(List (Int × (Int × Int)))),(([]:(List (Int × (Int × (Int × (Int × (Int × ByteArray))))))),([]:(List (Int × Int)))))) else ((f104 k x0).bind fun r2 => (f85.l732 k x0 k (r2,(0:Int)))))
theorem c85 (k:Nat) (x0:tG) (r:tG) (hF:f85 k x0=some r):PCall Try.prog 85 [⟨sh18,x0⟩] [⟨sh20,r⟩]:=by
 refine pcall_intro Try.func85 rfl rfl (Nat.le_of_ble_eq_true rfl) ?_
 intro w0 Zi a w h
 rw [f85] at hF
 refine zs [1,2] h an fun a w h => ?_
 refine wp_seq ?_
 obtain ⟨r1,hr1462,hF⟩:=of_bind hF
 refine zc (orcL [(12,[⟨.bool,r1⟩])]) [1,2,13] h (ac (c47 k x0 r1 hr1462) an) fun a w h => ?_
 refine zi h hF (fun hF => ?_) (fun hF => ?_)
 ·refine zs [2] h an fun a w h => ?_
  cases hF
  exact wp_ret (ret_okR tok h rfl (by kernel_rfl)).1
 ·refine wp_skip ?_
  obtain ⟨r2,hr1461,hF⟩:=of_bind hF
  refine zc (orcL [(16,[⟨sh20,r2⟩])]) [1,2,3] h (ac (c104 k x0 r2 hr1461) an) fun a w h => ?_
  refine wp_seq ?_
  refine zs [1,2,3,4] h an fun a w h => ?_
  refine wp_block ?_
  refine wp_loop_fuel (f85.l732 k x0) (fun ((v1219,v1220):(tG × Int)) => [(1,.val sh17 (some x0)),(2,.val sh16 (some (([]:(List (Int × (Int × Int)))),(([]:(List (Int × (Int × (Int × (Int × (Int × ByteArray))))))),([]:(List (Int × Int))))))),(3,.val sh16 (some v1219)),(4,.val iS v1220)]) (fun v h => by obtain ⟨v1219,v1220⟩:=v; rw [f85.l732] at h; cases h) ?_ hF (ar h [1,2,3,4])
  intro m732 v a w hF h
  obtain ⟨v1219,v1220⟩:=v
  rw [f85.l732] at hF
  refine wp_seq ?_
  refine zs [1,2,3,4,21] h an fun a w h => ?_
  refine zi h hF (fun hF => ?_) (fun hF => ?_)
  ·refine wp_skip ?_
   refine wp_seq <| wp_block ?_
   obtain ⟨hc1460,hF⟩:=of_if hF
   refine zs [1,2,3,4,5] h (ac hc1460 an) fun a w h => ?_
   refine zs [1,2,3,4,5,6] h an fun a w h => ?_
   refine zs [1,2,3,4,5,6,7] h an fun a w h => ?_
   refine wp_seq ?_
   refine zs [1,2,3,4,5,6,7,8] h an fun a w h => ?_
   refine wp_block ?_
   refine wp_loop_fuel (f85.l1387 k x0 v1220 v1219 ((f85.l732 k x0) m732)) (fun ((v1419,v1420,v1421):((List Int) × Bool × Int)) => [(1,.val sh17 (some x0)),(2,.val sh16 (some (([]:(List (Int × (Int × Int)))),(([]:(List (Int × (Int × (Int × (Int × (Int × ByteArray))))))),([]:(List (Int × Int))))))),(3,.val sh16 (some v1219)),(4,.val iS v1220),(5,.val sh19 (some (gD x0.2.1 (tZ v1220) zR))),(6,.val (.sl true 2 iS) v1419),(7,.val .bool v1420),(8,.val iS v1421)]) (fun v h => by obtain ⟨v1419,v1420,v1421⟩:=v; rw [f85.l1387] at h; cases h) ?_ hF (ar h [1,2,3,4,5,6,7,8])
   intro m1387 v a w hF h
   obtain ⟨v1419,v1420,v1421⟩:=v
   rw [f85.l1387] at hF
   refine wp_seq ?_
   refine zs [1,2,3,4,5,6,7,8,34] h an fun a w h => ?_
   refine zi h hF (fun hF => ?_) (fun hF => ?_)
   ·refine wp_skip ?_
    refine wp_mid (fun a w => ∃ v:((List Int) × Bool),f85.j1428 k v1421 ((f85.l1387 k x0 v1220 v1219 ((f85.l732 k x0) m732)) m1387) v=some r∧Rel w0 (fun _ => False) Zi Try.f85.ntmps ((fun ((v1426,v1427):((List Int) × Bool)) => ([(1,.val sh17 (some x0)),(2,.val sh16 (some (([]:(List (Int × (Int × Int)))),(([]:(List (Int × (Int × (Int × (Int × (Int × ByteArray))))))),([]:(List (Int × Int))))))),(3,.val sh16 (some v1219)),(4,.val iS v1220),(5,.val sh19 (some (gD x0.2.1 (tZ v1220) zR))),(6,.val (.sl true 2 iS) v1426),(7,.val .bool v1427),(8,.val iS v1421)]:SS)) v) a w) ?_ ?_
    ·
     refine wp_block ?_
     obtain ⟨hc1432,hF⟩:=of_if hF
     refine zs [1,2,3,4,5,6,7,8,9] h (ac hc1432 an) fun a w h => ?_
     refine wp_seq ?_
     refine zs [1,2,3,4,5,6,7,8,9,46] h an fun a w h => ?_
     refine zi h hF (fun hF => ?_) (fun hF => ?_)
     ·refine wp_exit ?_
      exact ⟨(v1419,v1420),hF,ar h [1,2,3,4,5,6,7,8]⟩
     ·refine wp_skip ?_
      refine zs [1,2,3,4,5,6,7,8,58] h an fun a w h => ?_
      obtain ⟨v1429,hv1431,hF⟩:=of_bind hF
      replace h:=h.cast (S':=[(1,.val sh17 (some x0)),(2,.val sh16 (some (([]:(List (Int × (Int × Int)))),(([]:(List (Int × (Int × (Int × (Int × (Int × ByteArray))))))),([]:(List (Int × Int))))))),(3,.val sh16 (some v1219)),(4,.val iS v1220),(5,.val sh19 (some (gD x0.2.1 (tZ v1220) zR))),(6,.val (.sl true 2 iS) v1419),(7,.val .bool v1420),(8,.val iS v1421),(58,.val .bool v1429)]) (by cases hv1431; kernel_rfl)
      refine zi h hF (fun hF => ?_) (fun hF => ?_)
      ·obtain ⟨hc1430,hF⟩:=of_if hF
       refine zt [1,2,3,4,5,6,7,8] h (ac hc1430 an) fun a w h => ?_
       exact ⟨((v1419 ++ [v1421]),v1420),hF,ar h [1,2,3,4,5,6,7,8]⟩
      ·refine zt [1,2,3,4,5,6,7,8] h an fun a w h => ?_
       exact ⟨(v1419,true),hF,ar h [1,2,3,4,5,6,7,8]⟩
    ·rintro a w ⟨v,hF,h⟩
     obtain ⟨v1426,v1427⟩:=v
     rw [f85.j1428] at hF
     refine zt [1,2,3,4,5,6,7,8] h an fun a w h => ?_
     exact ⟨(v1426,v1427,(w64 (v1421 + (1:Int)))),hF,ar h [1,2,3,4,5,6,7,8]⟩
   ·refine wp_exit ?_
    refine zs [1,2,3,4,6,7,10] h an fun a w h => ?_
    refine wp_block ?_
    refine wp_loop_fuel (f85.l1433 k v1419 v1420 v1220 ((f85.l732 k x0) m732)) (fun ((v1452,v1453):(tG × Int)) => [(1,.val sh17 (some x0)),(2,.val sh16 (some (([]:(List (Int × (Int × Int)))),(([]:(List (Int × (Int × (Int × (Int × (Int × ByteArray))))))),([]:(List (Int × Int))))))),(3,.val sh16 (some v1452)),(4,.val iS v1220),(6,.val (.sl true 2 iS) v1419),(7,.val .bool v1420),(10,.val iS v1453)]) (fun v h => by obtain ⟨v1452,v1453⟩:=v; rw [f85.l1433] at h; cases h) ?_ hF (ar h [1,2,3,4,6,7,10])
    intro m1433 v a w hF h
    obtain ⟨v1452,v1453⟩:=v
    rw [f85.l1433] at hF
    refine wp_seq ?_
    refine zs [1,2,3,4,6,7,10,69] h an fun a w h => ?_
    refine zi h hF (fun hF => ?_) (fun hF => ?_)
    ·refine wp_skip ?_
     refine wp_seq <| wp_block ?_
     obtain ⟨hc1458,hF⟩:=of_if hF
     obtain ⟨r1457,hr1459,hF⟩:=of_bind hF
     refine wp_regX_seq (sxA_ok tok (orc:=o0) (spA:=[(8,⟨sh25,r1457⟩)]) (sp:=[])) [((1,.val sh17 (some x0)),none,none),((2,.val sh16 (some (([]:(List (Int × (Int × Int)))),(([]:(List (Int × (Int × (Int × (Int × (Int × ByteArray))))))),([]:(List (Int × Int))))))),none,none),((3,.val sh16 (some v1452)),none,some 10),((3,.val sh16 (some (v1452.1,(v1452.2.1,r1457)))),some 10,none),((4,.val iS v1220),none,none),((6,.val (.sl true 2 iS) v1419),none,none),((7,.val .bool v1420),none,none),((10,.val iS v1453),none,none),((69,.val .bool (bif (decide (v1453 < (List.length v1419:Int))) then v1420 else false)),none,some 10),((72,.addr 3 [.der,.snd,.snd]),some 0,some 10),((73,.copy 3 [.der,.snd,.snd]),some 1,some 10),((74,.val iS v1220),some 2,some 10),((75,.copy 6 []),some 3,some 10),((76,.val iS v1453),some 4,some 10),((77,.addr 6 [.idx (tZ v1453)]),some 5,some 10),((78,.val iS (gD v1419 (tZ v1453) iO)),some 6,some 10),((79,.val sh5 (v1220,(gD v1419 (tZ v1453) iO))),some 7,some 10),((80,.grown 3 [.der,.snd,.snd] ⟨sh25,r1457⟩),some 8,some 10),((81,.addr 3 [.der,.snd,.snd]),some 9,some 10)] [] [0,4,12,28,29,60,31,61,124,63,125,252,127,253,255,511,1023,2047] 2047 [(5,0,1),(8,1,1),(10,2,1)] h (by kernel_rfl) (by kernel_rfl) (by kernel_rfl) (ac hc1458 (ac (c106 k v1452.2.2 (v1220,(gD v1419 (tZ v1453) iO)) r1457 hr1459) (ac (show ([.der,.snd,.snd]:Path)=[.der,.snd,.snd] from rfl) an))) (fun _ _ _ _ _ h => h) fun a w h => ?_
     refine zs [1,2,3,4,6,7,10,85] h an fun a w h => ?_
     refine zi h hF (fun hF => ?_) (fun hF => ?_)
     ·refine zs [2] h an fun a w h => ?_
      cases hF
      exact wp_ret (ret_okR tok h rfl (by kernel_rfl)).1
     ·refine wp_skip ?_
      refine zt [1,2,3,4,6,7,10] h an fun a w h => ?_
      exact ⟨((v1452.1,(v1452.2.1,r1457)),(w64 (v1453 + (1:Int)))),hF,ar h [1,2,3,4,6,7,10]⟩
    ·refine wp_exit ?_
     refine zt [1,2,3,4] h an fun a w h => ?_
     exact ⟨(v1452,(w64 (v1220 + (1:Int)))),hF,ar h [1,2,3,4]⟩
  ·refine wp_exit ?_
   refine zs [2] h an fun a w h => ?_
   cases hF
   exact wp_ret (ret_okR tok h rfl (by kernel_rfl)).1
def f60.j126 (k:Nat) (r122:(Bool × ((List Int) × (Int × Int)))):((List (Int × (Int × Int))) × ((List (Int × (Int × (Int × (Int × (Int × ByteArray)))))) × (List (Int × Int))))→Option (((List (Int × (Int × Int))) × ((List (Int × (Int × (Int × (Int × (Int × ByteArray)))))) × (List (Int × Int)))) × ((List Int) × (Int × Int)))
 | v125 => some (v125,r122.2)
def f60.j121 (k:Nat):(((List Int) × (Int × Int)) × ((List (Int × (Int × Int))) × ((List (Int × (Int × (Int × (Int × (Int × ByteArray)))))) × (List (Int × Int)))))→Option (((List (Int × (Int × Int))) × ((List (Int × (Int × (Int × (Int × (Int × ByteArray)))))) × (List (Int × Int)))) × ((List Int) × (Int × Int)))
 | (v119,v120) => (f61 k v119 (3:Int)).bind fun r122 => (if r122.1 then ((f85 k v120).bind fun r127 => (f60.j126 k r122 r127)) else (f60.j126 k r122 v120))
def f60.l186 (k:Nat) (r3:((List (Int × (Int × Int))) × ((List (Int × (Int × (Int × (Int × (Int × ByteArray)))))) × (List (Int × Int))))) (q121:(((List Int) × (Int × Int)) × ((List (Int × (Int × Int))) × ((List (Int × (Int × (Int × (Int × (Int × ByteArray)))))) × (List (Int × Int)))))→Option (((List (Int × (Int × Int))) × ((List (Int × (Int × (Int × (Int × (Int × ByteArray)))))) × (List (Int × Int)))) × ((List Int) × (Int × Int)))):Nat → (((List Int) × (Int × Int)) × (List (List Int)) × Int)→Option (((List (Int × (Int × Int))) × ((List (Int × (Int × (Int × (Int × (Int × ByteArray)))))) × (List (Int × Int)))) × ((List Int) × (Int × Int)))
 | 0,_ => none
 | m186+1,(v224,v225,v226) => if (decide (v226 > (0:Int))) then ((f54 k v224 (List.length r3.2.1:Int)).bind fun r234 => (if (0≤r234.1∧r234.1 < (List.length r3.2.1:Int)) then (if (0 ≤ (List.getD r3.2.1 (Int.toNat r234.1) ((0:Int),((0:Int),((0:Int),((0:Int),((0:Int),(⟨#[]⟩:ByteArray))))))).2.1 ∧ (List.getD r3.2.1 (Int.toNat r234.1) ((0:Int),((0:Int),((0:Int),((0:Int),((0:Int),(⟨#[]⟩:ByteArray))))))).2.1 < (List.length r3.1:Int)) then ((f54 k r234.2 (9:Int)).bind fun r235 => (if ((List.length v225+List.length [[(List.getD r3.2.1 (Int.toNat r234.1) ((0:Int),((0:Int),((0:Int),((0:Int),((0:Int),(⟨#[]⟩:ByteArray))))))).2.2.1,(List.getD r3.1 (Int.toNat (List.getD r3.2.1 (Int.toNat r234.1) ((0:Int),((0:Int),((0:Int),((0:Int),((0:Int),(⟨#[]⟩:ByteArray))))))).2.1) ((0:Int),((0:Int),(0:Int)))).1,(IntKind.i64.wrap ((100:Int)+r235.1))]])*24≤140737488355328) then ((f60.l186 k r3 q121) m186 (r235.2,(v225 ++ [[(List.getD r3.2.1 (Int.toNat r234.1) ((0:Int),((0:Int),((0:Int),((0:Int),((0:Int),(⟨#[]⟩:ByteArray))))))).2.2.1,(List.getD r3.1 (Int.toNat (List.getD r3.2.1 (Int.toNat r234.1) ((0:Int),((0:Int),((0:Int),((0:Int),((0:Int),(⟨#[]⟩:ByteArray))))))).2.1) ((0:Int),((0:Int),(0:Int)))).1,(IntKind.i64.wrap ((100:Int)+r235.1))]]),(IntKind.i64.wrap (v226 - (1:Int))))) else none)) else none) else none)) else ((f84 k r3 v225).bind fun r241 => (q121 (v224,r241)))
def f60 (k:Nat) (x0:((List Int) × (Int × Int))):Option (((List (Int × (Int × Int))) × ((List (Int × (Int × (Int × (Int × (Int × ByteArray)))))) × (List (Int × Int)))) × ((List Int) × (Int × Int))):=(f82 k x0).bind fun r1 => ((f54 k r1.2 (2:Int)).bind fun r2 => ((f83 k r1.1 (IntKind.i64.wrap ((1:Int)+r2.1))).bind fun r3 => ((f61 k r2.2 (2:Int)).bind fun r4 => (if (bif r4.1 then (decide (((List.length r3.2.1:Int):Int) > (0:Int))) else false) then ((f54 k r4.2 (4:Int)).bind fun r130 => (f60.l186 k r3 (f60.j121 k) k (r130.2,([]:List (List Int)),r130.1))) else (f60.j121 k (r4.2,r3))))))
theorem c60 (k:Nat) (x0:((List Int) × (Int × Int))) (r:(tG × ((List Int) × (Int × Int)))) (hF:f60 k x0=some r):PMut Try.prog 60 [⟨sh0,some x0⟩] [⟨sh20,r.1⟩] (List.set [⟨sh0,some x0⟩] 0 ⟨sh0,some r.2⟩):=by
 refine pmutO_intro (j:=0) (fin:=⟨sh0,some r.2⟩) Try.func60 rfl rfl (Nat.le_of_ble_eq_true rfl) (Nat.le_of_ble_eq_true rfl) (by kernel_rfl) (by kernel_rfl) ?_
 intro w0 Zi f0 v0 hw a w h
 rw [f60] at hF
 refine wp_reg_seq tok (orc:=o0) (fz:=[]) (l:=[0,2]) (.inl rfl) h (by kernel_rfl) an fun a w h => ?_
 obtain ⟨r1,hr247,hF⟩:=of_bind hF
 refine wp_reg_seq tok (orc:=orcL [(9,[⟨.pt false 4294967295 (.pt true 97 (.st (.pair (.sl false 5 (.int .u8)) (.pair iS iS)))),some (some r1.2)⟩,⟨sh9,r1.1⟩])]) (fz:=[]) (l:=[0,2,3]) (.inl rfl) h (by kernel_rfl) (ac (c82 k x0 r1 hr247) an) fun a w h => ?_
 obtain ⟨r2,hr245,hF⟩:=of_bind hF
 obtain ⟨r3,hr246,hF⟩:=of_bind hF
 refine wp_regv_seq tok (orc:=orcL [(12,[⟨.pt false 4294967295 (.pt true 97 (.st (.pair (.sl false 5 (.int .u8)) (.pair iS iS)))),some (some r2.2)⟩,⟨iS,r2.1⟩]),(14,[⟨sh20,r3⟩])]) [((0,.val sh0 (some r1.2)),none,some 2),((0,.val sh0 (some r2.2)),some 2,none),((2,.val sh16 (some (([]:(List (Int × (Int × Int)))),(([]:(List (Int × (Int × (Int × (Int × (Int × ByteArray))))))),([]:(List (Int × Int))))))),none,none),((3,.val sh3 (some r1.1)),none,some 6),((4,.val sh16 (some (([]:(List (Int × (Int × Int)))),(([]:(List (Int × (Int × (Int × (Int × (Int × ByteArray))))))),([]:(List (Int × Int))))))),some 5,some 6),((4,.val sh16 (some r3)),some 6,none),((10,.copy 3 [.der]),some 0,some 6),((12,.val iS r2.1),some 2,some 6),((13,.val iS (w64 ((1:Int)+r2.1))),some 3,some 6),((14,.val sh20 r3),some 4,some 6)] [(11,0,1,2)] [0,2,3,6,34,7,35,14,38,15,39,46,31,47,63,127] 127 [(2,0,1),(4,1,1)] h (by kernel_rfl) (by kernel_rfl) (by kernel_rfl) (ac (c54 k r1.2 (2:Int) r2 hr245) (ac (c83 k r1.1 (w64 ((1:Int)+r2.1)) r3 hr246) an)) (fun _ _ _ _ _ h => h) fun a w h => ?_
 refine wp_seq ?_
 obtain ⟨r4,hr244,hF⟩:=of_bind hF
 refine wp_reg_seq tok (orc:=orcL [(16,[⟨.pt false 4294967295 (.pt true 97 (.st (.pair (.sl false 5 (.int .u8)) (.pair iS iS)))),some (some r4.2)⟩,⟨.bool,r4.1⟩])]) (fz:=[]) (l:=[0,2,4,22]) (.inl rfl) h (by kernel_rfl) (ac (c61 k r2.2 (2:Int) r4 hr244) an) fun a w h => ?_
 refine wp_midT (fun a w => ∃ v:(((List Int) × (Int × Int)) × tG),f60.j121 k v=some r∧Rel w0 f0 Zi ⟨Try.f60.ntmps,[0],fun _ => v0⟩ ((fun ((v119,v120):(((List Int) × (Int × Int)) × tG)) => ([(0,.val sh0 (some v119)),(2,.val sh16 (some (([]:(List (Int × (Int × Int)))),(([]:(List (Int × (Int × (Int × (Int × (Int × ByteArray))))))),([]:(List (Int × Int))))))),(4,.val sh16 (some v120))]:SS)) v) a w) ?_ ?_
 ·
  refine zi h hF (fun hF => ?_) (fun hF => ?_)
  ·refine wp_reg_seq tok (orc:=o0) (fz:=[]) (l:=[0,2,4,5]) (.inl rfl) h (by kernel_rfl) an fun a w h => ?_
   refine wp_seq ?_
   obtain ⟨r130,hr243,hF⟩:=of_bind hF
   refine wp_reg_seq tok (orc:=orcL [(25,[⟨.pt false 4294967295 (.pt true 97 (.st (.pair (.sl false 5 (.int .u8)) (.pair iS iS)))),some (some r130.2)⟩,⟨iS,r130.1⟩])]) (fz:=[]) (l:=[0,2,4,5,6]) (.inl rfl) h (by kernel_rfl) (ac (c54 k r4.2 (4:Int) r130 hr243) an) fun a w h => ?_
   refine wp_block ?_
   refine wp_loop_fuel (f60.l186 k r3 (f60.j121 k)) (fun ((v224,v225,v226):(((List Int) × (Int × Int)) × (List (List Int)) × Int)) => [(0,.val sh0 (some v224)),(2,.val sh16 (some (([]:(List (Int × (Int × Int)))),(([]:(List (Int × (Int × (Int × (Int × (Int × ByteArray))))))),([]:(List (Int × Int))))))),(4,.val sh16 (some r3)),(5,.val sh21 v225),(6,.val iS v226)]) (fun v h => by obtain ⟨v224,v225,v226⟩:=v; rw [f60.l186] at h; cases h) ?_ hF (h.arrive (fz:=[]) (l:=[0,2,4,5,6]) (.inl rfl) (by kernel_rfl))
   intro m186 v a w hF h
   obtain ⟨v224,v225,v226⟩:=v
   rw [f60.l186] at hF
   refine wp_seq ?_
   refine wp_reg_seq tok (orc:=o0) (fz:=[]) (l:=[0,2,4,5,6,27]) (.inl rfl) h (by kernel_rfl) an fun a w h => ?_
   refine zi h hF (fun hF => ?_) (fun hF => ?_)
   ·refine wp_skip ?_
    refine wp_seq <| wp_block ?_
    obtain ⟨r234,hr239,hF⟩:=of_bind hF
    obtain ⟨hc240,hF⟩:=of_if hF
    refine wp_regv_seq tok (orc:=orcL [(36,[⟨.pt false 4294967295 (.pt true 97 (.st (.pair (.sl false 5 (.int .u8)) (.pair iS iS)))),some (some r234.2)⟩,⟨iS,r234.1⟩])]) [((0,.val sh0 (some v224)),none,some 6),((0,.val sh0 (some r234.2)),some 6,none),((2,.val sh16 (some (([]:(List (Int × (Int × Int)))),(([]:(List (Int × (Int × (Int × (Int × (Int × ByteArray))))))),([]:(List (Int × Int))))))),none,none),((4,.val sh16 (some r3)),none,none),((5,.val sh21 v225),none,none),((6,.val iS v226),none,none),((7,.val sh19 (some zR)),some 9,some 10),((7,.val sh19 (some (gD r3.2.1 (tZ r234.1) zR))),some 10,none),((27,.val .bool (decide (v226 > iO))),none,some 10),((30,.addr 4 [.der,.snd,.fst]),some 0,some 10),((31,.copy 4 [.der,.snd,.fst]),some 1,some 10),((33,.addr 4 [.der,.snd,.fst]),some 3,some 10),((34,.copy 4 [.der,.snd,.fst]),some 4,some 10),((35,.val iS (List.length r3.2.1:Int)),some 5,some 10),((36,.val iS r234.1),some 6,some 10),((37,.addr 4 [.der,.snd,.fst,.idx (tZ r234.1)]),some 7,some 10),((38,.val sh22 (gD r3.2.1 (tZ r234.1) zR)),some 8,some 10)] [(32,0,2,6)] [0,4,5,12,516,7,13,517,28,524,15,519,29,525,60,540,31,527,61,541,124,572,63,543,125,573,636,127,575,637,255,639,511,767,1023,2047] 2047 [(6,0,1),(7,1,1)] h (by kernel_rfl) (by kernel_rfl) (by kernel_rfl) (ac (c54 k v224 (List.length r3.2.1:Int) r234 hr239) (ac hc240 an)) (fun _ _ _ _ _ h => h) fun a w h => ?_
    obtain ⟨hc236,hF⟩:=of_if hF
    obtain ⟨r235,hr237,hF⟩:=of_bind hF
    obtain ⟨hc238,hF⟩:=of_if hF
    refine wp_regv tok (orc:=orcL [(50,[⟨.pt false 4294967295 (.pt true 97 (.st (.pair (.sl false 5 (.int .u8)) (.pair iS iS)))),some (some r235.2)⟩,⟨iS,r235.1⟩])]) [((0,.val sh0 (some r234.2)),none,some 11),((0,.val sh0 (some r235.2)),some 11,none),((2,.val sh16 (some (([]:(List (Int × (Int × Int)))),(([]:(List (Int × (Int × (Int × (Int × (Int × ByteArray))))))),([]:(List (Int × Int))))))),none,none),((4,.val sh16 (some r3)),none,none),((5,.val sh21 v225),none,some 15),((5,.val sh21 (v225 ++ [[(gD r3.2.1 (tZ r234.1) zR).2.2.1,(gD r3.1 (tZ (gD r3.2.1 (tZ r234.1) zR).2.1) (iO,(iO,iO))).1,(w64 ((100:Int)+r235.1))]])),some 16,none),((6,.val iS v226),none,none),((7,.val sh19 (some (gD r3.2.1 (tZ r234.1) zR))),none,some 16),((39,.copy 5 []),some 0,some 15),((40,.addr 7 [.der,.snd,.snd,.fst]),some 1,some 16),((41,.val iS (gD r3.2.1 (tZ r234.1) zR).2.2.1),some 2,some 16),((42,.addr 4 [.der,.fst]),some 3,some 16),((43,.copy 4 [.der,.fst]),some 4,some 16),((44,.addr 7 [.der,.snd,.fst]),some 5,some 16),((45,.val iS (gD r3.2.1 (tZ r234.1) zR).2.1),some 6,some 16),((46,.addr 4 [.der,.fst,.idx (tZ (gD r3.2.1 (tZ r234.1) zR).2.1)]),some 7,some 16),((47,.addr 4 [.der,.fst,.idx (tZ (gD r3.2.1 (tZ r234.1) zR).2.1),.fst]),some 8,some 16),((48,.val iS (gD r3.1 (tZ (gD r3.2.1 (tZ r234.1) zR).2.1) (iO,(iO,iO))).1),some 9,some 16),((50,.val iS r235.1),some 11,some 16),((51,.val iS (w64 ((100:Int)+r235.1))),some 12,some 16),((52,.val (.sl true 2 iS) [(gD r3.2.1 (tZ r234.1) zR).2.2.1,(gD r3.1 (tZ (gD r3.2.1 (tZ r234.1) zR).2.1) (iO,(iO,iO))).1,(w64 ((100:Int)+r235.1))]),some 13,some 14),((53,.val sh21 [[(gD r3.2.1 (tZ r234.1) zR).2.2.1,(gD r3.1 (tZ (gD r3.2.1 (tZ r234.1) zR).2.1) (iO,(iO,iO))).1,(w64 ((100:Int)+r235.1))]]),some 14,some 15),((54,.val sh21 (v225 ++ [[(gD r3.2.1 (tZ r234.1) zR).2.2.1,(gD r3.1 (tZ (gD r3.2.1 (tZ r234.1) zR).2.1) (iO,(iO,iO))).1,(w64 ((100:Int)+r235.1))]])),some 15,some 16)] [(49,0,10,11)] [0,1,1025,1027,1033,1057,3073,1031,1035,1059,3075,1049,1065,3081,1121,3105,7169,1039,1063,3079,1051,1067,3083,1123,3107,7171,1081,3097,1129,3113,7177,3169,7201,1055,1071,3087,1127,3111,7175,1083,3099,1131,3115,7179,3171,7203,1145,3129,7193,3177,7209,7265,1087,3103,1135,3119,7183,3175,7207,1147,3131,7195,3179,7211,7267,1273,3193,7225,7273,1151,3135,7199,3183,7215,7271,1275,3195,7227,7275,1529,3321,7289,1279,3199,7231,7279,1531,3323,7291,2041,3577,7417,1535,3327,7295,2043,3579,7419,4089,7673,2047,3583,7423,4091,7675,8185,4095,7679,8187,8191,16383,32767,65535,131071] 131071 [(7,0,1),(11,1,1),(15,2,1)] h (by kernel_rfl) (by kernel_rfl) (by kernel_rfl) (ac hc236 (ac (c54 k r234.2 (9:Int) r235 hr237) (ac hc238 an))) (fun _ _ _ _ _ h => h) fun a w h => ?_
    refine wp_reg tok (orc:=o0) (fz:=[]) (l:=[0,2,4,5,6]) (.inl rfl) h (by kernel_rfl) an fun a w h => ?_
    exact ⟨(r235.2,(v225 ++ [[(gD r3.2.1 (tZ r234.1) zR).2.2.1,(gD r3.1 (tZ (gD r3.2.1 (tZ r234.1) zR).2.1) (iO,(iO,iO))).1,(w64 ((100:Int)+r235.1))]]),(w64 (v226 - (1:Int)))),hF,h.arrive (fz:=[]) (l:=[0,2,4,5,6]) (.inl rfl) (by kernel_rfl)⟩
   ·refine wp_exit ?_
    obtain ⟨r241,hr242,hF⟩:=of_bind hF
    refine wp_reg tok (orc:=orcL [(57,[⟨sh20,r241⟩])]) (fz:=[]) (l:=[0,2,4]) (.inl rfl) h (by kernel_rfl) (ac (c84 k r3 v225 r241 hr242) an) fun a w h => ?_
    exact ⟨(v224,r241),hF,h.arrive (fz:=[]) (l:=[0,2,4]) (.inl rfl) (by kernel_rfl)⟩
  ·refine wp_skip ?_
   exact ⟨(r4.2,r3),hF,h.arrive (fz:=[]) (l:=[0,2,4]) (.inl rfl) (by kernel_rfl)⟩
 ·rintro a w ⟨v,hF,h⟩
  obtain ⟨v119,v120⟩:=v
  rw [f60.j121] at hF
  refine wp_seq ?_
  obtain ⟨r122,hr129,hF⟩:=of_bind hF
  refine wp_reg_seq tok (orc:=orcL [(59,[⟨.pt false 4294967295 (.pt true 97 (.st (.pair (.sl false 5 (.int .u8)) (.pair iS iS)))),some (some r122.2)⟩,⟨.bool,r122.1⟩])]) (fz:=[]) (l:=[0,2,4,59]) (.inl rfl) h (by kernel_rfl) (ac (c61 k v119 (3:Int) r122 hr129) an) fun a w h => ?_
  refine wp_midT (fun a w => ∃ v:tG,f60.j126 k r122 v=some r∧Rel w0 f0 Zi ⟨Try.f60.ntmps,[0],fun _ => v0⟩ ((fun (v125:tG) => ([(0,.val sh0 (some r122.2)),(2,.val sh16 (some (([]:(List (Int × (Int × Int)))),(([]:(List (Int × (Int × (Int × (Int × (Int × ByteArray))))))),([]:(List (Int × Int))))))),(4,.val sh16 (some v125))]:SS)) v) a w) ?_ ?_
  ·
   refine zi h hF (fun hF => ?_) (fun hF => ?_)
   ·obtain ⟨r127,hr128,hF⟩:=of_bind hF
    refine wp_reg tok (orc:=orcL [(61,[⟨sh20,r127⟩])]) (fz:=[]) (l:=[0,2,4]) (.inl rfl) h (by kernel_rfl) (ac (c85 k v120 r127 hr128) an) fun a w h => ?_
    exact ⟨r127,hF,h.arrive (fz:=[]) (l:=[0,2,4]) (.inl rfl) (by kernel_rfl)⟩
   ·refine wp_skip ?_
    exact ⟨v120,hF,h.arrive (fz:=[]) (l:=[0,2,4]) (.inl rfl) (by kernel_rfl)⟩
  ·rintro a w ⟨v125,hF,h⟩
   rw [f60.j126] at hF
   refine wp_reg_seq tok (orc:=o0) (fz:=[]) (l:=[0,2]) (.inl rfl) h (by kernel_rfl) an fun a w h => ?_
   cases hF
   exact wp_ret (retO_ok tok h rfl (by kernel_rfl)).1
def f62 (k:Nat) (x0:((List Int) × (Int × Int))) (x1:((List (Int × (Int × Int))) × ((List (Int × (Int × (Int × (Int × (Int × ByteArray)))))) × (List (Int × Int))))):Option (((List Int) × (Int × Int)) × ((List (Int × (Int × Int))) × ((List (Int × (Int × (Int × (Int × (Int × ByteArray)))))) × (List (Int × Int))))):=if (((List.length x1.2.1:Int):Int) == (0:Int)) then (some (x0,x1)) else ((f54 k x0 (List.length x1.2.1:Int)).bind fun r1 => (if (0≤r1.1∧r1.1 < (List.length x1.2.1:Int)) then ((f54 k r1.2 (6:Int)).bind fun r2 => (if (r2.1 == (0:Int)) then ((f54 k r2.2 (3:Int)).bind fun r3 => (if (0≤r3.1∧r3.1 < (List.length [(-1:Int),(0:Int),(List.length x1.1:Int)]:Int)) then (some (r3.2,(x1.1,((List.set x1.2.1 (Int.toNat r1.1) ((List.getD [(-1:Int),(0:Int),(List.length x1.1:Int)] (Int.toNat r3.1) (0:Int)),(List.getD x1.2.1 (Int.toNat r1.1) ((0:Int),((0:Int),((0:Int),((0:Int),((0:Int),(⟨#[]⟩:ByteArray))))))).2)),x1.2.2)))) else none)) else (if (r2.1 == (1:Int)) then ((f54 k r2.2 (3:Int)).bind fun r6 => (if (0≤r6.1∧r6.1 < (List.length [(0:Int),(1000000:Int),(1000001:Int)]:Int)) then ((some ((List.set x1.2.1 (Int.toNat r1.1) ((List.getD x1.2.1 (Int.toNat r1.1) ((0:Int),((0:Int),((0:Int),((0:Int),((0:Int),(⟨#[]⟩:ByteArray))))))).1,((List.getD x1.2.1 (Int.toNat r1.1) ((0:Int),((0:Int),((0:Int),((0:Int),((0:Int),(⟨#[]⟩:ByteArray))))))).2.1,((List.getD x1.2.1 (Int.toNat r1.1) ((0:Int),((0:Int),((0:Int),((0:Int),((0:Int),(⟨#[]⟩:ByteArray))))))).2.2.1,((List.getD [(0:Int),(1000000:Int),(1000001:Int)] (Int.toNat r6.1) (0:Int)),(List.getD x1.2.1 (Int.toNat r1.1) ((0:Int),((0:Int),((0:Int),((0:Int),((0:Int),(⟨#[]⟩:ByteArray))))))).2.2.2.2))))):(List (Int × (Int × (Int × (Int × (Int × ByteArray)))))))).bind fun v7 => (some (r6.2,(x1.1,(v7,x1.2.2))))) else none)) else (if (r2.1 == (2:Int)) then ((some ((List.set x1.2.1 (Int.toNat r1.1) ((List.getD x1.2.1 (Int.toNat r1.1) ((0:Int),((0:Int),((0:Int),((0:Int),((0:Int),(⟨#[]⟩:ByteArray))))))).1,((List.getD x1.2.1 (Int.toNat r1.1) ((0:Int),((0:Int),((0:Int),((0:Int),((0:Int),(⟨#[]⟩:ByteArray))))))).2.1,((List.getD x1.2.1 (Int.toNat r1.1) ((0:Int),((0:Int),((0:Int),((0:Int),((0:Int),(⟨#[]⟩:ByteArray))))))).2.2.1,((List.getD x1.2.1 (Int.toNat r1.1) ((0:Int),((0:Int),((0:Int),((0:Int),((0:Int),(⟨#[]⟩:ByteArray))))))).2.2.2.1,((-1:Int),(List.getD x1.2.1 (Int.toNat r1.1) ((0:Int),((0:Int),((0:Int),((0:Int),((0:Int),(⟨#[]⟩:ByteArray))))))).2.2.2.2.2)))))):(List (Int × (Int × (Int × (Int × (Int × ByteArray)))))))).bind fun v11 => (some (r2.2,(x1.1,(v11,x1.2.2))))) else (if (r2.1 == (3:Int)) then ((f54 k r2.2 (4:Int)).bind fun r13 => ((f54 k r13.2 (4:Int)).bind fun r14 => (if ((List.length x1.2.2+List.length [(r13.1,r14.1)])*16≤140737488355328) then (some (r14.2,(x1.1,(x1.2.1,(List.append x1.2.2 [(r13.1,r14.1)]))))) else none))) else (if (r2.1 == (4:Int)) then (if (0 ≤ (0:Int) ∧ (0:Int) < (List.length x1.1:Int)) then (some (r2.2,((List.set x1.1 (Int.toNat (0:Int)) ((5:Int),(List.getD x1.1 (Int.toNat (0:Int)) ((0:Int),((0:Int),(0:Int)))).2)),x1.2))) else none) else (if (r2.1 == (5:Int)) then (some (r2.2,(x1.1,((List.set x1.2.1 (Int.toNat r1.1) ((List.getD x1.2.1 (Int.toNat r1.1) ((0:Int),((0:Int),((0:Int),((0:Int),((0:Int),(⟨#[]⟩:ByteArray))))))).1,((List.getD x1.2.1 (Int.toNat r1.1) ((0:Int),((0:Int),((0:Int),((0:Int),((0:Int),(⟨#[]⟩:ByteArray))))))).2.1,((0:Int),(List.getD x1.2.1 (Int.toNat r1.1) ((0:Int),((0:Int),((0:Int),((0:Int),((0:Int),(⟨#[]⟩:ByteArray))))))).2.2.2)))),x1.2.2)))) else (some (r2.2,x1))))))))) else none))
theorem c62 (k:Nat) (x0:((List Int) × (Int × Int))) (x1:tG) (r:(((List Int) × (Int × Int)) × tG)) (hF:f62 k x0 x1=some r):PMut Try.prog 62 [⟨sh0,some x0⟩,⟨sh16,some x1⟩] [] (List.set (List.set [⟨sh0,some x0⟩,⟨sh16,some x1⟩] 0 ⟨sh0,some r.1⟩) 1 ⟨sh16,some r.2⟩):=by
 refine pmut2_intro (j1:=0) (j2:=1) (fin1:=⟨sh0,some r.1⟩) (fin2:=⟨sh16,some r.2⟩) Try.func62 rfl rfl (Nat.le_of_ble_eq_true rfl) (Nat.le_of_ble_eq_true rfl) (Nat.le_of_ble_eq_true rfl) (by kernel_rfl) ?_
 intro w0 Zi f0 v1 v2 a w h
 rw [f62] at hF
 refine wp_seq ?_
 refine wp_reg_seq tok (orc:=o0) (fz:=[]) (l:=[0,1,10]) (.inl rfl) h (by kernel_rfl) an fun a w h => ?_
 refine zi h hF (fun hF => ?_) (fun hF => ?_)
 ·cases hF
  exact wp_ret (retM2_ok tok (by decide) h rfl (by kernel_rfl) (by kernel_rfl)).1
 ·refine wp_skip ?_
  obtain ⟨r1,hr20,hF⟩:=of_bind hF
  obtain ⟨hc21,hF⟩:=of_if hF
  refine wp_regv_seq tok (orc:=orcL [(21,[⟨.pt false 4294967295 (.pt true 97 (.st (.pair (.sl false 5 (.int .u8)) (.pair iS iS)))),some (some r1.2)⟩,⟨iS,r1.1⟩])]) [((0,.val sh0 (some x0)),none,some 10),((0,.val sh0 (some r1.2)),some 10,none),((1,.val sh16 (some x1)),none,none),((4,.addr 1 [.der,.snd,.fst,.idx (tZ r1.1)]),some 12,none),((10,.val .bool (((List.length x1.2.1:Int):Int) == iO)),none,some 12),((11,.copy 1 []),some 0,some 12),((12,.copy 1 []),some 1,some 12),((13,.addr 1 [.der,.snd,.fst]),some 2,some 12),((14,.copy 1 [.der,.snd,.fst]),some 3,some 12),((16,.copy 1 []),some 5,some 12),((17,.copy 1 []),some 6,some 12),((18,.addr 1 [.der,.snd,.fst]),some 7,some 12),((19,.copy 1 [.der,.snd,.fst]),some 8,some 12),((20,.val iS (List.length x1.2.1:Int)),some 9,some 12),((21,.val iS r1.1),some 10,some 12),((22,.addr 1 [.der,.snd,.fst,.idx (tZ r1.1)]),some 11,some 12)] [(15,0,4,10)] [0,1,17,49,51,113,55,115,241,63,119,243,497,127,247,499,1009,255,503,1011,2033,511,1015,2035,1023,2039,2047,4095,8191] 8191 [(10,0,1),(11,1,1)] h (by kernel_rfl) (by kernel_rfl) (by kernel_rfl) (ac (c54 k x0 (List.length x1.2.1:Int) r1 hr20) (ac hc21 an)) (fun _ _ _ _ _ h => h) fun a w h => ?_
  obtain ⟨r2,hr19,hF⟩:=of_bind hF
  refine wp_reg_seq tok (orc:=orcL [(24,[⟨.pt false 4294967295 (.pt true 97 (.st (.pair (.sl false 5 (.int .u8)) (.pair iS iS)))),some (some r2.2)⟩,⟨iS,r2.1⟩])]) (fz:=[]) (l:=[0,1,4,24]) (.inl rfl) h (by kernel_rfl) (ac (c54 k r1.2 (6:Int) r2 hr19) an) fun a w h => ?_
  refine wp_block ?_
  refine wp_reg_seq tok (orc:=o0) (fz:=[]) (l:=[0,1,4,24,25]) (.inl rfl) h (by kernel_rfl) an fun a w h => ?_
  refine zi h hF (fun hF => ?_) (fun hF => ?_)
  ·obtain ⟨r3,hr4,hF⟩:=of_bind hF
   obtain ⟨hc5,hF⟩:=of_if hF
   refine wp_regv tok (orc:=orcL [(35,[⟨.pt false 4294967295 (.pt true 97 (.st (.pair (.sl false 5 (.int .u8)) (.pair iS iS)))),some (some r3.2)⟩,⟨iS,r3.1⟩])]) [((0,.val sh0 (some r2.2)),none,some 8),((0,.val sh0 (some r3.2)),some 8,none),((1,.val sh16 (some x1)),none,some 13),((1,.val sh16 (some (x1.1,((List.set x1.2.1 (tZ r1.1) ((gD [(-1:Int),iO,(List.length x1.1:Int)] (tZ r3.1) iO),(gD x1.2.1 (tZ r1.1) zR).2)),x1.2.2)))),some 13,none),((4,.addr 1 [.der,.snd,.fst,.idx (tZ r1.1)]),none,some 13),((24,.val iS r2.1),none,none),((25,.val .bool (r2.1 == iO)),none,none),((27,.addr 1 [.der,.snd,.fst,.idx (tZ r1.1)]),some 0,some 13),((30,.addr 1 [.der,.fst]),some 3,some 13),((31,.copy 1 [.der,.fst]),some 4,some 13),((32,.val iS (List.length x1.1:Int)),some 5,none),((33,.val (.sl true 2 iS) [(-1:Int),iO,(List.length x1.1:Int)]),some 6,none),((35,.val iS r3.1),some 8,none),((36,.addr 33 [.idx (tZ r3.1)]),some 9,none),((37,.val iS (gD [(-1:Int),iO,(List.length x1.1:Int)] (tZ r3.1) iO)),some 10,none),((38,.addr 1 [.der,.snd,.fst,.idx (tZ r1.1)]),some 11,some 13),((39,.addr 1 [.der,.snd,.fst,.idx (tZ r1.1),.fst]),some 12,some 13)] [(34,0,7,8),(28,1,1,13),(29,1,2,13)] [0,1,3,131,135,387,143,391,159,399,191,415,255,447,511,1023,2047,4095,8191,16383] 16383 [(8,0,1),(9,1,1)] h (by kernel_rfl) (by kernel_rfl) (by kernel_rfl) (ac (c54 k r2.2 (3:Int) r3 hr4) (ac hc5 an)) (fun _ _ _ _ _ h => h) fun a w h => ?_
   cases hF
   exact (retM2_ok tok (by decide) h rfl (by kernel_rfl) (by kernel_rfl)).2
  ·refine wp_reg_seq tok (orc:=o0) (fz:=[]) (l:=[0,1,4,24,40]) (.inl rfl) h (by kernel_rfl) an fun a w h => ?_
   refine zi h hF (fun hF => ?_) (fun hF => ?_)
   ·obtain ⟨r6,hr9,hF⟩:=of_bind hF
    obtain ⟨hc10,hF⟩:=of_if hF
    refine wp_reg tok (orc:=orcL [(45,[⟨.pt false 4294967295 (.pt true 97 (.st (.pair (.sl false 5 (.int .u8)) (.pair iS iS)))),some (some r6.2)⟩,⟨iS,r6.1⟩])]) (fz:=[]) (l:=[0,1]) (.inl rfl) h (by kernel_rfl) (ac (c54 k r2.2 (3:Int) r6 hr9) (ac hc10 an)) fun a w h => ?_
    obtain ⟨v7,hv8,hF⟩:=of_bind hF
    replace h:=h.cast (S':=[(0,.val sh0 (some r6.2)),(1,.val sh16 (some (x1.1,(v7,x1.2.2))))]) (by cases hv8; kernel_rfl)
    cases hF
    exact (retM2_ok tok (by decide) h rfl (by kernel_rfl) (by kernel_rfl)).2
   ·refine wp_reg_seq tok (orc:=o0) (fz:=[]) (l:=[0,1,4,24,50]) (.inl rfl) h (by kernel_rfl) an fun a w h => ?_
    refine zi h hF (fun hF => ?_) (fun hF => ?_)
    ·refine wp_reg tok (orc:=o0) (fz:=[]) (l:=[0,1]) (.inl rfl) h (by kernel_rfl) an fun a w h => ?_
     obtain ⟨v11,hv12,hF⟩:=of_bind hF
     replace h:=h.cast (S':=[(0,.val sh0 (some r2.2)),(1,.val sh16 (some (x1.1,(v11,x1.2.2))))]) (by cases hv12; kernel_rfl)
     cases hF
     exact (retM2_ok tok (by decide) h rfl (by kernel_rfl) (by kernel_rfl)).2
    ·refine wp_reg_seq tok (orc:=o0) (fz:=[]) (l:=[0,1,4,24,55]) (.inl rfl) h (by kernel_rfl) an fun a w h => ?_
     refine zi h hF (fun hF => ?_) (fun hF => ?_)
     ·replace h:=h.only [0,1] (by kernel_rfl)
      obtain ⟨r13,hr15,hF⟩:=of_bind hF
      obtain ⟨r14,hr16,hF⟩:=of_bind hF
      obtain ⟨hc17,hF⟩:=of_if hF
      refine wp_regv tok (orc:=orcL [(63,[⟨.pt false 4294967295 (.pt true 97 (.st (.pair (.sl false 5 (.int .u8)) (.pair iS iS)))),some (some r13.2)⟩,⟨iS,r13.1⟩]),(65,[⟨.pt false 4294967295 (.pt true 97 (.st (.pair (.sl false 5 (.int .u8)) (.pair iS iS)))),some (some r14.2)⟩,⟨iS,r14.1⟩]),(68,[⟨.pt false 4294967293 .unit,some ()⟩])]) [((0,.val sh0 (some r2.2)),none,some 6),((0,.val sh0 (some r13.2)),some 6,some 8),((0,.val sh0 (some r14.2)),some 8,none),((1,.val sh16 (some x1)),none,some 14),((1,.val sh16 (some (x1.1,(x1.2.1,(List.append x1.2.2 [(r13.1,r14.1)]))))),some 14,none),((60,.addr 1 [.der,.snd,.snd]),some 3,some 14),((61,.copy 1 [.der,.snd,.snd]),some 4,some 14),((63,.val iS r13.1),some 6,none),((65,.val iS r14.1),some 8,none),((66,.val sh5 (r13.1,r14.1)),some 9,none),((67,.val sh25 [(r13.1,r14.1)]),some 10,none),((68,.grown 1 [.der,.snd,.snd] ⟨sh25,(List.append x1.2.2 [(r13.1,r14.1)])⟩),some 11,some 14),((70,.addr 1 [.der,.snd,.snd]),some 13,some 14)] [(62,0,5,6),(64,0,7,8),(57,1,0,14),(58,1,1,14),(59,1,2,14),(69,1,12,14)] [0,1,3,35,163,167,227,175,231,483,191,239,487,995,255,495,999,2019,511,1007,2023,1023,2031,2047,4095,8191,16383,32767] 32767 [(6,0,1),(8,1,1),(11,2,1),(14,3,1)] h (by kernel_rfl) (by kernel_rfl) (by kernel_rfl) (ac (c54 k r2.2 (4:Int) r13 hr15) (ac (c54 k r13.2 (4:Int) r14 hr16) (ac hc17 (ac (show ([.der,.snd,.snd]:Path)=[.der,.snd,.snd] from rfl) an)))) (fun _ _ _ _ _ h => h) fun a w h => ?_
      cases hF
      exact (retM2_ok tok (by decide) h rfl (by kernel_rfl) (by kernel_rfl)).2
     ·refine wp_reg_seq tok (orc:=o0) (fz:=[]) (l:=[0,1,4,24,71]) (.inl rfl) h (by kernel_rfl) an fun a w h => ?_
      refine zi h hF (fun hF => ?_) (fun hF => ?_)
      ·replace h:=h.only [0,1] (by kernel_rfl)
       obtain ⟨hc18,hF⟩:=of_if hF
       refine wp_reg tok (orc:=o0) (fz:=[]) (l:=[0,1]) (.inl rfl) h (by kernel_rfl) (ac hc18 an) fun a w h => ?_
       cases hF
       exact (retM2_ok tok (by decide) h rfl (by kernel_rfl) (by kernel_rfl)).2
      ·refine wp_reg_seq tok (orc:=o0) (fz:=[]) (l:=[0,1,4,79]) (.inl rfl) h (by kernel_rfl) an fun a w h => ?_
       refine zi h hF (fun hF => ?_) (fun hF => ?_)
       ·refine wp_reg tok (orc:=o0) (fz:=[]) (l:=[0,1]) (.inl rfl) h (by kernel_rfl) an fun a w h => ?_
        cases hF
        exact (retM2_ok tok (by decide) h rfl (by kernel_rfl) (by kernel_rfl)).2
       ·refine wp_skip ?_
        cases hF
        exact (retM2_ok tok (by decide) h rfl (by kernel_rfl) (by kernel_rfl)).2
def f32.j7 (k:Nat):(((List Int) × (Int × Int)) × ((List (Int × (Int × Int))) × ((List (Int × (Int × (Int × (Int × (Int × ByteArray)))))) × (List (Int × Int)))))→Option (((List (Int × (Int × Int))) × ((List (Int × (Int × (Int × (Int × (Int × ByteArray)))))) × (List (Int × Int)))) × ((List Int) × (Int × Int)))
 | (v5,v6) => some (v6,v5)
def f32 (k:Nat) (x0:((List Int) × (Int × Int))):Option (((List (Int × (Int × Int))) × ((List (Int × (Int × (Int × (Int × (Int × ByteArray)))))) × (List (Int × Int)))) × ((List Int) × (Int × Int))):=(f60 k x0).bind fun r1 => ((f61 k r1.2 (14:Int)).bind fun r2 => (if r2.1 then ((f62 k r2.2 r1.1).bind fun r8 => (f32.j7 k (r8.1,r8.2))) else (f32.j7 k (r2.2,r1.1))))
theorem c32 (k:Nat) (x0:((List Int) × (Int × Int))) (r:(tG × ((List Int) × (Int × Int)))) (hF:f32 k x0=some r):PMut Try.prog 32 [⟨sh0,some x0⟩] [⟨sh20,r.1⟩] (List.set [⟨sh0,some x0⟩] 0 ⟨sh0,some r.2⟩):=by
 refine pmutO_intro (j:=0) (fin:=⟨sh0,some r.2⟩) Try.func32 rfl rfl (Nat.le_of_ble_eq_true rfl) (Nat.le_of_ble_eq_true rfl) (by kernel_rfl) (by kernel_rfl) ?_
 intro w0 Zi f0 v0 hw a w h
 rw [f32] at hF
 refine wp_reg_seq tok (orc:=o0) (fz:=[]) (l:=[0,2]) (.inl rfl) h (by kernel_rfl) an fun a w h => ?_
 obtain ⟨r1,hr11,hF⟩:=of_bind hF
 refine wp_reg_seq tok (orc:=orcL [(5,[⟨.pt false 4294967295 (.pt true 97 (.st (.pair (.sl false 5 (.int .u8)) (.pair iS iS)))),some (some r1.2)⟩,⟨sh20,r1.1⟩])]) (fz:=[]) (l:=[0,2,3]) (.inl rfl) h (by kernel_rfl) (ac (c60 k x0 r1 hr11) an) fun a w h => ?_
 refine wp_seq ?_
 obtain ⟨r2,hr10,hF⟩:=of_bind hF
 refine wp_reg_seq tok (orc:=orcL [(7,[⟨.pt false 4294967295 (.pt true 97 (.st (.pair (.sl false 5 (.int .u8)) (.pair iS iS)))),some (some r2.2)⟩,⟨.bool,r2.1⟩])]) (fz:=[]) (l:=[0,2,3,7]) (.inl rfl) h (by kernel_rfl) (ac (c61 k r1.2 (14:Int) r2 hr10) an) fun a w h => ?_
 refine wp_midT (fun a w => ∃ v:(((List Int) × (Int × Int)) × tG),f32.j7 k v=some r∧Rel w0 f0 Zi ⟨Try.f32.ntmps,[0],fun _ => v0⟩ ((fun ((v5,v6):(((List Int) × (Int × Int)) × tG)) => ([(0,.val sh0 (some v5)),(2,.val sh16 (some (([]:(List (Int × (Int × Int)))),(([]:(List (Int × (Int × (Int × (Int × (Int × ByteArray))))))),([]:(List (Int × Int))))))),(3,.val sh16 (some v6))]:SS)) v) a w) ?_ ?_
 ·
  refine zi h hF (fun hF => ?_) (fun hF => ?_)
  ·obtain ⟨r8,hr9,hF⟩:=of_bind hF
   refine wp_seqX (sxA_ok tok (orc:=o0) (spA:=[]) (sp:=[(1,.two ⟨sh0,some r8.1⟩ ⟨sh16,some r8.2⟩)])) h (by kernel_rfl) (ac (c62 k r2.2 r1.1 r8 hr9) an) fun a w h => ?_
   exact ⟨(r8.1,r8.2),hF,h.arrive (fz:=[]) (l:=[0,2,3]) (.inl rfl) (by kernel_rfl)⟩
  ·refine wp_skip ?_
   exact ⟨(r2.2,r1.1),hF,h.arrive (fz:=[]) (l:=[0,2,3]) (.inl rfl) (by kernel_rfl)⟩
 ·rintro a w ⟨v,hF,h⟩
  obtain ⟨v5,v6⟩:=v
  rw [f32.j7] at hF
  refine wp_reg_seq tok (orc:=o0) (fz:=[]) (l:=[0,2]) (.inl rfl) h (by kernel_rfl) an fun a w h => ?_
  cases hF
  exact wp_ret (retO_ok tok h rfl (by kernel_rfl)).1
def f33 (k:Nat) (x0:((List Int) × (Int × Int))) (x1:((List (Int × (Int × Int))) × ((List (Int × (Int × (Int × (Int × (Int × ByteArray)))))) × (List (Int × Int))))):Option (Int × ((List Int) × (Int × Int))):=(f61 k x0 (30:Int)).bind fun r1 => (if r1.1 then ((f54 k r1.2 (3:Int)).bind fun r5 => (if (0≤r5.1∧r5.1 < (List.length [(-1:Int),(List.length x1.1:Int),(4611686018427387904:Int)]:Int)) then (some ((List.getD [(-1:Int),(List.length x1.1:Int),(4611686018427387904:Int)] (Int.toNat r5.1) (0:Int)),r5.2)) else none)) else ((f54 k r1.2 (List.length x1.1:Int)).bind fun r8 => (some (r8.1,r8.2))))
theorem c33 (k:Nat) (x0:((List Int) × (Int × Int))) (x1:tG) (r:(Int × ((List Int) × (Int × Int)))) (hF:f33 k x0 x1=some r):PMut Try.prog 33 [⟨sh0,some x0⟩,⟨sh18,x1⟩] [⟨iS,r.1⟩] (List.set [⟨sh0,some x0⟩,⟨sh18,x1⟩] 0 ⟨sh0,some r.2⟩):=by
 refine pmutO_intro (j:=0) (fin:=⟨sh0,some r.2⟩) Try.func33 rfl rfl (Nat.le_of_ble_eq_true rfl) (Nat.le_of_ble_eq_true rfl) (by kernel_rfl) (by kernel_rfl) ?_
 intro w0 Zi f0 v0 hw a w h
 rw [f33] at hF
 refine wp_reg_seq tok (orc:=o0) (fz:=[]) (l:=[0,3]) (.inl rfl) h (by kernel_rfl) an fun a w h => ?_
 refine wp_seq ?_
 obtain ⟨r1,hr10,hF⟩:=of_bind hF
 refine wp_reg_seq tok (orc:=orcL [(6,[⟨.pt false 4294967295 (.pt true 97 (.st (.pair (.sl false 5 (.int .u8)) (.pair iS iS)))),some (some r1.2)⟩,⟨.bool,r1.1⟩])]) (fz:=[]) (l:=[0,3,6]) (.inl rfl) h (by kernel_rfl) (ac (c61 k x0 (30:Int) r1 hr10) an) fun a w h => ?_
 refine zi h hF (fun hF => ?_) (fun hF => ?_)
 ·obtain ⟨r5,hr6,hF⟩:=of_bind hF
  obtain ⟨hc7,hF⟩:=of_if hF
  refine wp_regv_seq tok (orc:=orcL [(12,[⟨.pt false 4294967295 (.pt true 97 (.st (.pair (.sl false 5 (.int .u8)) (.pair iS iS)))),some (some r5.2)⟩,⟨iS,r5.1⟩])]) [((0,.val sh0 (some r1.2)),none,some 5),((0,.val sh0 (some r5.2)),some 5,none),((3,.val sh17 (some x1)),none,some 8),((4,.val iS (gD [(-1:Int),(List.length x1.1:Int),(4611686018427387904:Int)] (tZ r5.1) iO)),some 8,none),((6,.val .bool r1.1),none,some 8),((7,.addr 3 [.der,.fst]),some 0,some 8),((8,.val sh29 x1.1),some 1,some 8),((9,.val iS (List.length x1.1:Int)),some 2,some 8),((10,.val (.sl true 2 iS) [(-1:Int),(List.length x1.1:Int),(4611686018427387904:Int)]),some 3,some 8),((12,.val iS r5.1),some 5,some 8),((13,.addr 10 [.idx (tZ r5.1)]),some 6,some 8),((14,.val iS (gD [(-1:Int),(List.length x1.1:Int),(4611686018427387904:Int)] (tZ r5.1) iO)),some 7,some 8)] [(11,0,4,5)] [0,16,17,48,19,49,23,51,31,55,63,127,255,511] 511 [(5,0,1),(6,1,1)] h (by kernel_rfl) (by kernel_rfl) (by kernel_rfl) (ac (c54 k r1.2 (3:Int) r5 hr6) (ac hc7 an)) (fun _ _ _ _ _ h => h) fun a w h => ?_
  cases hF
  exact wp_ret (retO_ok tok h rfl (by kernel_rfl)).1
 ·refine wp_skip ?_
  obtain ⟨r8,hr9,hF⟩:=of_bind hF
  refine wp_reg_seq tok (orc:=orcL [(19,[⟨.pt false 4294967295 (.pt true 97 (.st (.pair (.sl false 5 (.int .u8)) (.pair iS iS)))),some (some r8.2)⟩,⟨iS,r8.1⟩])]) (fz:=[]) (l:=[0,4]) (.inl rfl) h (by kernel_rfl) (ac (c54 k r1.2 (List.length x1.1:Int) r8 hr9) an) fun a w h => ?_
  cases hF
  exact wp_ret (retO_ok tok h rfl (by kernel_rfl)).1
def f20 (k:Nat) (x0:(List Int)):Option (((List (Int × (Int × Int))) × ((List (Int × (Int × (Int × (Int × (Int × ByteArray)))))) × (List (Int × Int)))) × Int × Int × Int):=(f31 k x0).bind fun r1 => ((f32 k r1).bind fun r2 => ((f33 k r2.2 r2.1).bind fun r3 => ((f33 k r3.2 r2.1).bind fun r4 => ((f33 k r4.2 r2.1).bind fun r5 => (some (r2.1,r3.1,r4.1,r5.1))))))
theorem c20 (k:Nat) (x0:(List Int)) (r:(tG × Int × Int × Int)) (hF:f20 k x0=some r):PCall Try.prog 20 [⟨(.sl false 5 (.int .u8)),x0⟩] [⟨sh18,r.1⟩,⟨iS,r.2.1⟩,⟨iS,r.2.2.1⟩,⟨iS,r.2.2.2⟩]:=by
 refine pcall_intro Try.func20 rfl rfl (Nat.le_of_ble_eq_true rfl) ?_
 intro w0 Zi a w h
 rw [f20] at hF
 refine zs [0,2] h an fun a w h => ?_
 obtain ⟨r1,hr10,hF⟩:=of_bind hF
 refine zc (orcL [(12,[⟨sh0,some r1⟩])]) [2,6] h (ac (c31 k x0 r1 hr10) an) fun a w h => ?_
 obtain ⟨r2,hr9,hF⟩:=of_bind hF
 refine zc (orcL [(14,[⟨.pt false 4294967295 (.pt true 97 (.st (.pair (.sl false 5 (.int .u8)) (.pair iS iS)))),some (some r2.2)⟩,⟨sh20,r2.1⟩])]) [2,6,7] h (ac (c32 k r1 r2 hr9) an) fun a w h => ?_
 obtain ⟨r3,hr8,hF⟩:=of_bind hF
 refine wp_reg_seq tok (orc:=orcL [(17,[⟨.pt false 4294967295 (.pt true 97 (.st (.pair (.sl false 5 (.int .u8)) (.pair iS iS)))),some (some r3.2)⟩,⟨iS,r3.1⟩])]) (fz:=[7]) (l:=[2,6,7,8]) (.inr fun i h => h) h (by kernel_rfl) (ac (c33 k r2.2 r2.1 r3 hr8) an) fun a w h => ?_
 obtain ⟨r4,hr7,hF⟩:=of_bind hF
 refine zc (orcL [(20,[⟨.pt false 4294967295 (.pt true 97 (.st (.pair (.sl false 5 (.int .u8)) (.pair iS iS)))),some (some r4.2)⟩,⟨iS,r4.1⟩])]) [2,6,7,8,9] h (ac (c33 k r3.2 r2.1 r4 hr7) an) fun a w h => ?_
 obtain ⟨r5,hr6,hF⟩:=of_bind hF
 refine zc (orcL [(23,[⟨.pt false 4294967295 (.pt true 97 (.st (.pair (.sl false 5 (.int .u8)) (.pair iS iS)))),some (some r5.2)⟩,⟨iS,r5.1⟩])]) [2,7,8,9,10] h (ac (c33 k r4.2 r2.1 r5 hr6) an) fun a w h => ?_
 refine zs [2,3,4,5] h an fun a w h => ?_
 cases hF
 exact wp_ret (ret_okR tok h rfl (by kernel_rfl)).1
def f34 (k:Nat) (x0:Int):Option Bool:=some (bif (decide (x0 ≥ (1:Int))) then (decide (x0 ≤ (1000000000:Int))) else false)
theorem c34 (k:Nat) (x0:Int) (r:Bool) (hF:f34 k x0=some r):PCall Try.prog 34 [⟨iS,x0⟩] [⟨.bool,r⟩]:=by
 refine pcall_intro Try.func34 rfl rfl (Nat.le_of_ble_eq_true rfl) ?_
 intro w0 Zi a w h
 rw [f34] at hF
 refine zs [0] h an fun a w h => ?_
 refine zs [2] h an fun a w h => ?_
 cases hF
 exact wp_ret (ret_okR tok h rfl (by kernel_rfl)).1
def f35 (k:Nat) (x0:(Int × Int)):Option Bool:=some (bif (bif (bif (decide (x0.1 ≥ (-10000000:Int))) then (decide (x0.1 ≤ (10000000:Int))) else false) then (decide (x0.2 ≥ (-10000000:Int))) else false) then (decide (x0.2 ≤ (10000000:Int))) else false)
theorem c35 (k:Nat) (x0:(Int × Int)) (r:Bool) (hF:f35 k x0=some r):PCall Try.prog 35 [⟨sh5,x0⟩] [⟨.bool,r⟩]:=by
 refine pcall_intro Try.func35 rfl rfl (Nat.le_of_ble_eq_true rfl) ?_
 intro w0 Zi a w h
 rw [f35] at hF
 refine zs [1] h an fun a w h => ?_
 refine zs [2] h an fun a w h => ?_
 cases hF
 exact wp_ret (ret_okR tok h rfl (by kernel_rfl)).1
def f9.j256 (k:Nat) (v247:Int) (q209:Int→Option Bool):Unit→Option Bool
 | _ => q209 (IntKind.i64.wrap (v247 + (1:Int)))
def f9.l209 (k:Nat) (x0:((List (Int × (Int × Int))) × ((List (Int × (Int × (Int × (Int × (Int × ByteArray)))))) × (List (Int × Int))))):Nat→Int→Option Bool
 | 0,_ => none
 | m209+1,v247 => if (decide (v247 < (List.length x0.2.2:Int))) then (if (0≤v247∧v247 < (List.length x0.2.2:Int)) then (if (((bif (bif (bif (decide (((List.getD x0.2.2 (Int.toNat v247) ((0:Int),(0:Int))).1:Int) < (0:Int))) then true else (decide (((List.getD x0.2.2 (Int.toNat v247) ((0:Int),(0:Int))).1:Int) ≥ (List.length x0.2.1:Int)))) then true else (decide (((List.getD x0.2.2 (Int.toNat v247) ((0:Int),(0:Int))).2:Int) < (0:Int)))) then true else (decide (((List.getD x0.2.2 (Int.toNat v247) ((0:Int),(0:Int))).2:Int) ≥ (List.length x0.2.1:Int))))=false) → (0 ≤ (List.getD x0.2.2 (Int.toNat v247) ((0:Int),(0:Int))).1 ∧ (List.getD x0.2.2 (Int.toNat v247) ((0:Int),(0:Int))).1 < (List.length x0.2.1:Int))) then (if (((bif (bif (bif (decide (((List.getD x0.2.2 (Int.toNat v247) ((0:Int),(0:Int))).1:Int) < (0:Int))) then true else (decide (((List.getD x0.2.2 (Int.toNat v247) ((0:Int),(0:Int))).1:Int) ≥ (List.length x0.2.1:Int)))) then true else (decide (((List.getD x0.2.2 (Int.toNat v247) ((0:Int),(0:Int))).2:Int) < (0:Int)))) then true else (decide (((List.getD x0.2.2 (Int.toNat v247) ((0:Int),(0:Int))).2:Int) ≥ (List.length x0.2.1:Int))))=false) → (0 ≤ (List.getD x0.2.2 (Int.toNat v247) ((0:Int),(0:Int))).2 ∧ (List.getD x0.2.2 (Int.toNat v247) ((0:Int),(0:Int))).2 < (List.length x0.2.1:Int))) then ((some ((bif (bif (bif (bif (decide (((List.getD x0.2.2 (Int.toNat v247) ((0:Int),(0:Int))).1:Int) < (0:Int))) then true else (decide (((List.getD x0.2.2 (Int.toNat v247) ((0:Int),(0:Int))).1:Int) ≥ (List.length x0.2.1:Int)))) then true else (decide (((List.getD x0.2.2 (Int.toNat v247) ((0:Int),(0:Int))).2:Int) < (0:Int)))) then true else (decide (((List.getD x0.2.2 (Int.toNat v247) ((0:Int),(0:Int))).2:Int) ≥ (List.length x0.2.1:Int)))) then true else (((List.getD x0.2.1 (Int.toNat (List.getD x0.2.2 (Int.toNat v247) ((0:Int),(0:Int))).1) ((0:Int),((0:Int),((0:Int),((0:Int),((0:Int),(⟨#[]⟩:ByteArray))))))).2.1:Int) != (List.getD x0.2.1 (Int.toNat (List.getD x0.2.2 (Int.toNat v247) ((0:Int),(0:Int))).2) ((0:Int),((0:Int),((0:Int),((0:Int),((0:Int),(⟨#[]⟩:ByteArray))))))).1)):Bool)).bind fun v257 => (if v257 then (some false) else (if (decide (v247 > (0:Int))) then (if (0 ≤ (IntKind.i64.wrap (v247 - (1:Int))) ∧ (IntKind.i64.wrap (v247 - (1:Int))) < (List.length x0.2.2:Int)) then ((some ((bif (decide (((List.getD x0.2.2 (Int.toNat (IntKind.i64.wrap (v247 - (1:Int)))) ((0:Int),(0:Int))).1:Int) > (List.getD x0.2.2 (Int.toNat v247) ((0:Int),(0:Int))).1)) then true else (bif (((List.getD x0.2.2 (Int.toNat (IntKind.i64.wrap (v247 - (1:Int)))) ((0:Int),(0:Int))).1:Int) == (List.getD x0.2.2 (Int.toNat v247) ((0:Int),(0:Int))).1) then (decide (((List.getD x0.2.2 (Int.toNat (IntKind.i64.wrap (v247 - (1:Int)))) ((0:Int),(0:Int))).2:Int) ≥ (List.getD x0.2.2 (Int.toNat v247) ((0:Int),(0:Int))).2)) else false)):Bool)).bind fun v258 => (if v258 then (some false) else (f9.j256 k v247 ((f9.l209 k x0) m209) ()))) else none) else (f9.j256 k v247 ((f9.l209 k x0) m209) ())))) else none) else none) else none) else (some true)
def f9.l118 (k:Nat) (x0:((List (Int × (Int × Int))) × ((List (Int × (Int × (Int × (Int × (Int × ByteArray)))))) × (List (Int × Int))))):Nat→Int→Option Bool
 | 0,_ => none
 | m118+1,v142 => if (decide (v142 < (List.length x0.2.1:Int))) then (if (0≤v142∧v142 < (List.length x0.2.1:Int)) then ((if ((bif (bif (bif (decide (((List.getD x0.2.1 (Int.toNat v142) ((0:Int),((0:Int),((0:Int),((0:Int),((0:Int),(⟨#[]⟩:ByteArray))))))).1:Int) < (0:Int))) then true else (decide (((List.getD x0.2.1 (Int.toNat v142) ((0:Int),((0:Int),((0:Int),((0:Int),((0:Int),(⟨#[]⟩:ByteArray))))))).1:Int) ≥ (List.length x0.1:Int)))) then true else (decide (((List.getD x0.2.1 (Int.toNat v142) ((0:Int),((0:Int),((0:Int),((0:Int),((0:Int),(⟨#[]⟩:ByteArray))))))).2.1:Int) < (0:Int)))) then true else (decide (((List.getD x0.2.1 (Int.toNat v142) ((0:Int),((0:Int),((0:Int),((0:Int),((0:Int),(⟨#[]⟩:ByteArray))))))).2.1:Int) ≥ (List.length x0.1:Int))))=false) then f34 k (List.getD x0.2.1 (Int.toNat v142) ((0:Int),((0:Int),((0:Int),((0:Int),((0:Int),(⟨#[]⟩:ByteArray))))))).2.2.1 else some default).bind fun r148 => ((some ((bif (bif (bif (bif (bif (bif (bif (bif (decide (((List.getD x0.2.1 (Int.toNat v142) ((0:Int),((0:Int),((0:Int),((0:Int),((0:Int),(⟨#[]⟩:ByteArray))))))).1:Int) < (0:Int))) then true else (decide (((List.getD x0.2.1 (Int.toNat v142) ((0:Int),((0:Int),((0:Int),((0:Int),((0:Int),(⟨#[]⟩:ByteArray))))))).1:Int) ≥ (List.length x0.1:Int)))) then true else (decide (((List.getD x0.2.1 (Int.toNat v142) ((0:Int),((0:Int),((0:Int),((0:Int),((0:Int),(⟨#[]⟩:ByteArray))))))).2.1:Int) < (0:Int)))) then true else (decide (((List.getD x0.2.1 (Int.toNat v142) ((0:Int),((0:Int),((0:Int),((0:Int),((0:Int),(⟨#[]⟩:ByteArray))))))).2.1:Int) ≥ (List.length x0.1:Int)))) then true else (!r148)) then true else (decide (((List.getD x0.2.1 (Int.toNat v142) ((0:Int),((0:Int),((0:Int),((0:Int),((0:Int),(⟨#[]⟩:ByteArray))))))).2.2.2.1:Int) < (1:Int)))) then true else (decide (((List.getD x0.2.1 (Int.toNat v142) ((0:Int),((0:Int),((0:Int),((0:Int),((0:Int),(⟨#[]⟩:ByteArray))))))).2.2.2.1:Int) > (1000000:Int)))) then true else (decide (((List.getD x0.2.1 (Int.toNat v142) ((0:Int),((0:Int),((0:Int),((0:Int),((0:Int),(⟨#[]⟩:ByteArray))))))).2.2.2.2.1:Int) < (0:Int)))) then true else (decide (((List.getD x0.2.1 (Int.toNat v142) ((0:Int),((0:Int),((0:Int),((0:Int),((0:Int),(⟨#[]⟩:ByteArray))))))).2.2.2.2.1:Int) > (1000000000:Int)))):Bool)).bind fun v149 => (if v149 then (some false) else ((f9.l118 k x0) m118 (IntKind.i64.wrap (v142 + (1:Int))))))) else none) else (f9.l209 k x0 k (0:Int))
def f9.l42 (k:Nat) (x0:((List (Int × (Int × Int))) × ((List (Int × (Int × (Int × (Int × (Int × ByteArray)))))) × (List (Int × Int))))):Nat→Int→Option Bool
 | 0,_ => none
 | m42+1,v70 => if (decide (v70 < (List.length x0.1:Int))) then (if (0≤v70∧v70 < (List.length x0.1:Int)) then ((f34 k (List.getD x0.1 (Int.toNat v70) ((0:Int),((0:Int),(0:Int)))).1).bind fun r77 => ((if ((!r77)=false) then f35 k (List.getD x0.1 (Int.toNat v70) ((0:Int),((0:Int),(0:Int)))).2 else some default).bind fun r78 => (if ((((bif (!r77) then true else (!r78))=false) ∧ ((decide (v70 > (0:Int)))=true)) → (0 ≤ (IntKind.i64.wrap (v70 - (1:Int))) ∧ (IntKind.i64.wrap (v70 - (1:Int))) < (List.length x0.1:Int))) then (if (bif (bif (!r77) then true else (!r78)) then true else (bif (decide (v70 > (0:Int))) then (decide (((List.getD x0.1 (Int.toNat (IntKind.i64.wrap (v70 - (1:Int)))) ((0:Int),((0:Int),(0:Int)))).1:Int) ≥ (List.getD x0.1 (Int.toNat v70) ((0:Int),((0:Int),(0:Int)))).1)) else false)) then (some false) else ((f9.l42 k x0) m42 (IntKind.i64.wrap (v70 + (1:Int))))) else none))) else none) else (f9.l118 k x0 k (0:Int))
def f9 (k:Nat) (x0:((List (Int × (Int × Int))) × ((List (Int × (Int × (Int × (Int × (Int × ByteArray)))))) × (List (Int × Int))))):Option Bool:=if (bif (bif (decide (((List.length x0.1:Int):Int) > (5000:Int))) then true else (decide (((List.length x0.2.1:Int):Int) > (8000:Int)))) then true else (decide (((List.length x0.2.2:Int):Int) > (2000:Int)))) then (some false) else (f9.l42 k x0 k (0:Int))
theorem c9 (k:Nat) (x0:tG) (r:Bool) (hF:f9 k x0=some r):PCall Try.prog 9 [⟨sh18,x0⟩] [⟨.bool,r⟩]:=by
 refine pcall_intro Try.func9 rfl rfl (Nat.le_of_ble_eq_true rfl) ?_
 intro w0 Zi a w h
 rw [f9] at hF
 refine zs [1] h an fun a w h => ?_
 refine wp_seq ?_
 refine zs [1,27] h an fun a w h => ?_
 refine zi h hF (fun hF => ?_) (fun hF => ?_)
 ·refine zs [2] h an fun a w h => ?_
  cases hF
  exact wp_ret (ret_okR tok h rfl (by kernel_rfl)).1
 ·refine wp_skip ?_
  refine wp_seq ?_
  refine zs [1,29,30,31] h an fun a w h => ?_
  refine wp_block ?_
  refine wp_loop_fuel (f9.l42 k x0) (fun v70 => [(1,.val sh17 (some x0)),(29,.val sh29 x0.1),(30,.val iS (List.length x0.1:Int)),(31,.val iS v70)]) (fun v h => by rw [f9.l42] at h; cases h) ?_ hF (ar h [1,29,30,31])
  intro m42 v70 a w hF h
  rw [f9.l42] at hF
  refine zs [1,29,30,31,32] h an fun a w h => ?_
  refine wp_seq <| zi h hF (fun hF => ?_) (fun hF => ?_)
  ·refine wp_skip ?_
   refine wp_seq <| wp_block ?_
   obtain ⟨hc82,hF⟩:=of_if hF
   refine zs [1,3,4,29,30,31] h (ac hc82 an) fun a w h => ?_
   obtain ⟨r77,hr79,hF⟩:=of_bind hF
   obtain ⟨r78,hr80,hF⟩:=of_bind hF
   obtain ⟨hc81,hF⟩:=of_if hF
   refine wp_regy_seq tok (orc:=orcL [(38,[⟨.bool,r77⟩]),(43,[⟨.bool,r78⟩])]) (l:=[1,29,30,31,61]) ([],[],[],[]) 26 nw h (by kernel_rfl) (by kernel_rfl) (ac (c34 k (gD x0.1 (tZ v70) (iO,(iO,iO))).1 r77 hr79) (ac (fun (hg:((!r77)=false)) => c35 k (gD x0.1 (tZ v70) (iO,(iO,iO))).2 r78 (of_g hg hr80)) (ac hc81 an))) fun a w h => ?_
   refine zi h hF (fun hF => ?_) (fun hF => ?_)
   ·refine zs [2] h an fun a w h => ?_
    cases hF
    exact wp_ret (ret_okR tok h rfl (by kernel_rfl)).1
   ·refine wp_skip ?_
    refine zt [1,29,30,31] h an fun a w h => ?_
    exact ⟨(w64 (v70 + (1:Int))),hF,ar h [1,29,30,31]⟩
  ·refine wp_exit ?_
   refine zs [1,5] h an fun a w h => ?_
   refine wp_seq ?_
   refine zs [1,5,67,68,69] h an fun a w h => ?_
   refine wp_block ?_
   refine wp_loop_fuel (f9.l118 k x0) (fun v142 => [(1,.val sh17 (some x0)),(5,.val iS (List.length x0.1:Int)),(67,.val sh30 x0.2.1),(68,.val iS (List.length x0.2.1:Int)),(69,.val iS v142)]) (fun v h => by rw [f9.l118] at h; cases h) ?_ hF (ar h [1,5,67,68,69])
   intro m118 v142 a w hF h
   rw [f9.l118] at hF
   refine zs [1,5,67,68,69,70] h an fun a w h => ?_
   refine wp_seq <| zi h hF (fun hF => ?_) (fun hF => ?_)
   ·refine wp_skip ?_
    refine wp_seq <| wp_block ?_
    obtain ⟨hc152,hF⟩:=of_if hF
    refine zs [1,5,7,67,68,69] h (ac hc152 an) fun a w h => ?_
    obtain ⟨r148,hr151,hF⟩:=of_bind hF
    refine zc (orcL [(96,[⟨.bool,r148⟩])]) [1,5,67,68,69,118] h (ac (fun (hg:((bif (bif (bif (decide (((gD x0.2.1 (tZ v142) zR).1:Int) < iO)) then true else (decide (((gD x0.2.1 (tZ v142) zR).1:Int) ≥ (List.length x0.1:Int)))) then true else (decide (((gD x0.2.1 (tZ v142) zR).2.1:Int) < iO))) then true else (decide (((gD x0.2.1 (tZ v142) zR).2.1:Int) ≥ (List.length x0.1:Int))))=false)) => c34 k (gD x0.2.1 (tZ v142) zR).2.2.1 r148 (of_g hg hr151)) an) fun a w h => ?_
    obtain ⟨v149,hv150,hF⟩:=of_bind hF
    replace h:=h.cast (S':=[(1,.val sh17 (some x0)),(5,.val iS (List.length x0.1:Int)),(67,.val sh30 x0.2.1),(68,.val iS (List.length x0.2.1:Int)),(69,.val iS v142),(118,.val .bool v149)]) (by cases hv150; kernel_rfl)
    refine zi h hF (fun hF => ?_) (fun hF => ?_)
    ·refine zs [2] h an fun a w h => ?_
     cases hF
     exact wp_ret (ret_okR tok h rfl (by kernel_rfl)).1
    ·refine wp_skip ?_
     refine zt [1,5,67,68,69] h an fun a w h => ?_
     exact ⟨(w64 (v142 + (1:Int))),hF,ar h [1,5,67,68,69]⟩
   ·refine wp_exit ?_
    refine zs [1,8] h an fun a w h => ?_
    refine wp_seq ?_
    refine zs [1,8,124,125,126] h an fun a w h => ?_
    refine wp_block ?_
    refine wp_loop_fuel (f9.l209 k x0) (fun v247 => [(1,.val sh17 (some x0)),(8,.val iS (List.length x0.2.1:Int)),(124,.val sh23 x0.2.2),(125,.val iS (List.length x0.2.2:Int)),(126,.val iS v247)]) (fun v h => by rw [f9.l209] at h; cases h) ?_ hF (ar h [1,8,124,125,126])
    intro m209 v247 a w hF h
    rw [f9.l209] at hF
    refine zs [1,8,124,125,126,127] h an fun a w h => ?_
    refine wp_seq <| zi h hF (fun hF => ?_) (fun hF => ?_)
    ·refine wp_skip ?_
     refine wp_mid (fun a w => ∃ v:Unit,f9.j256 k v247 ((f9.l209 k x0) m209) v=some r∧Rel w0 (fun _ => False) Zi Try.f9.ntmps ((fun (_:Unit) => ([(1,.val sh17 (some x0)),(8,.val iS (List.length x0.2.1:Int)),(124,.val sh23 x0.2.2),(125,.val iS (List.length x0.2.2:Int)),(126,.val iS v247)]:SS)) v) a w) ?_ ?_
     ·
      refine wp_block ?_
      obtain ⟨hc264,hF⟩:=of_if hF
      refine zs [1,8,9,10,124,125,126] h (ac hc264 an) fun a w h => ?_
      refine wp_seq ?_
      obtain ⟨hc262,hF⟩:=of_if hF
      obtain ⟨hc263,hF⟩:=of_if hF
      refine wp_regy_seq tok (orc:=o0) (l:=[1,8,9,10,124,125,126,167]) ([],[],[],[]) 37 nw h (by kernel_rfl) (by kernel_rfl) (ac hc262 (ac hc263 an)) fun a w h => ?_
      obtain ⟨v257,hv261,hF⟩:=of_bind hF
      replace h:=h.cast (S':=[(1,.val sh17 (some x0)),(8,.val iS (List.length x0.2.1:Int)),(9,.val iS v247),(10,.val sh24 (some (gD x0.2.2 (tZ v247) (iO,iO)))),(124,.val sh23 x0.2.2),(125,.val iS (List.length x0.2.2:Int)),(126,.val iS v247),(167,.val .bool v257)]) (by cases hv261; kernel_rfl)
      refine zi h hF (fun hF => ?_) (fun hF => ?_)
      ·refine zs [2] h an fun a w h => ?_
       cases hF
       exact wp_ret (ret_okR tok h rfl (by kernel_rfl)).1
      ·refine wp_skip ?_
       refine zs [1,8,9,10,124,125,126,169] h an fun a w h => ?_
       refine zi h hF (fun hF => ?_) (fun hF => ?_)
       ·obtain ⟨hc260,hF⟩:=of_if hF
        refine zs [1,8,10,11,124,125,126] h (ac hc260 an) fun a w h => ?_
        refine zs [1,8,124,125,126,194] h an fun a w h => ?_
        obtain ⟨v258,hv259,hF⟩:=of_bind hF
        replace h:=h.cast (S':=[(1,.val sh17 (some x0)),(8,.val iS (List.length x0.2.1:Int)),(124,.val sh23 x0.2.2),(125,.val iS (List.length x0.2.2:Int)),(126,.val iS v247),(194,.val .bool v258)]) (by cases hv259; kernel_rfl)
        refine zi h hF (fun hF => ?_) (fun hF => ?_)
        ·refine zs [2] h an fun a w h => ?_
         cases hF
         exact wp_ret (ret_okR tok h rfl (by kernel_rfl)).1
        ·refine wp_skip ?_
         exact ⟨(),hF,ar h [1,8,124,125,126]⟩
       ·refine wp_skip ?_
        exact ⟨(),hF,ar h [1,8,124,125,126]⟩
     ·rintro a w ⟨v,hF,h⟩
      obtain ⟨⟩:=v
      rw [f9.j256] at hF
      refine zt [1,8,124,125,126] h an fun a w h => ?_
      exact ⟨(w64 (v247 + (1:Int))),hF,ar h [1,8,124,125,126]⟩
    ·refine wp_exit ?_
     refine zs [2] h an fun a w h => ?_
     cases hF
     exact wp_ret (ret_okR tok h rfl (by kernel_rfl)).1
def f36.l126 (k:Nat) (x0:((List (Int × (Int × Int))) × ((List (Int × (Int × (Int × (Int × (Int × ByteArray)))))) × (List (Int × Int))))) (v94:(List (List Int))) (v95:(List (List Int))):Nat → ((List ((Int × Int) × Bool)) × Int)→Option (((List (Int × (Int × Int))) × ((List (Int × (Int × (Int × (Int × (Int × ByteArray)))))) × (List (Int × Int)))) × ((List (List Int)) × ((List (List Int)) × (Option (List ((Int × Int) × Bool))))))
 | 0,_ => none
 | m126+1,(v137,v138) => if (decide (v138 < (List.length x0.2.2:Int))) then (if (0≤v138∧v138 < (List.length x0.2.2:Int)) then ((f36.l126 k x0 v94 v95) m126 ((mput (Sh.beq sh5) (List.getD x0.2.2 (Int.toNat v138) ((0:Int),(0:Int))) true v137),(IntKind.i64.wrap (v138 + (1:Int))))) else none) else (some (x0,(v94,(v95,(some v137)))))
def f36.l56 (k:Nat) (x0:((List (Int × (Int × Int))) × ((List (Int × (Int × (Int × (Int × (Int × ByteArray)))))) × (List (Int × Int))))):Nat → ((List (List Int)) × (List (List Int)) × Int)→Option (((List (Int × (Int × Int))) × ((List (Int × (Int × (Int × (Int × (Int × ByteArray)))))) × (List (Int × Int)))) × ((List (List Int)) × ((List (List Int)) × (Option (List ((Int × Int) × Bool))))))
 | 0,_ => none
 | m56+1,(v94,v95,v96) => if (decide (v96 < (List.length x0.2.1:Int))) then (if (0≤v96∧v96 < (List.length x0.2.1:Int)) then (if (0 ≤ (List.getD x0.2.1 (Int.toNat v96) ((0:Int),((0:Int),((0:Int),((0:Int),((0:Int),(⟨#[]⟩:ByteArray))))))).1 ∧ (List.getD x0.2.1 (Int.toNat v96) ((0:Int),((0:Int),((0:Int),((0:Int),((0:Int),(⟨#[]⟩:ByteArray))))))).1 < (List.length v94:Int)) then (if ((List.length (List.getD v94 (Int.toNat (List.getD x0.2.1 (Int.toNat v96) ((0:Int),((0:Int),((0:Int),((0:Int),((0:Int),(⟨#[]⟩:ByteArray))))))).1) ([]:(List Int)))+List.length [v96])*8≤140737488355328) then (if (0 ≤ (List.getD x0.2.1 (Int.toNat v96) ((0:Int),((0:Int),((0:Int),((0:Int),((0:Int),(⟨#[]⟩:ByteArray))))))).1 ∧ (List.getD x0.2.1 (Int.toNat v96) ((0:Int),((0:Int),((0:Int),((0:Int),((0:Int),(⟨#[]⟩:ByteArray))))))).1 < (List.length v94:Int)) then (if (0 ≤ (List.getD x0.2.1 (Int.toNat v96) ((0:Int),((0:Int),((0:Int),((0:Int),((0:Int),(⟨#[]⟩:ByteArray))))))).2.1 ∧ (List.getD x0.2.1 (Int.toNat v96) ((0:Int),((0:Int),((0:Int),((0:Int),((0:Int),(⟨#[]⟩:ByteArray))))))).2.1 < (List.length v95:Int)) then (if ((List.length (List.getD v95 (Int.toNat (List.getD x0.2.1 (Int.toNat v96) ((0:Int),((0:Int),((0:Int),((0:Int),((0:Int),(⟨#[]⟩:ByteArray))))))).2.1) ([]:(List Int)))+List.length [v96])*8≤140737488355328) then (if (0 ≤ (List.getD x0.2.1 (Int.toNat v96) ((0:Int),((0:Int),((0:Int),((0:Int),((0:Int),(⟨#[]⟩:ByteArray))))))).2.1 ∧ (List.getD x0.2.1 (Int.toNat v96) ((0:Int),((0:Int),((0:Int),((0:Int),((0:Int),(⟨#[]⟩:ByteArray))))))).2.1 < (List.length v95:Int)) then ((f36.l56 k x0) m56 ((List.set v94 (Int.toNat (List.getD x0.2.1 (Int.toNat v96) ((0:Int),((0:Int),((0:Int),((0:Int),((0:Int),(⟨#[]⟩:ByteArray))))))).1) (List.append (List.getD v94 (Int.toNat (List.getD x0.2.1 (Int.toNat v96) ((0:Int),((0:Int),((0:Int),((0:Int),((0:Int),(⟨#[]⟩:ByteArray))))))).1) ([]:(List Int))) [v96])),(List.set v95 (Int.toNat (List.getD x0.2.1 (Int.toNat v96) ((0:Int),((0:Int),((0:Int),((0:Int),((0:Int),(⟨#[]⟩:ByteArray))))))).2.1) (List.append (List.getD v95 (Int.toNat (List.getD x0.2.1 (Int.toNat v96) ((0:Int),((0:Int),((0:Int),((0:Int),((0:Int),(⟨#[]⟩:ByteArray))))))).2.1) ([]:(List Int))) [v96])),(IntKind.i64.wrap (v96 + (1:Int))))) else none) else none) else none) else none) else none) else none) else none) else (f36.l126 k x0 v94 v95 k (([]:(List ((Int × Int) × Bool))),(0:Int)))
def f36 (k:Nat) (x0:((List (Int × (Int × Int))) × ((List (Int × (Int × (Int × (Int × (Int × ByteArray)))))) × (List (Int × Int))))):Option (((List (Int × (Int × Int))) × ((List (Int × (Int × (Int × (Int × (Int × ByteArray)))))) × (List (Int × Int)))) × ((List (List Int)) × ((List (List Int)) × (Option (List ((Int × Int) × Bool)))))):=if (0 ≤ (List.length x0.1:Int)∧Int.toNat (List.length x0.1:Int)*24≤140737488355328) then (if (0 ≤ (List.length x0.1:Int)∧Int.toNat (List.length x0.1:Int)*24≤140737488355328) then (f36.l56 k x0 k ((List.replicate (Int.toNat (List.length x0.1:Int)) ([]:(List Int))),(List.replicate (Int.toNat (List.length x0.1:Int)) ([]:(List Int))),(0:Int))) else none) else none
theorem c36 (k:Nat) (x0:tG) (r:tN) (hF:f36 k x0=some r):PCall Try.prog 36 [⟨sh18,x0⟩] [⟨sh31,some r⟩]:=by
 refine pcall_intro Try.func36 rfl rfl (Nat.le_of_ble_eq_true rfl) ?_
 intro w0 Zi a w h
 rw [f36] at hF
 refine zs [1] h an fun a w h => ?_
 obtain ⟨hc141,hF⟩:=of_if hF
 obtain ⟨hc142,hF⟩:=of_if hF
 refine wp_regy_seq tok (orc:=o0) (l:=[1,3]) ([],[],[],[]) 10 nw h (by kernel_rfl) (by kernel_rfl) (ac hc141 (ac hc142 an)) fun a w h => ?_
 refine wp_seq ?_
 refine zs [1,3,21,22,23] h an fun a w h => ?_
 refine wp_block ?_
 refine wp_loop_fuel (f36.l56 k x0) (fun ((v94,v95,v96):((List (List Int)) × (List (List Int)) × Int)) => [(1,.val sh17 (some x0)),(3,.val sh31 (some (x0,(v94,(v95,(some ([]:(List ((Int × Int) × Bool))))))))),(21,.val sh30 x0.2.1),(22,.val iS (List.length x0.2.1:Int)),(23,.val iS v96)]) (fun v h => by obtain ⟨v94,v95,v96⟩:=v; rw [f36.l56] at h; cases h) ?_ hF (ar h [1,3,21,22,23])
 intro m56 v a w hF h
 obtain ⟨v94,v95,v96⟩:=v
 rw [f36.l56] at hF
 refine zs [1,3,21,22,23,24] h an fun a w h => ?_
 refine wp_seq <| zi h hF (fun hF => ?_) (fun hF => ?_)
 ·refine wp_skip ?_
  refine wp_seq <| wp_block ?_
  obtain ⟨hc110,hF⟩:=of_if hF
  refine zs [1,3,4,5,21,22,23] h (ac hc110 an) fun a w h => ?_
  obtain ⟨hc107,hF⟩:=of_if hF
  obtain ⟨hc108,hF⟩:=of_if hF
  obtain ⟨hc109,hF⟩:=of_if hF
  refine wp_regy_seq tok (orc:=orcL [(44,[⟨.pt false 4294967293 .unit,some ()⟩])]) (l:=[1,3,4,5,21,22,23]) ([],[],[],[]) 18 nw h (by kernel_rfl) (by kernel_rfl) (ac hc107 (ac (PrefL.mk (l:=[[],[],[.der,.snd,.fst],[.der,.snd,.fst],[],[],[.der,.snd,.fst],[.der,.snd,.fst],[.der,.snd,.fst,.idx (tZ (gD x0.2.1 (tZ v96) zR).1)],[.der,.snd,.fst,.idx (tZ (gD x0.2.1 (tZ v96) zR).1)]]) (p:=[.der,.snd,.fst,.idx (tZ (gD x0.2.1 (tZ v96) zR).1)]) rfl) (ac hc108 (ac hc109 (ac (show ([.der,.snd,.fst,.idx (tZ (gD x0.2.1 (tZ v96) zR).1)]:Path)=[.der,.snd,.fst,.idx (tZ (gD x0.2.1 (tZ v96) zR).1)] from rfl) an))))) fun a w h => ?_
  obtain ⟨hc104,hF⟩:=of_if hF
  obtain ⟨hc105,hF⟩:=of_if hF
  obtain ⟨hc106,hF⟩:=of_if hF
  refine wp_regy tok (orc:=orcL [(62,[⟨.pt false 4294967293 .unit,some ()⟩])]) (l:=[1,3,21,22,23]) ([],[],[],[]) 18 nw h (by kernel_rfl) (by kernel_rfl) (ac hc104 (ac (PrefL.mk (l:=[[],[],[.der,.snd,.snd,.fst],[.der,.snd,.snd,.fst],[],[],[.der,.snd,.snd,.fst],[.der,.snd,.snd,.fst],[.der,.snd,.snd,.fst,.idx (tZ (gD x0.2.1 (tZ v96) zR).2.1)],[.der,.snd,.snd,.fst,.idx (tZ (gD x0.2.1 (tZ v96) zR).2.1)]]) (p:=[.der,.snd,.snd,.fst,.idx (tZ (gD x0.2.1 (tZ v96) zR).2.1)]) rfl) (ac hc105 (ac hc106 (ac (show ([.der,.snd,.snd,.fst,.idx (tZ (gD x0.2.1 (tZ v96) zR).2.1)]:Path)=[.der,.snd,.snd,.fst,.idx (tZ (gD x0.2.1 (tZ v96) zR).2.1)] from rfl) an))))) fun a w h => ?_
  refine zt [1,3,21,22,23] h an fun a w h => ?_
  exact ⟨((List.set v94 (tZ (gD x0.2.1 (tZ v96) zR).1) (List.append (gD v94 (tZ (gD x0.2.1 (tZ v96) zR).1) lO) [v96])),(List.set v95 (tZ (gD x0.2.1 (tZ v96) zR).2.1) (List.append (gD v95 (tZ (gD x0.2.1 (tZ v96) zR).2.1) lO) [v96])),(w64 (v96 + (1:Int)))),hF,ar h [1,3,21,22,23]⟩
 ·refine wp_exit ?_
  refine wp_seq ?_
  refine zs [3,66,67,68] h an fun a w h => ?_
  refine wp_block ?_
  refine wp_loop_fuel (f36.l126 k x0 v94 v95) (fun ((v137,v138):((List ((Int × Int) × Bool)) × Int)) => [(3,.val sh31 (some (x0,(v94,(v95,(some v137)))))),(66,.val sh23 x0.2.2),(67,.val iS (List.length x0.2.2:Int)),(68,.val iS v138)]) (fun v h => by obtain ⟨v137,v138⟩:=v; rw [f36.l126] at h; cases h) ?_ hF (ar h [3,66,67,68])
  intro m126 v a w hF h
  obtain ⟨v137,v138⟩:=v
  rw [f36.l126] at hF
  refine zs [3,66,67,68,69] h an fun a w h => ?_
  refine wp_seq <| zi h hF (fun hF => ?_) (fun hF => ?_)
  ·refine wp_skip ?_
   refine wp_seq <| wp_block ?_
   obtain ⟨hc140,hF⟩:=of_if hF
   refine zs [3,7,66,67,68] h (ac hc140 an) fun a w h => ?_
   refine wp_regy tok (orc:=o0) (l:=[3,66,67,68]) ([],[],[],[]) 5 nw h (by kernel_rfl) (by kernel_rfl) (ac (show eqTy Try.prog 9 69 (.st (.pair iS iS))=true from by kernel_rfl) an) fun a w h => ?_
   refine zt [3,66,67,68] h an fun a w h => ?_
   exact ⟨((mput (Sh.beq sh5) (gD x0.2.2 (tZ v138) (iO,iO)) true v137),(w64 (v138 + (1:Int)))),hF,ar h [3,66,67,68]⟩
  ·refine wp_exit ?_
   refine zs [2,3] h an fun a w h => ?_
   cases hF
   exact wp_ret (ret_okR tok h rfl (by kernel_rfl)).1
def f37 (k:Nat) (x0:(((List (Int × (Int × Int))) × ((List (Int × (Int × (Int × (Int × (Int × ByteArray)))))) × (List (Int × Int)))) × ((List (List Int)) × ((List (List Int)) × (Option (List ((Int × Int) × Bool))))))) (x1:Int):Option Bool:=some (bif (decide (x1 ≥ (0:Int))) then (decide (x1 < (List.length x0.1.1:Int))) else false)
theorem c37 (k:Nat) (x0:tN) (x1:Int) (r:Bool) (hF:f37 k x0 x1=some r):PCall Try.prog 37 [⟨sh32,some x0⟩,⟨iS,x1⟩] [⟨.bool,r⟩]:=by
 refine pcall_intro Try.func37 rfl rfl (Nat.le_of_ble_eq_true rfl) ?_
 intro w0 Zi a w h
 rw [f37] at hF
 refine zs [0,1] h an fun a w h => ?_
 refine zs [4] h an fun a w h => ?_
 cases hF
 exact wp_ret (ret_okR tok h rfl (by kernel_rfl)).1
def f87 (k:Nat) (x0:(Int × (Int × Int))) (x1:(Int × (Int × Int))):Option Bool:=if (x0.1 != x1.1) then (some (decide (x0.1 < x1.1))) else (if (x0.2.1 != x1.2.1) then (some (decide (x0.2.1 < x1.2.1))) else (some (decide (x0.2.2 < x1.2.2))))
theorem c87 (k:Nat) (x0:(Int × (Int × Int))) (x1:(Int × (Int × Int))) (r:Bool) (hF:f87 k x0 x1=some r):PCall Try.prog 87 [⟨sh33,x0⟩,⟨sh33,x1⟩] [⟨.bool,r⟩]:=by
 refine pcall_intro Try.func87 rfl rfl (Nat.le_of_ble_eq_true rfl) ?_
 intro w0 Zi a w h
 rw [f87] at hF
 refine zs [2,3] h an fun a w h => ?_
 refine wp_seq ?_
 refine zs [2,3,9] h an fun a w h => ?_
 refine zi h hF (fun hF => ?_) (fun hF => ?_)
 ·refine zs [4] h an fun a w h => ?_
  cases hF
  exact wp_ret (ret_okR tok h rfl (by kernel_rfl)).1
 ·refine wp_skip ?_
  refine wp_seq ?_
  refine zs [2,3,19] h an fun a w h => ?_
  refine zi h hF (fun hF => ?_) (fun hF => ?_)
  ·refine zs [4] h an fun a w h => ?_
   cases hF
   exact wp_ret (ret_okR tok h rfl (by kernel_rfl)).1
  ·refine wp_skip ?_
   refine zs [4] h an fun a w h => ?_
   cases hF
   exact wp_ret (ret_okR tok h rfl (by kernel_rfl)).1
def f68.l1 (k:Nat) (x0:((List (Int × (Int × Int))) × Unit)):Nat → ((List (Int × (Int × Int))) × Int)→Option ((List (Int × (Int × Int))) × Unit)
 | 0,_ => none
 | m1+1,(v34,v35) => if (((decide (v35 > (0:Int)))=true) → (0≤v35∧v35 < (List.length v34:Int))) then (if (((decide (v35 > (0:Int)))=true) → (((2:Int):Int)≠0)) then (if (((decide (v35 > (0:Int)))=true) → (0 ≤ (IntKind.i64.wrap (Int.tdiv (IntKind.i64.wrap (v35 - (1:Int))) (2:Int))) ∧ (IntKind.i64.wrap (Int.tdiv (IntKind.i64.wrap (v35 - (1:Int))) (2:Int))) < (List.length v34:Int))) then ((if ((decide (v35 > (0:Int)))=true) then f87 k (List.getD v34 (Int.toNat v35) ((0:Int),((0:Int),(0:Int)))) (List.getD v34 (Int.toNat (IntKind.i64.wrap (Int.tdiv (IntKind.i64.wrap (v35 - (1:Int))) (2:Int)))) ((0:Int),((0:Int),(0:Int)))) else some default).bind fun r36 => (if (bif (decide (v35 > (0:Int))) then r36 else false) then (if (((2:Int):Int)≠0) then (if (((2:Int):Int)≠0) then (if (0 ≤ (IntKind.i64.wrap (Int.tdiv (IntKind.i64.wrap (v35 - (1:Int))) (2:Int))) ∧ (IntKind.i64.wrap (Int.tdiv (IntKind.i64.wrap (v35 - (1:Int))) (2:Int))) < (List.length v34:Int)) then (if (0≤v35∧v35 < (List.length v34:Int)) then (if (0≤v35∧v35 < (List.length v34:Int)) then (if (0 ≤ (IntKind.i64.wrap (Int.tdiv (IntKind.i64.wrap (v35 - (1:Int))) (2:Int))) ∧ (IntKind.i64.wrap (Int.tdiv (IntKind.i64.wrap (v35 - (1:Int))) (2:Int))) < (List.length (List.set v34 (Int.toNat v35) (List.getD v34 (Int.toNat (IntKind.i64.wrap (Int.tdiv (IntKind.i64.wrap (v35 - (1:Int))) (2:Int)))) ((0:Int),((0:Int),(0:Int))))):Int)) then (if (((2:Int):Int)≠0) then ((f68.l1 k x0) m1 ((List.set (List.set v34 (Int.toNat v35) (List.getD v34 (Int.toNat (IntKind.i64.wrap (Int.tdiv (IntKind.i64.wrap (v35 - (1:Int))) (2:Int)))) ((0:Int),((0:Int),(0:Int))))) (Int.toNat (IntKind.i64.wrap (Int.tdiv (IntKind.i64.wrap (v35 - (1:Int))) (2:Int)))) (List.getD v34 (Int.toNat v35) ((0:Int),((0:Int),(0:Int))))),(IntKind.i64.wrap (Int.tdiv (IntKind.i64.wrap (v35 - (1:Int))) (2:Int))))) else none) else none) else none) else none) else none) else none) else none) else (some (v34,x0.2)))) else none) else none) else none
def f68 (k:Nat) (x0:((List (Int × (Int × Int))) × Unit)) (x1:(Int × (Int × Int))):Option ((List (Int × (Int × Int))) × Unit):=if ((List.length x0.1+List.length [x1])*24≤140737488355328) then (f68.l1 k x0 k ((List.append x0.1 [x1]),(IntKind.i64.wrap ((List.length (List.append x0.1 [x1]):Int) - (1:Int))))) else none
theorem c68 (k:Nat) (x0:((List (Int × (Int × Int))) × Unit)) (x1:(Int × (Int × Int))) (r:((List (Int × (Int × Int))) × Unit)) (hF:f68 k x0 x1=some r):PMut Try.prog 68 [⟨sh34,some x0⟩,⟨sh33,x1⟩] [] (List.set [⟨sh34,some x0⟩,⟨sh33,x1⟩] 0 ⟨sh34,some r⟩):=by
 refine pmut_intro (j:=0) (fin:=⟨sh34,some r⟩) Try.func68 rfl rfl (Nat.le_of_ble_eq_true rfl) (Nat.le_of_ble_eq_true rfl) (by kernel_rfl) ?_
 intro w0 Zi f0 v0 a w h
 rw [f68] at hF
 refine wp_reg_seq tok (orc:=o0) (fz:=[]) (l:=[0,3]) (.inl rfl) h (by kernel_rfl) an fun a w h => ?_
 obtain ⟨hc48,hF⟩:=of_if hF
 refine wp_regy_seq tok (orc:=orcL [(12,[⟨.pt false 4294967293 .unit,some ()⟩])]) (fz:=[]) (l:=[0]) ([],[],[],[]) 10 (.inl rfl) h (by kernel_rfl) (by kernel_rfl) (ac (PrefL.mk (l:=[[],[],[],[.der,.fst],[.der,.fst]]) (p:=[.der,.fst]) rfl) (ac hc48 (ac (show ([.der,.fst]:Path)=[.der,.fst] from rfl) an))) fun a w h => ?_
 refine wp_reg_seq tok (orc:=o0) (fz:=[]) (l:=[0,4]) (.inl rfl) h (by kernel_rfl) an fun a w h => ?_
 refine wp_block ?_
 refine wp_loop_fuel (f68.l1 k x0) (fun ((v34,v35):((List (Int × (Int × Int))) × Int)) => [(0,.val sh34 (some (v34,x0.2))),(4,.val iS v35)]) (fun v h => by obtain ⟨v34,v35⟩:=v; rw [f68.l1] at h; cases h) ?_ hF (h.arrive (fz:=[]) (l:=[0,4]) (.inl rfl) (by kernel_rfl))
 intro m1 v a w hF h
 obtain ⟨v34,v35⟩:=v
 rw [f68.l1] at hF
 refine wp_seq ?_
 obtain ⟨hc44,hF⟩:=of_if hF
 obtain ⟨hc45,hF⟩:=of_if hF
 obtain ⟨hc46,hF⟩:=of_if hF
 obtain ⟨r36,hr47,hF⟩:=of_bind hF
 refine wp_regy_seq tok (orc:=orcL [(40,[⟨.bool,r36⟩])]) (fz:=[]) (l:=[0,4,41]) ([],[],[],[]) 21 (.inl rfl) h (by kernel_rfl) (by kernel_rfl) (ac hc44 (ac hc45 (ac hc46 (ac (fun (hg:((decide (v35 > iO))=true)) => c87 k (gD v34 (tZ v35) (iO,(iO,iO))) (gD v34 (tZ (w64 (Int.tdiv (w64 (v35 - (1:Int))) (2:Int)))) (iO,(iO,iO))) r36 (of_g hg hr47)) an)))) fun a w h => ?_
 refine zi h hF (fun hF => ?_) (fun hF => ?_)
 ·refine wp_skip ?_
  refine wp_block ?_
  obtain ⟨hc38,hF⟩:=of_if hF
  obtain ⟨hc39,hF⟩:=of_if hF
  obtain ⟨hc40,hF⟩:=of_if hF
  obtain ⟨hc41,hF⟩:=of_if hF
  obtain ⟨hc42,hF⟩:=of_if hF
  obtain ⟨hc43,hF⟩:=of_if hF
  refine wp_regy_seq tok (orc:=orcL [(70,[⟨.pt false 4294967289 .unit,some ()⟩])]) (fz:=[]) (l:=[0,4]) ([(29,0)],[],[(29,[42,43,45,47,48,50,54,55,57,63,64,66])],[(9,[4]),(10,[51]),(11,[52])]) 30 (.inl rfl) h (by kernel_rfl) (by kernel_rfl) (ac hc38 (ac hc39 (ac hc40 (ac hc41 (ac hc42 (ac hc43 an)))))) fun a w h => ?_
  obtain ⟨hc37,hF⟩:=of_if hF
  refine wp_reg tok (orc:=o0) (fz:=[]) (l:=[0,4]) (.inl rfl) h (by kernel_rfl) (ac hc37 an) fun a w h => ?_
  exact ⟨((List.set (List.set v34 (tZ v35) (gD v34 (tZ (w64 (Int.tdiv (w64 (v35 - (1:Int))) (2:Int)))) (iO,(iO,iO)))) (tZ (w64 (Int.tdiv (w64 (v35 - (1:Int))) (2:Int)))) (gD v34 (tZ v35) (iO,(iO,iO)))),(w64 (Int.tdiv (w64 (v35 - (1:Int))) (2:Int)))),hF,h.arrive (fz:=[]) (l:=[0,4]) (.inl rfl) (by kernel_rfl)⟩
 ·refine wp_exit ?_
  cases hF
  exact (retM_ok tok h rfl (by kernel_rfl) (by kernel_rfl)).2
def f69.j55 (k:Nat) (x0:((List (Int × (Int × Int))) × Unit)):(List (Int × (Int × Int)))→Option ((Int × (Int × Int)) × ((List (Int × (Int × Int))) × Unit))
 | v54 => some ((List.getD x0.1 (Int.toNat (0:Int)) ((0:Int),((0:Int),(0:Int)))),(v54,x0.2))
def f69.j97 (k:Nat) (v93:(List (Int × (Int × Int)))) (v94:Int) (q55:(List (Int × (Int × Int)))→Option ((Int × (Int × Int)) × ((List (Int × (Int × Int))) × Unit))) (q56:((List (Int × (Int × Int))) × Int)→Option ((Int × (Int × Int)) × ((List (Int × (Int × Int))) × Unit))):Int→Option ((Int × (Int × Int)) × ((List (Int × (Int × Int))) × Unit))
 | v96 => if (0≤v96∧v96 < (List.length v93:Int)) then (if (0≤v94∧v94 < (List.length v93:Int)) then ((f87 k (List.getD v93 (Int.toNat v96) ((0:Int),((0:Int),(0:Int)))) (List.getD v93 (Int.toNat v94) ((0:Int),((0:Int),(0:Int))))).bind fun r98 => (if (!r98) then (q55 v93) else (if (0≤v96∧v96 < (List.length v93:Int)) then (if (0≤v94∧v94 < (List.length v93:Int)) then (if (0≤v94∧v94 < (List.length v93:Int)) then (if (0≤v96∧v96 < (List.length (List.set v93 (Int.toNat v94) (List.getD v93 (Int.toNat v96) ((0:Int),((0:Int),(0:Int))))):Int)) then (q56 ((List.set (List.set v93 (Int.toNat v94) (List.getD v93 (Int.toNat v96) ((0:Int),((0:Int),(0:Int))))) (Int.toNat v96) (List.getD v93 (Int.toNat v94) ((0:Int),((0:Int),(0:Int))))),v96)) else none) else none) else none) else none))) else none) else none
def f69.l56 (k:Nat) (x0:((List (Int × (Int × Int))) × Unit)) (q55:(List (Int × (Int × Int)))→Option ((Int × (Int × Int)) × ((List (Int × (Int × Int))) × Unit))):Nat → ((List (Int × (Int × Int))) × Int)→Option ((Int × (Int × Int)) × ((List (Int × (Int × Int))) × Unit))
 | 0,_ => none
 | m56+1,(v93,v94) => if (decide (((IntKind.i64.wrap ((IntKind.i64.wrap ((2:Int)*v94)) + (1:Int))):Int) ≥ (IntKind.i64.wrap ((List.length x0.1:Int) - (1:Int))))) then (q55 v93) else (if (((decide (((IntKind.i64.wrap ((IntKind.i64.wrap ((IntKind.i64.wrap ((2:Int)*v94)) + (1:Int))) + (1:Int))):Int) < (IntKind.i64.wrap ((List.length x0.1:Int) - (1:Int)))))=true) → (0 ≤ (IntKind.i64.wrap ((IntKind.i64.wrap ((IntKind.i64.wrap ((2:Int)*v94)) + (1:Int))) + (1:Int))) ∧ (IntKind.i64.wrap ((IntKind.i64.wrap ((IntKind.i64.wrap ((2:Int)*v94)) + (1:Int))) + (1:Int))) < (List.length v93:Int))) then (if (((decide (((IntKind.i64.wrap ((IntKind.i64.wrap ((IntKind.i64.wrap ((2:Int)*v94)) + (1:Int))) + (1:Int))):Int) < (IntKind.i64.wrap ((List.length x0.1:Int) - (1:Int)))))=true) → (0 ≤ (IntKind.i64.wrap ((IntKind.i64.wrap ((2:Int)*v94)) + (1:Int))) ∧ (IntKind.i64.wrap ((IntKind.i64.wrap ((2:Int)*v94)) + (1:Int))) < (List.length v93:Int))) then ((if ((decide (((IntKind.i64.wrap ((IntKind.i64.wrap ((IntKind.i64.wrap ((2:Int)*v94)) + (1:Int))) + (1:Int))):Int) < (IntKind.i64.wrap ((List.length x0.1:Int) - (1:Int)))))=true) then f87 k (List.getD v93 (Int.toNat (IntKind.i64.wrap ((IntKind.i64.wrap ((IntKind.i64.wrap ((2:Int)*v94)) + (1:Int))) + (1:Int)))) ((0:Int),((0:Int),(0:Int)))) (List.getD v93 (Int.toNat (IntKind.i64.wrap ((IntKind.i64.wrap ((2:Int)*v94)) + (1:Int)))) ((0:Int),((0:Int),(0:Int)))) else some default).bind fun r95 => (if (bif (decide (((IntKind.i64.wrap ((IntKind.i64.wrap ((IntKind.i64.wrap ((2:Int)*v94)) + (1:Int))) + (1:Int))):Int) < (IntKind.i64.wrap ((List.length x0.1:Int) - (1:Int))))) then r95 else false) then (f69.j97 k v93 v94 (q55) ((f69.l56 k x0 q55) m56) (IntKind.i64.wrap ((IntKind.i64.wrap ((IntKind.i64.wrap ((2:Int)*v94)) + (1:Int))) + (1:Int)))) else (f69.j97 k v93 v94 (q55) ((f69.l56 k x0 q55) m56) (IntKind.i64.wrap ((IntKind.i64.wrap ((2:Int)*v94)) + (1:Int)))))) else none) else none)
def f69 (k:Nat) (x0:((List (Int × (Int × Int))) × Unit)):Option ((Int × (Int × Int)) × ((List (Int × (Int × Int))) × Unit)):=if (0 ≤ (0:Int) ∧ (0:Int) < (List.length x0.1:Int)) then (if (0 ≤ (IntKind.i64.wrap ((List.length x0.1:Int) - (1:Int))) ∧ (IntKind.i64.wrap ((List.length x0.1:Int) - (1:Int))) < (List.length x0.1:Int)) then (if (0 ≤ (0:Int) ∧ (0:Int) < (List.length x0.1:Int)) then (if ((0:Int) ≤ (IntKind.i64.wrap ((List.length x0.1:Int) - (1:Int))) ∧ ((IntKind.i64.wrap ((List.length x0.1:Int) - (1:Int))):Int) ≤ (List.length (List.set x0.1 (Int.toNat (0:Int)) (List.getD x0.1 (Int.toNat (IntKind.i64.wrap ((List.length x0.1:Int) - (1:Int)))) ((0:Int),((0:Int),(0:Int))))):Int)) then (f69.l56 k x0 (f69.j55 k x0) k ((List.take (Int.toNat (IntKind.i64.wrap ((List.length x0.1:Int) - (1:Int)))) (List.set x0.1 (Int.toNat (0:Int)) (List.getD x0.1 (Int.toNat (IntKind.i64.wrap ((List.length x0.1:Int) - (1:Int)))) ((0:Int),((0:Int),(0:Int)))))),(0:Int))) else none) else none) else none) else none
theorem c69 (k:Nat) (x0:((List (Int × (Int × Int))) × Unit)) (r:((Int × (Int × Int)) × ((List (Int × (Int × Int))) × Unit))) (hF:f69 k x0=some r):PMut Try.prog 69 [⟨sh34,some x0⟩] [⟨sh33,r.1⟩] (List.set [⟨sh34,some x0⟩] 0 ⟨sh34,some r.2⟩):=by
 refine pmut_intro (j:=0) (fin:=⟨sh34,some r.2⟩) Try.func69 rfl rfl (Nat.le_of_ble_eq_true rfl) (Nat.le_of_ble_eq_true rfl) (by kernel_rfl) ?_
 intro w0 Zi f0 v0 a w h
 rw [f69] at hF
 refine wp_reg_seq tok (orc:=o0) (fz:=[]) (l:=[0,2]) (.inl rfl) h (by kernel_rfl) an fun a w h => ?_
 obtain ⟨hc112,hF⟩:=of_if hF
 refine wp_reg_seq tok (orc:=o0) (fz:=[]) (l:=[0,2,3]) (.inl rfl) h (by kernel_rfl) (ac hc112 an) fun a w h => ?_
 refine wp_reg_seq tok (orc:=o0) (fz:=[]) (l:=[0,2,3,4]) (.inl rfl) h (by kernel_rfl) an fun a w h => ?_
 obtain ⟨hc110,hF⟩:=of_if hF
 obtain ⟨hc111,hF⟩:=of_if hF
 refine wp_regy_seq tok (orc:=o0) (fz:=[]) (l:=[0,2,3,4]) ([],[],[],[]) 12 (.inl rfl) h (by kernel_rfl) (by kernel_rfl) (ac hc110 (ac hc111 an)) fun a w h => ?_
 obtain ⟨hc109,hF⟩:=of_if hF
 refine wp_reg_seq tok (orc:=orcL [(37,[⟨.pt false 4294967293 .unit,some ()⟩])]) (fz:=[]) (l:=[0,2,3,4]) (.inl rfl) h (by kernel_rfl) (ac hc109 (ac (show ([.der,.fst]:Path)=[.der,.fst] from rfl) an)) fun a w h => ?_
 refine wp_reg_seq tok (orc:=o0) (fz:=[]) (l:=[0,2,3,4,5]) (.inl rfl) h (by kernel_rfl) an fun a w h => ?_
 refine wp_mid (fun a w => ∃ v:(List (Int × (Int × Int))),f69.j55 k x0 v=some r∧Rel w0 f0 Zi ⟨Try.f69.ntmps,[0],fun _ => v0⟩ ((fun (v54:(List (Int × (Int × Int)))) => ([(0,.val sh34 (some (v54,x0.2))),(2,.val sh35 (some (iO,(iO,iO)))),(3,.val sh35 (some (gD x0.1 (tZ iO) (iO,(iO,iO)))))]:SS)) v) a w) ?_ ?_
 ·
  refine wp_block ?_
  refine wp_loop_fuel (f69.l56 k x0 (f69.j55 k x0)) (fun ((v93,v94):((List (Int × (Int × Int))) × Int)) => [(0,.val sh34 (some (v93,x0.2))),(2,.val sh35 (some (iO,(iO,iO)))),(3,.val sh35 (some (gD x0.1 (tZ iO) (iO,(iO,iO))))),(4,.val iS (w64 ((List.length x0.1:Int) - (1:Int)))),(5,.val iS v94)]) (fun v h => by obtain ⟨v93,v94⟩:=v; rw [f69.l56] at h; cases h) ?_ hF (h.arrive (fz:=[]) (l:=[0,2,3,4,5]) (.inl rfl) (by kernel_rfl))
  intro m56 v a w hF h
  obtain ⟨v93,v94⟩:=v
  rw [f69.l56] at hF
  refine wp_block ?_
  refine wp_reg_seq tok (orc:=o0) (fz:=[]) (l:=[0,2,3,4,5,6]) (.inl rfl) h (by kernel_rfl) an fun a w h => ?_
  refine wp_seq ?_
  refine wp_reg_seq tok (orc:=o0) (fz:=[]) (l:=[0,2,3,4,5,6,45]) (.inl rfl) h (by kernel_rfl) an fun a w h => ?_
  refine zi h hF (fun hF => ?_) (fun hF => ?_)
  ·refine wp_exit ?_
   exact ⟨v93,hF,h.arrive (fz:=[]) (l:=[0,2,3]) (.inl rfl) (by kernel_rfl)⟩
  ·refine wp_skip ?_
   refine wp_seq ?_
   obtain ⟨hc106,hF⟩:=of_if hF
   obtain ⟨hc107,hF⟩:=of_if hF
   obtain ⟨r95,hr108,hF⟩:=of_bind hF
   refine wp_regy_seq tok (orc:=orcL [(66,[⟨.bool,r95⟩])]) (fz:=[]) (l:=[0,2,3,4,5,6,67]) ([],[],[],[]) 22 (.inl rfl) h (by kernel_rfl) (by kernel_rfl) (ac hc106 (ac hc107 (ac (fun (hg:((decide (((w64 ((w64 ((w64 ((2:Int)*v94)) + (1:Int))) + (1:Int))):Int) < (w64 ((List.length x0.1:Int) - (1:Int)))))=true)) => c87 k (gD v93 (tZ (w64 ((w64 ((w64 ((2:Int)*v94)) + (1:Int))) + (1:Int)))) (iO,(iO,iO))) (gD v93 (tZ (w64 ((w64 ((2:Int)*v94)) + (1:Int)))) (iO,(iO,iO))) r95 (of_g hg hr108)) an))) fun a w h => ?_
   refine wp_midT (fun a w => ∃ v:Int,f69.j97 k v93 v94 (f69.j55 k x0) ((f69.l56 k x0 (f69.j55 k x0)) m56) v=some r∧Rel w0 f0 Zi ⟨Try.f69.ntmps,[0],fun _ => v0⟩ ((fun v96 => ([(0,.val sh34 (some (v93,x0.2))),(2,.val sh35 (some (iO,(iO,iO)))),(3,.val sh35 (some (gD x0.1 (tZ iO) (iO,(iO,iO))))),(4,.val iS (w64 ((List.length x0.1:Int) - (1:Int)))),(5,.val iS v94),(6,.val iS v96)]:SS)) v) a w) ?_ ?_
   ·
    refine zi h hF (fun hF => ?_) (fun hF => ?_)
    ·refine wp_reg tok (orc:=o0) (fz:=[]) (l:=[0,2,3,4,5,6]) (.inl rfl) h (by kernel_rfl) an fun a w h => ?_
     exact ⟨(w64 ((w64 ((w64 ((2:Int)*v94)) + (1:Int))) + (1:Int))),hF,h.arrive (fz:=[]) (l:=[0,2,3,4,5,6]) (.inl rfl) (by kernel_rfl)⟩
    ·refine wp_skip ?_
     exact ⟨(w64 ((w64 ((2:Int)*v94)) + (1:Int))),hF,h.arrive (fz:=[]) (l:=[0,2,3,4,5,6]) (.inl rfl) (by kernel_rfl)⟩
   ·rintro a w ⟨v96,hF,h⟩
    rw [f69.j97] at hF
    refine wp_seq ?_
    obtain ⟨hc103,hF⟩:=of_if hF
    obtain ⟨hc104,hF⟩:=of_if hF
    obtain ⟨r98,hr105,hF⟩:=of_bind hF
    refine wp_regy_seq tok (orc:=orcL [(84,[⟨.bool,r98⟩])]) (fz:=[]) (l:=[0,2,3,4,5,6,85]) ([],[],[],[]) 16 (.inl rfl) h (by kernel_rfl) (by kernel_rfl) (ac hc103 (ac hc104 (ac (c87 k (gD v93 (tZ v96) (iO,(iO,iO))) (gD v93 (tZ v94) (iO,(iO,iO))) r98 hr105) an))) fun a w h => ?_
    refine zi h hF (fun hF => ?_) (fun hF => ?_)
    ·refine wp_exit ?_
     exact ⟨v93,hF,h.arrive (fz:=[]) (l:=[0,2,3]) (.inl rfl) (by kernel_rfl)⟩
    ·refine wp_skip ?_
     obtain ⟨hc99,hF⟩:=of_if hF
     obtain ⟨hc100,hF⟩:=of_if hF
     obtain ⟨hc101,hF⟩:=of_if hF
     obtain ⟨hc102,hF⟩:=of_if hF
     refine wp_regy_seq tok (orc:=orcL [(110,[⟨.pt false 4294967289 .unit,some ()⟩])]) (fz:=[]) (l:=[0,2,3,4,6]) ([(25,0)],[],[(25,[86,87,89,91,92,94,96,97,99,103,104,106])],[(9,[6])]) 26 (.inl rfl) h (by kernel_rfl) (by kernel_rfl) (ac hc99 (ac hc100 (ac hc101 (ac hc102 an)))) fun a w h => ?_
     refine wp_reg tok (orc:=o0) (fz:=[]) (l:=[0,2,3,4,5]) (.inl rfl) h (by kernel_rfl) an fun a w h => ?_
     exact ⟨((List.set (List.set v93 (tZ v94) (gD v93 (tZ v96) (iO,(iO,iO)))) (tZ v96) (gD v93 (tZ v94) (iO,(iO,iO)))),v96),hF,h.arrive (fz:=[]) (l:=[0,2,3,4,5]) (.inl rfl) (by kernel_rfl)⟩
 ·rintro a w ⟨v54,hF,h⟩
  rw [f69.j55] at hF
  refine wp_reg_seq tok (orc:=o0) (fz:=[]) (l:=[0,2]) (.inl rfl) h (by kernel_rfl) an fun a w h => ?_
  cases hF
  exact wp_ret (retM_ok tok h rfl (by kernel_rfl) (by kernel_rfl)).1
def f116 (k:Nat) (x0:Int):Option Int:=if (decide (x0 < (0:Int))) then (some (IntKind.i64.wrap (0 - x0))) else (some x0)
theorem c116 (k:Nat) (x0:Int) (r:Int) (hF:f116 k x0=some r):PCall Try.prog 116 [⟨iS,x0⟩] [⟨iS,r⟩]:=by
 refine pcall_intro Try.func116 rfl rfl (Nat.le_of_ble_eq_true rfl) ?_
 intro w0 Zi a w h
 rw [f116] at hF
 refine zs [0] h an fun a w h => ?_
 refine wp_seq ?_
 refine zs [0,4] h an fun a w h => ?_
 refine zi h hF (fun hF => ?_) (fun hF => ?_)
 ·refine zs [2] h an fun a w h => ?_
  cases hF
  exact wp_ret (ret_okR tok h rfl (by kernel_rfl)).1
 ·refine wp_skip ?_
  refine zs [2] h an fun a w h => ?_
  cases hF
  exact wp_ret (ret_okR tok h rfl (by kernel_rfl)).1
def f107 (k:Nat) (x0:(Int × Int)) (x1:(Int × Int)):Option Int:=(if ((Sh.beq sh5 x0 x1)=false) then f35 k x0 else some default).bind fun r1 => ((if ((bif (Sh.beq sh5 x0 x1) then true else (!r1))=false) then f35 k x1 else some default).bind fun r2 => (if (bif (bif (Sh.beq sh5 x0 x1) then true else (!r1)) then true else (!r2)) then (some (-1:Int)) else ((f116 k (IntKind.i64.wrap (x1.1 - x0.1))).bind fun r3 => ((f116 k (IntKind.i64.wrap (x1.2 - x0.2))).bind fun r4 => ((f116 k (IntKind.i64.wrap (x1.1 - x0.1))).bind fun r5 => ((f116 k (IntKind.i64.wrap (x1.2 - x0.2))).bind fun r6 => (if (decide (((IntKind.i64.wrap ((5:Int) * (if r6 < r5 then r6 else r5))):Int) < (IntKind.i64.wrap ((2:Int) * (if r4 > r3 then r4 else r3))))) then ((f116 k (IntKind.i64.wrap (x1.1 - x0.1))).bind fun r31 => ((f116 k (IntKind.i64.wrap (x1.2 - x0.2))).bind fun r32 => (if (bif (decide (r31 > r32)) then (decide (((IntKind.i64.wrap (x1.1 - x0.1)):Int) > (0:Int))) else false) then (some (0:Int)) else ((f116 k (IntKind.i64.wrap (x1.1 - x0.1))).bind fun r33 => ((f116 k (IntKind.i64.wrap (x1.2 - x0.2))).bind fun r34 => (if (decide (r33 > r34)) then (some (4:Int)) else (if (decide (((IntKind.i64.wrap (x1.2 - x0.2)):Int) > (0:Int))) then (some (2:Int)) else (some (6:Int))))))))) else (if (bif (decide (((IntKind.i64.wrap (x1.1 - x0.1)):Int) > (0:Int))) then (decide (((IntKind.i64.wrap (x1.2 - x0.2)):Int) > (0:Int))) else false) then (some (1:Int)) else (if (bif (decide (((IntKind.i64.wrap (x1.1 - x0.1)):Int) < (0:Int))) then (decide (((IntKind.i64.wrap (x1.2 - x0.2)):Int) > (0:Int))) else false) then (some (3:Int)) else (if (bif (decide (((IntKind.i64.wrap (x1.1 - x0.1)):Int) < (0:Int))) then (decide (((IntKind.i64.wrap (x1.2 - x0.2)):Int) < (0:Int))) else false) then (some (5:Int)) else (some (7:Int))))))))))))
theorem c107 (k:Nat) (x0:(Int × Int)) (x1:(Int × Int)) (r:Int) (hF:f107 k x0 x1=some r):PCall Try.prog 107 [⟨sh5,x0⟩,⟨sh5,x1⟩] [⟨iS,r⟩]:=by
 refine pcall_intro Try.func107 rfl rfl (Nat.le_of_ble_eq_true rfl) ?_
 intro w0 Zi a w h
 rw [f107] at hF
 refine zs [2,3] h an fun a w h => ?_
 refine wp_seq ?_
 obtain ⟨r1,hr43,hF⟩:=of_bind hF
 obtain ⟨r2,hr44,hF⟩:=of_bind hF
 refine zc (orcL [(14,[⟨.bool,r1⟩]),(19,[⟨.bool,r2⟩])]) [2,3,21] h (ac (And.intro (show eqTy Try.prog 9 63 (.st (.pair iS iS))=true from by kernel_rfl) (show Try.prog.eqGuardType Try.prog.depth 63=false from by kernel_rfl)) (ac (fun (hg:((Sh.beq sh5 x0 x1)=false)) => c35 k x0 r1 (of_g hg hr43)) (ac (fun (hg:((bif (Sh.beq sh5 x0 x1) then true else (!r1))=false)) => c35 k x1 r2 (of_g hg hr44)) an))) fun a w h => ?_
 refine zi h hF (fun hF => ?_) (fun hF => ?_)
 ·refine zs [4] h an fun a w h => ?_
  cases hF
  exact wp_ret (ret_okR tok h rfl (by kernel_rfl)).1
 ·refine wp_skip ?_
  refine wp_regy_seq tok (orc:=o0) (l:=[5,6]) ([],[],[],[]) 12 nw h (by kernel_rfl) (by kernel_rfl) an fun a w h => ?_
  obtain ⟨r3,hr39,hF⟩:=of_bind hF
  obtain ⟨r4,hr40,hF⟩:=of_bind hF
  obtain ⟨r5,hr41,hF⟩:=of_bind hF
  obtain ⟨r6,hr42,hF⟩:=of_bind hF
  refine zc (orcL [(33,[⟨iS,r3⟩]),(35,[⟨iS,r4⟩]),(38,[⟨iS,r5⟩]),(40,[⟨iS,r6⟩])]) [5,6,7,8] h (ac (c116 k (w64 (x1.1 - x0.1)) r3 hr39) (ac (c116 k (w64 (x1.2 - x0.2)) r4 hr40) (ac (c116 k (w64 (x1.1 - x0.1)) r5 hr41) (ac (c116 k (w64 (x1.2 - x0.2)) r6 hr42) an)))) fun a w h => ?_
  refine wp_seq ?_
  refine zs [5,6,46] h an fun a w h => ?_
  refine zi h hF (fun hF => ?_) (fun hF => ?_)
  ·refine wp_seq <| wp_block ?_
   obtain ⟨r31,hr37,hF⟩:=of_bind hF
   obtain ⟨r32,hr38,hF⟩:=of_bind hF
   refine zc (orcL [(49,[⟨iS,r31⟩]),(51,[⟨iS,r32⟩])]) [5,6,47] h (ac (c116 k (w64 (x1.1 - x0.1)) r31 hr37) (ac (c116 k (w64 (x1.2 - x0.2)) r32 hr38) an)) fun a w h => ?_
   refine zi h hF (fun hF => ?_) (fun hF => ?_)
   ·refine zs [4] h an fun a w h => ?_
    cases hF
    exact wp_ret (ret_okR tok h rfl (by kernel_rfl)).1
   ·obtain ⟨r33,hr35,hF⟩:=of_bind hF
    obtain ⟨r34,hr36,hF⟩:=of_bind hF
    refine zc (orcL [(59,[⟨iS,r33⟩]),(61,[⟨iS,r34⟩])]) [6,57] h (ac (c116 k (w64 (x1.1 - x0.1)) r33 hr35) (ac (c116 k (w64 (x1.2 - x0.2)) r34 hr36) an)) fun a w h => ?_
    refine zi h hF (fun hF => ?_) (fun hF => ?_)
    ·refine zs [4] h an fun a w h => ?_
     cases hF
     exact wp_ret (ret_okR tok h rfl (by kernel_rfl)).1
    ·refine zs [63] h an fun a w h => ?_
     refine zi h hF (fun hF => ?_) (fun hF => ?_)
     ·refine zs [4] h an fun a w h => ?_
      cases hF
      exact wp_ret (ret_okR tok h rfl (by kernel_rfl)).1
     ·refine wp_skip ?_
      refine zs [4] h an fun a w h => ?_
      cases hF
      exact wp_ret (ret_okR tok h rfl (by kernel_rfl)).1
  ·refine wp_skip ?_
   refine wp_seq <| wp_block ?_
   refine zs [5,6,66] h an fun a w h => ?_
   refine zi h hF (fun hF => ?_) (fun hF => ?_)
   ·refine zs [4] h an fun a w h => ?_
    cases hF
    exact wp_ret (ret_okR tok h rfl (by kernel_rfl)).1
   ·refine zs [5,6,73] h an fun a w h => ?_
    refine zi h hF (fun hF => ?_) (fun hF => ?_)
    ·refine zs [4] h an fun a w h => ?_
     cases hF
     exact wp_ret (ret_okR tok h rfl (by kernel_rfl)).1
    ·refine zs [80] h an fun a w h => ?_
     refine zi h hF (fun hF => ?_) (fun hF => ?_)
     ·refine zs [4] h an fun a w h => ?_
      cases hF
      exact wp_ret (ret_okR tok h rfl (by kernel_rfl)).1
     ·refine wp_skip ?_
      refine zs [4] h an fun a w h => ?_
      cases hF
      exact wp_ret (ret_okR tok h rfl (by kernel_rfl)).1
def f86 (k:Nat) (x0:(((List (Int × (Int × Int))) × ((List (Int × (Int × (Int × (Int × (Int × ByteArray)))))) × (List (Int × Int)))) × ((List (List Int)) × ((List (List Int)) × (Option (List ((Int × Int) × Bool))))))) (x1:Int) (x2:Int):Option Int:=if (0≤x1∧x1 < (List.length x0.1.2.1:Int)) then (if (0≤x2∧x2 < (List.length x0.1.2.1:Int)) then (if (0 ≤ (List.getD x0.1.2.1 (Int.toNat x1) ((0:Int),((0:Int),((0:Int),((0:Int),((0:Int),(⟨#[]⟩:ByteArray))))))).1 ∧ (List.getD x0.1.2.1 (Int.toNat x1) ((0:Int),((0:Int),((0:Int),((0:Int),((0:Int),(⟨#[]⟩:ByteArray))))))).1 < (List.length x0.1.1:Int)) then (if (0 ≤ (List.getD x0.1.2.1 (Int.toNat x1) ((0:Int),((0:Int),((0:Int),((0:Int),((0:Int),(⟨#[]⟩:ByteArray))))))).2.1 ∧ (List.getD x0.1.2.1 (Int.toNat x1) ((0:Int),((0:Int),((0:Int),((0:Int),((0:Int),(⟨#[]⟩:ByteArray))))))).2.1 < (List.length x0.1.1:Int)) then ((f107 k (List.getD x0.1.1 (Int.toNat (List.getD x0.1.2.1 (Int.toNat x1) ((0:Int),((0:Int),((0:Int),((0:Int),((0:Int),(⟨#[]⟩:ByteArray))))))).1) ((0:Int),((0:Int),(0:Int)))).2 (List.getD x0.1.1 (Int.toNat (List.getD x0.1.2.1 (Int.toNat x1) ((0:Int),((0:Int),((0:Int),((0:Int),((0:Int),(⟨#[]⟩:ByteArray))))))).2.1) ((0:Int),((0:Int),(0:Int)))).2).bind fun r1 => (if (0 ≤ (List.getD x0.1.2.1 (Int.toNat x2) ((0:Int),((0:Int),((0:Int),((0:Int),((0:Int),(⟨#[]⟩:ByteArray))))))).1 ∧ (List.getD x0.1.2.1 (Int.toNat x2) ((0:Int),((0:Int),((0:Int),((0:Int),((0:Int),(⟨#[]⟩:ByteArray))))))).1 < (List.length x0.1.1:Int)) then (if (0 ≤ (List.getD x0.1.2.1 (Int.toNat x2) ((0:Int),((0:Int),((0:Int),((0:Int),((0:Int),(⟨#[]⟩:ByteArray))))))).2.1 ∧ (List.getD x0.1.2.1 (Int.toNat x2) ((0:Int),((0:Int),((0:Int),((0:Int),((0:Int),(⟨#[]⟩:ByteArray))))))).2.1 < (List.length x0.1.1:Int)) then ((f107 k (List.getD x0.1.1 (Int.toNat (List.getD x0.1.2.1 (Int.toNat x2) ((0:Int),((0:Int),((0:Int),((0:Int),((0:Int),(⟨#[]⟩:ByteArray))))))).1) ((0:Int),((0:Int),(0:Int)))).2 (List.getD x0.1.1 (Int.toNat (List.getD x0.1.2.1 (Int.toNat x2) ((0:Int),((0:Int),((0:Int),((0:Int),((0:Int),(⟨#[]⟩:ByteArray))))))).2.1) ((0:Int),((0:Int),(0:Int)))).2).bind fun r2 => (if (bif (decide (r1 < (0:Int))) then true else (decide (r2 < (0:Int)))) then (some (-1:Int)) else (if (((8:Int):Int)≠0) then (some (Int.tmod (IntKind.i64.wrap ((IntKind.i64.wrap (r2 - r1)) + (8:Int))) (8:Int))) else none))) else none) else none)) else none) else none) else none) else none
theorem c86 (k:Nat) (x0:tN) (x1:Int) (x2:Int) (r:Int) (hF:f86 k x0 x1 x2=some r):PCall Try.prog 86 [⟨sh32,some x0⟩,⟨iS,x1⟩,⟨iS,x2⟩] [⟨iS,r⟩]:=by
 refine pcall_intro Try.func86 rfl rfl (Nat.le_of_ble_eq_true rfl) ?_
 intro w0 Zi a w h
 rw [f86] at hF
 refine zs [0,1,2] h an fun a w h => ?_
 obtain ⟨hc10,hF⟩:=of_if hF
 obtain ⟨hc11,hF⟩:=of_if hF
 refine wp_regy_seq tok (orc:=o0) (l:=[0,7,8]) ([(18,7)],[],[],[(8,[0]),(9,[19]),(10,[20]),(11,[21]),(12,[22]),(13,[2]),(14,[23,24]),(15,[25])]) 19 nw h (by kernel_rfl) (by kernel_rfl) (ac hc10 (ac hc11 an)) fun a w h => ?_
 obtain ⟨hc7,hF⟩:=of_if hF
 obtain ⟨hc8,hF⟩:=of_if hF
 obtain ⟨r1,hr9,hF⟩:=of_bind hF
 refine wp_regy_seq tok (orc:=orcL [(47,[⟨iS,r1⟩])]) (l:=[0,8,9]) ([],[],[],[]) 22 nw h (by kernel_rfl) (by kernel_rfl) (ac hc7 (ac hc8 (ac (c107 k (gD x0.1.1 (tZ (gD x0.1.2.1 (tZ x1) zR).1) (iO,(iO,iO))).2 (gD x0.1.1 (tZ (gD x0.1.2.1 (tZ x1) zR).2.1) (iO,(iO,iO))).2 r1 hr9) an))) fun a w h => ?_
 obtain ⟨hc4,hF⟩:=of_if hF
 obtain ⟨hc5,hF⟩:=of_if hF
 obtain ⟨r2,hr6,hF⟩:=of_bind hF
 refine wp_regy_seq tok (orc:=orcL [(68,[⟨iS,r2⟩])]) (l:=[9,10]) ([],[],[],[]) 22 nw h (by kernel_rfl) (by kernel_rfl) (ac hc4 (ac hc5 (ac (c107 k (gD x0.1.1 (tZ (gD x0.1.2.1 (tZ x2) zR).1) (iO,(iO,iO))).2 (gD x0.1.1 (tZ (gD x0.1.2.1 (tZ x2) zR).2.1) (iO,(iO,iO))).2 r2 hr6) an))) fun a w h => ?_
 refine wp_seq ?_
 refine zs [9,10,74] h an fun a w h => ?_
 refine zi h hF (fun hF => ?_) (fun hF => ?_)
 ·refine zs [6] h an fun a w h => ?_
  cases hF
  exact wp_ret (ret_okR tok h rfl (by kernel_rfl)).1
 ·refine wp_skip ?_
  obtain ⟨hc3,hF⟩:=of_if hF
  refine zs [6] h (ac hc3 an) fun a w h => ?_
  cases hF
  exact wp_ret (ret_okR tok h rfl (by kernel_rfl)).1
def f66.j9 (k:Nat):Bool→Option Int
 | v8 => if v8 then (some (3:Int)) else (some (0:Int))
def f66.j7 (k:Nat) (r1:Int):Bool→Option Int
 | v6 => if v6 then (some (5:Int)) else (if (r1 == (5:Int)) then (f66.j9 k (r1 == (5:Int))) else (f66.j9 k (r1 == (6:Int))))
def f66 (k:Nat) (x0:(((List (Int × (Int × Int))) × ((List (Int × (Int × (Int × (Int × (Int × ByteArray)))))) × (List (Int × Int)))) × ((List (List Int)) × ((List (List Int)) × (Option (List ((Int × Int) × Bool))))))) (x1:Int) (x2:Int):Option Int:=if (0≤x1∧x1 < (List.length x0.1.2.1:Int)) then (if (0≤x2∧x2 < (List.length x0.1.2.1:Int)) then (if (bif (((List.getD x0.1.2.1 (Int.toNat x1) ((0:Int),((0:Int),((0:Int),((0:Int),((0:Int),(⟨#[]⟩:ByteArray))))))).2.1:Int) != (List.getD x0.1.2.1 (Int.toNat x2) ((0:Int),((0:Int),((0:Int),((0:Int),((0:Int),(⟨#[]⟩:ByteArray))))))).1) then true else (mget (Sh.beq sh5) x0.2.2.2 (x1,x2) false)) then (some (-1:Int)) else (if (((List.getD x0.1.2.1 (Int.toNat x2) ((0:Int),((0:Int),((0:Int),((0:Int),((0:Int),(⟨#[]⟩:ByteArray))))))).2.1:Int) == (List.getD x0.1.2.1 (Int.toNat x1) ((0:Int),((0:Int),((0:Int),((0:Int),((0:Int),(⟨#[]⟩:ByteArray))))))).1) then (some (20:Int)) else ((f86 k x0 x1 x2).bind fun r1 => (if (r1 == (2:Int)) then (f66.j7 k r1 (r1 == (2:Int))) else (if (r1 == (3:Int)) then (f66.j7 k r1 (r1 == (3:Int))) else (f66.j7 k r1 (r1 == (4:Int)))))))) else none) else none
theorem c66 (k:Nat) (x0:tN) (x1:Int) (x2:Int) (r:Int) (hF:f66 k x0 x1 x2=some r):PCall Try.prog 66 [⟨sh32,some x0⟩,⟨iS,x1⟩,⟨iS,x2⟩] [⟨iS,r⟩]:=by
 refine pcall_intro Try.func66 rfl rfl (Nat.le_of_ble_eq_true rfl) ?_
 intro w0 Zi a w h
 rw [f66] at hF
 refine zs [0,1,2] h an fun a w h => ?_
 obtain ⟨hc11,hF⟩:=of_if hF
 obtain ⟨hc12,hF⟩:=of_if hF
 refine wp_regy_seq tok (orc:=o0) (l:=[0,1,2,7,8]) ([(18,7)],[],[],[(8,[0]),(9,[17]),(10,[18]),(11,[19]),(12,[20]),(13,[2]),(14,[21,22]),(15,[23])]) 19 nw h (by kernel_rfl) (by kernel_rfl) (ac hc11 (ac hc12 an)) fun a w h => ?_
 refine wp_seq ?_
 refine zs [0,1,2,7,8,39] h (ac (fun (_:((((gD x0.1.2.1 (tZ x1) zR).2.1:Int) != (gD x0.1.2.1 (tZ x2) zR).1)=false)) => (show eqTy Try.prog 9 69 (.st (.pair iS iS))=true from by kernel_rfl)) an) fun a w h => ?_
 refine zi h hF (fun hF => ?_) (fun hF => ?_)
 ·refine zs [6] h an fun a w h => ?_
  cases hF
  exact wp_ret (ret_okR tok h rfl (by kernel_rfl)).1
 ·refine wp_skip ?_
  refine wp_seq ?_
  refine zs [0,1,2,44] h an fun a w h => ?_
  refine zi h hF (fun hF => ?_) (fun hF => ?_)
  ·refine zs [6] h an fun a w h => ?_
   cases hF
   exact wp_ret (ret_okR tok h rfl (by kernel_rfl)).1
  ·refine wp_skip ?_
   refine wp_seq ?_
   obtain ⟨r1,hr10,hF⟩:=of_bind hF
   refine zc (orcL [(48,[⟨iS,r1⟩])]) [48] h (ac (c86 k x0 x1 x2 r1 hr10) an) fun a w h => ?_
   refine wp_block ?_
   refine wp_seq ?_
   refine zs [48,49] h an fun a w h => ?_
   refine wp_midT (fun a w => ∃ v:Bool,f66.j7 k r1 v=some r∧Rel w0 (fun _ => False) Zi Try.f66.ntmps ((fun (v6:Bool) => ([(48,.val iS r1),(49,.val .bool v6)]:SS)) v) a w) ?_ ?_
   ·
    refine zi h hF (fun hF => ?_) (fun hF => ?_)
    ·refine wp_skip ?_
     exact ⟨(r1 == (2:Int)),hF,ar h [48,49]⟩
    ·refine zs [48,49] h an fun a w h => ?_
     refine zi h hF (fun hF => ?_) (fun hF => ?_)
     ·refine wp_skip ?_
      exact ⟨(r1 == (3:Int)),hF,ar h [48,49]⟩
     ·refine zt [48,49] h an fun a w h => ?_
      exact ⟨(r1 == (4:Int)),hF,ar h [48,49]⟩
   ·rintro a w ⟨v6,hF,h⟩
    rw [f66.j7] at hF
    refine zi h hF (fun hF => ?_) (fun hF => ?_)
    ·refine zs [6] h an fun a w h => ?_
     cases hF
     exact wp_ret (ret_okR tok h rfl (by kernel_rfl)).1
    ·refine wp_seq ?_
     refine zs [48,53] h an fun a w h => ?_
     refine wp_midT (fun a w => ∃ v:Bool,f66.j9 k v=some r∧Rel w0 (fun _ => False) Zi Try.f66.ntmps ((fun (v8:Bool) => ([(53,.val .bool v8)]:SS)) v) a w) ?_ ?_
     ·
      refine zi h hF (fun hF => ?_) (fun hF => ?_)
      ·refine wp_skip ?_
       exact ⟨(r1 == (5:Int)),hF,ar h [53]⟩
      ·refine zt [53] h an fun a w h => ?_
       exact ⟨(r1 == (6:Int)),hF,ar h [53]⟩
     ·rintro a w ⟨v8,hF,h⟩
      rw [f66.j9] at hF
      refine zi h hF (fun hF => ?_) (fun hF => ?_)
      ·refine zs [6] h an fun a w h => ?_
       cases hF
       exact wp_ret (ret_okR tok h rfl (by kernel_rfl)).1
      ·refine wp_skip ?_
       refine zs [6] h an fun a w h => ?_
       cases hF
       exact wp_ret (ret_okR tok h rfl (by kernel_rfl)).1
end Go.Proofs.Ytdjadmdiehkfdaa.V
