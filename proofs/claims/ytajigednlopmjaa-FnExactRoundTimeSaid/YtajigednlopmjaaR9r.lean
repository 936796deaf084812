/-
  THE CONTRACTS OF SOME FUNCTIONS OF THIS SEAT, PRINTED BY A PROGRAM OF THIS PROJECT (wip/gen/vgen.py).
-/
import Derived.Test.YtajigednlopmjaaProg
import Derived.Test.YtajigednlopmjaaVmW
import Derived.Test.YtajigednlopmjaaVmAn
import Derived.KernelRfl
import Derived.Test.YtajigednlopmjaaVmAr
import Derived.Test.YtajigednlopmjaaR9rA
set_option linter.unusedVariables false
open Go Go.Vm Go.Proofs
namespace Go.Proofs.Ytajigednlopmjaa.V
set_option maxRecDepth 100000
def f62.j256 (k:Nat) (v247:Int) (q209:Int→Option Bool):Unit→Option Bool
 | _ => q209 (IntKind.i64.wrap (v247 + (1:Int)))
def f62.l209 (k:Nat) (x0:((List (Int × (Int × Int))) × ((List (Int × (Int × (Int × (Int × (Int × ByteArray)))))) × (List (Int × Int))))):Nat→Int→Option Bool
 | 0,_ => none
 | m209+1,v247 => if (decide (v247 < (List.length x0.2.2:Int))) then (if (0≤v247∧v247 < (List.length x0.2.2:Int)) then (if (((bif (bif (bif (decide (((List.getD x0.2.2 (Int.toNat v247) ((0:Int),(0:Int))).1:Int) < (0:Int))) then true else (decide (((List.getD x0.2.2 (Int.toNat v247) ((0:Int),(0:Int))).1:Int) ≥ (List.length x0.2.1:Int)))) then true else (decide (((List.getD x0.2.2 (Int.toNat v247) ((0:Int),(0:Int))).2:Int) < (0:Int)))) then true else (decide (((List.getD x0.2.2 (Int.toNat v247) ((0:Int),(0:Int))).2:Int) ≥ (List.length x0.2.1:Int))))=false) → (0 ≤ (List.getD x0.2.2 (Int.toNat v247) ((0:Int),(0:Int))).1 ∧ (List.getD x0.2.2 (Int.toNat v247) ((0:Int),(0:Int))).1 < (List.length x0.2.1:Int))) then (if (((bif (bif (bif (decide (((List.getD x0.2.2 (Int.toNat v247) ((0:Int),(0:Int))).1:Int) < (0:Int))) then true else (decide (((List.getD x0.2.2 (Int.toNat v247) ((0:Int),(0:Int))).1:Int) ≥ (List.length x0.2.1:Int)))) then true else (decide (((List.getD x0.2.2 (Int.toNat v247) ((0:Int),(0:Int))).2:Int) < (0:Int)))) then true else (decide (((List.getD x0.2.2 (Int.toNat v247) ((0:Int),(0:Int))).2:Int) ≥ (List.length x0.2.1:Int))))=false) → (0 ≤ (List.getD x0.2.2 (Int.toNat v247) ((0:Int),(0:Int))).2 ∧ (List.getD x0.2.2 (Int.toNat v247) ((0:Int),(0:Int))).2 < (List.length x0.2.1:Int))) then ((some ((bif (bif (bif (bif (decide (((List.getD x0.2.2 (Int.toNat v247) ((0:Int),(0:Int))).1:Int) < (0:Int))) then true else (decide (((List.getD x0.2.2 (Int.toNat v247) ((0:Int),(0:Int))).1:Int) ≥ (List.length x0.2.1:Int)))) then true else (decide (((List.getD x0.2.2 (Int.toNat v247) ((0:Int),(0:Int))).2:Int) < (0:Int)))) then true else (decide (((List.getD x0.2.2 (Int.toNat v247) ((0:Int),(0:Int))).2:Int) ≥ (List.length x0.2.1:Int)))) then true else (((List.getD x0.2.1 (Int.toNat (List.getD x0.2.2 (Int.toNat v247) ((0:Int),(0:Int))).1) ((0:Int),((0:Int),((0:Int),((0:Int),((0:Int),(⟨#[]⟩:ByteArray))))))).2.1:Int) != (List.getD x0.2.1 (Int.toNat (List.getD x0.2.2 (Int.toNat v247) ((0:Int),(0:Int))).2) ((0:Int),((0:Int),((0:Int),((0:Int),((0:Int),(⟨#[]⟩:ByteArray))))))).1)):Bool)).bind fun v257 => (if v257 then (some false) else (if (decide (v247 > (0:Int))) then (if (0 ≤ (IntKind.i64.wrap (v247 - (1:Int))) ∧ (IntKind.i64.wrap (v247 - (1:Int))) < (List.length x0.2.2:Int)) then ((some ((bif (decide (((List.getD x0.2.2 (Int.toNat (IntKind.i64.wrap (v247 - (1:Int)))) ((0:Int),(0:Int))).1:Int) > (List.getD x0.2.2 (Int.toNat v247) ((0:Int),(0:Int))).1)) then true else (bif (((List.getD x0.2.2 (Int.toNat (IntKind.i64.wrap (v247 - (1:Int)))) ((0:Int),(0:Int))).1:Int) == (List.getD x0.2.2 (Int.toNat v247) ((0:Int),(0:Int))).1) then (decide (((List.getD x0.2.2 (Int.toNat (IntKind.i64.wrap (v247 - (1:Int)))) ((0:Int),(0:Int))).2:Int) ≥ (List.getD x0.2.2 (Int.toNat v247) ((0:Int),(0:Int))).2)) else false)):Bool)).bind fun v258 => (if v258 then (some false) else (f62.j256 k v247 ((f62.l209 k x0) m209) ()))) else none) else (f62.j256 k v247 ((f62.l209 k x0) m209) ())))) else none) else none) else none) else (some true)
def f62.l118 (k:Nat) (x0:((List (Int × (Int × Int))) × ((List (Int × (Int × (Int × (Int × (Int × ByteArray)))))) × (List (Int × Int))))):Nat→Int→Option Bool
 | 0,_ => none
 | m118+1,v142 => if (decide (v142 < (List.length x0.2.1:Int))) then (if (0≤v142∧v142 < (List.length x0.2.1:Int)) then ((if ((bif (bif (bif (decide (((List.getD x0.2.1 (Int.toNat v142) ((0:Int),((0:Int),((0:Int),((0:Int),((0:Int),(⟨#[]⟩:ByteArray))))))).1:Int) < (0:Int))) then true else (decide (((List.getD x0.2.1 (Int.toNat v142) ((0:Int),((0:Int),((0:Int),((0:Int),((0:Int),(⟨#[]⟩:ByteArray))))))).1:Int) ≥ (List.length x0.1:Int)))) then true else (decide (((List.getD x0.2.1 (Int.toNat v142) ((0:Int),((0:Int),((0:Int),((0:Int),((0:Int),(⟨#[]⟩:ByteArray))))))).2.1:Int) < (0:Int)))) then true else (decide (((List.getD x0.2.1 (Int.toNat v142) ((0:Int),((0:Int),((0:Int),((0:Int),((0:Int),(⟨#[]⟩:ByteArray))))))).2.1:Int) ≥ (List.length x0.1:Int))))=false) then f68 k (List.getD x0.2.1 (Int.toNat v142) ((0:Int),((0:Int),((0:Int),((0:Int),((0:Int),(⟨#[]⟩:ByteArray))))))).2.2.1 else some default).bind fun r148 => ((some ((bif (bif (bif (bif (bif (bif (bif (bif (decide (((List.getD x0.2.1 (Int.toNat v142) ((0:Int),((0:Int),((0:Int),((0:Int),((0:Int),(⟨#[]⟩:ByteArray))))))).1:Int) < (0:Int))) then true else (decide (((List.getD x0.2.1 (Int.toNat v142) ((0:Int),((0:Int),((0:Int),((0:Int),((0:Int),(⟨#[]⟩:ByteArray))))))).1:Int) ≥ (List.length x0.1:Int)))) then true else (decide (((List.getD x0.2.1 (Int.toNat v142) ((0:Int),((0:Int),((0:Int),((0:Int),((0:Int),(⟨#[]⟩:ByteArray))))))).2.1:Int) < (0:Int)))) then true else (decide (((List.getD x0.2.1 (Int.toNat v142) ((0:Int),((0:Int),((0:Int),((0:Int),((0:Int),(⟨#[]⟩:ByteArray))))))).2.1:Int) ≥ (List.length x0.1:Int)))) then true else (!r148)) then true else (decide (((List.getD x0.2.1 (Int.toNat v142) ((0:Int),((0:Int),((0:Int),((0:Int),((0:Int),(⟨#[]⟩:ByteArray))))))).2.2.2.1:Int) < (1:Int)))) then true else (decide (((List.getD x0.2.1 (Int.toNat v142) ((0:Int),((0:Int),((0:Int),((0:Int),((0:Int),(⟨#[]⟩:ByteArray))))))).2.2.2.1:Int) > (1000000:Int)))) then true else (decide (((List.getD x0.2.1 (Int.toNat v142) ((0:Int),((0:Int),((0:Int),((0:Int),((0:Int),(⟨#[]⟩:ByteArray))))))).2.2.2.2.1:Int) < (0:Int)))) then true else (decide (((List.getD x0.2.1 (Int.toNat v142) ((0:Int),((0:Int),((0:Int),((0:Int),((0:Int),(⟨#[]⟩:ByteArray))))))).2.2.2.2.1:Int) > (1000000000:Int)))):Bool)).bind fun v149 => (if v149 then (some false) else ((f62.l118 k x0) m118 (IntKind.i64.wrap (v142 + (1:Int))))))) else none) else (f62.l209 k x0 k (0:Int))
def f62.l42 (k:Nat) (x0:((List (Int × (Int × Int))) × ((List (Int × (Int × (Int × (Int × (Int × ByteArray)))))) × (List (Int × Int))))):Nat→Int→Option Bool
 | 0,_ => none
 | m42+1,v70 => if (decide (v70 < (List.length x0.1:Int))) then (if (0≤v70∧v70 < (List.length x0.1:Int)) then ((f68 k (List.getD x0.1 (Int.toNat v70) ((0:Int),((0:Int),(0:Int)))).1).bind fun r77 => ((if ((!r77)=false) then f69 k (List.getD x0.1 (Int.toNat v70) ((0:Int),((0:Int),(0:Int)))).2 else some default).bind fun r78 => (if ((((bif (!r77) then true else (!r78))=false) ∧ ((decide (v70 > (0:Int)))=true)) → (0 ≤ (IntKind.i64.wrap (v70 - (1:Int))) ∧ (IntKind.i64.wrap (v70 - (1:Int))) < (List.length x0.1:Int))) then (if (bif (bif (!r77) then true else (!r78)) then true else (bif (decide (v70 > (0:Int))) then (decide (((List.getD x0.1 (Int.toNat (IntKind.i64.wrap (v70 - (1:Int)))) ((0:Int),((0:Int),(0:Int)))).1:Int) ≥ (List.getD x0.1 (Int.toNat v70) ((0:Int),((0:Int),(0:Int)))).1)) else false)) then (some false) else ((f62.l42 k x0) m42 (IntKind.i64.wrap (v70 + (1:Int))))) else none))) else none) else (f62.l118 k x0 k (0:Int))
def f62 (k:Nat) (x0:((List (Int × (Int × Int))) × ((List (Int × (Int × (Int × (Int × (Int × ByteArray)))))) × (List (Int × Int))))):Option Bool:=if (bif (bif (decide (((List.length x0.1:Int):Int) > (5000:Int))) then true else (decide (((List.length x0.2.1:Int):Int) > (8000:Int)))) then true else (decide (((List.length x0.2.2:Int):Int) > (2000:Int)))) then (some false) else (f62.l42 k x0 k (0:Int))
theorem c62 (k:Nat) (x0:tG) (r:Bool) (hF:f62 k x0=some r):PCall Try.prog 62 [⟨sh17,x0⟩] [⟨.bool,r⟩]:=by
 refine pcall_intro Try.func62 rfl rfl (Nat.le_of_ble_eq_true rfl) ?_
 intro w0 Zi a w h
 rw [f62] at hF
 refine zs [1] h an fun a w h => ?_
 refine wp_seq ?_
 refine zs [1,27] h an fun a w h => ?_
 refine zi h hF (fun hF => ?_) (fun hF => ?_)
 ·refine zs [2] h an fun a w h => ?_
  cases hF
  exact wp_ret (ret_okR tok h rfl (by kernel_rfl)).1
 ·refine wp_skip ?_
  refine wp_seq ?_
  refine zs [1,29,30,31] h an fun a w h => ?_
  refine wp_block ?_
  refine wp_loop_fuel (f62.l42 k x0) (fun v70 => [(1,.val sh16 (some x0)),(29,.val sh26 x0.1),(30,.val iS (List.length x0.1:Int)),(31,.val iS v70)]) (fun v h => by rw [f62.l42] at h; cases h) ?_ hF (ar h [1,29,30,31])
  intro m42 v70 a w hF h
  rw [f62.l42] at hF
  refine zs [1,29,30,31,32] h an fun a w h => ?_
  refine wp_seq <| zi h hF (fun hF => ?_) (fun hF => ?_)
  ·refine wp_skip ?_
   refine wp_seq <| wp_block ?_
   obtain ⟨hc82,hF⟩:=of_if hF
   refine zs [1,3,4,29,30,31] h (ac hc82 an) fun a w h => ?_
   obtain ⟨r77,hr79,hF⟩:=of_bind hF
   obtain ⟨r78,hr80,hF⟩:=of_bind hF
   obtain ⟨hc81,hF⟩:=of_if hF
   refine wp_regy_seq tok (orc:=orcL [(38,[⟨.bool,r77⟩]),(43,[⟨.bool,r78⟩])]) (l:=[1,29,30,31,61]) ([],[],[],[]) 26 nw h (by kernel_rfl) (by kernel_rfl) (ac (c68 k (gD x0.1 (tZ v70) (iO,(iO,iO))).1 r77 hr79) (ac (fun (hg:((!r77)=false)) => c69 k (gD x0.1 (tZ v70) (iO,(iO,iO))).2 r78 (of_g hg hr80)) (ac hc81 an))) fun a w h => ?_
   refine zi h hF (fun hF => ?_) (fun hF => ?_)
   ·refine zs [2] h an fun a w h => ?_
    cases hF
    exact wp_ret (ret_okR tok h rfl (by kernel_rfl)).1
   ·refine wp_skip ?_
    refine zt [1,29,30,31] h an fun a w h => ?_
    exact ⟨(w64 (v70 + (1:Int))),hF,ar h [1,29,30,31]⟩
  ·refine wp_exit ?_
   refine zs [1,5] h an fun a w h => ?_
   refine wp_seq ?_
   refine zs [1,5,67,68,69] h an fun a w h => ?_
   refine wp_block ?_
   refine wp_loop_fuel (f62.l118 k x0) (fun v142 => [(1,.val sh16 (some x0)),(5,.val iS (List.length x0.1:Int)),(67,.val sh27 x0.2.1),(68,.val iS (List.length x0.2.1:Int)),(69,.val iS v142)]) (fun v h => by rw [f62.l118] at h; cases h) ?_ hF (ar h [1,5,67,68,69])
   intro m118 v142 a w hF h
   rw [f62.l118] at hF
   refine zs [1,5,67,68,69,70] h an fun a w h => ?_
   refine wp_seq <| zi h hF (fun hF => ?_) (fun hF => ?_)
   ·refine wp_skip ?_
    refine wp_seq <| wp_block ?_
    obtain ⟨hc152,hF⟩:=of_if hF
    refine zs [1,5,7,67,68,69] h (ac hc152 an) fun a w h => ?_
    obtain ⟨r148,hr151,hF⟩:=of_bind hF
    refine zc (orcL [(96,[⟨.bool,r148⟩])]) [1,5,67,68,69,118] h (ac (fun (hg:((bif (bif (bif (decide (((gD x0.2.1 (tZ v142) zR).1:Int) < iO)) then true else (decide (((gD x0.2.1 (tZ v142) zR).1:Int) ≥ (List.length x0.1:Int)))) then true else (decide (((gD x0.2.1 (tZ v142) zR).2.1:Int) < iO))) then true else (decide (((gD x0.2.1 (tZ v142) zR).2.1:Int) ≥ (List.length x0.1:Int))))=false)) => c68 k (gD x0.2.1 (tZ v142) zR).2.2.1 r148 (of_g hg hr151)) an) fun a w h => ?_
    obtain ⟨v149,hv150,hF⟩:=of_bind hF
    replace h:=h.cast (S':=[(1,.val sh16 (some x0)),(5,.val iS (List.length x0.1:Int)),(67,.val sh27 x0.2.1),(68,.val iS (List.length x0.2.1:Int)),(69,.val iS v142),(118,.val .bool v149)]) (by cases hv150; kernel_rfl)
    refine zi h hF (fun hF => ?_) (fun hF => ?_)
    ·refine zs [2] h an fun a w h => ?_
     cases hF
     exact wp_ret (ret_okR tok h rfl (by kernel_rfl)).1
    ·refine wp_skip ?_
     refine zt [1,5,67,68,69] h an fun a w h => ?_
     exact ⟨(w64 (v142 + (1:Int))),hF,ar h [1,5,67,68,69]⟩
   ·refine wp_exit ?_
    refine zs [1,8] h an fun a w h => ?_
    refine wp_seq ?_
    refine zs [1,8,124,125,126] h an fun a w h => ?_
    refine wp_block ?_
    refine wp_loop_fuel (f62.l209 k x0) (fun v247 => [(1,.val sh16 (some x0)),(8,.val iS (List.length x0.2.1:Int)),(124,.val sh28 x0.2.2),(125,.val iS (List.length x0.2.2:Int)),(126,.val iS v247)]) (fun v h => by rw [f62.l209] at h; cases h) ?_ hF (ar h [1,8,124,125,126])
    intro m209 v247 a w hF h
    rw [f62.l209] at hF
    refine zs [1,8,124,125,126,127] h an fun a w h => ?_
    refine wp_seq <| zi h hF (fun hF => ?_) (fun hF => ?_)
    ·refine wp_skip ?_
     refine wp_mid (fun a w => ∃ v:Unit,f62.j256 k v247 ((f62.l209 k x0) m209) v=some r∧Rel w0 (fun _ => False) Zi Try.f62.ntmps ((fun (_:Unit) => ([(1,.val sh16 (some x0)),(8,.val iS (List.length x0.2.1:Int)),(124,.val sh28 x0.2.2),(125,.val iS (List.length x0.2.2:Int)),(126,.val iS v247)]:SS)) v) a w) ?_ ?_
     ·
      refine wp_block ?_
      obtain ⟨hc264,hF⟩:=of_if hF
      refine zs [1,8,9,10,124,125,126] h (ac hc264 an) fun a w h => ?_
      refine wp_seq ?_
      obtain ⟨hc262,hF⟩:=of_if hF
      obtain ⟨hc263,hF⟩:=of_if hF
      refine wp_regy_seq tok (orc:=o0) (l:=[1,8,9,10,124,125,126,167]) ([],[],[],[]) 37 nw h (by kernel_rfl) (by kernel_rfl) (ac hc262 (ac hc263 an)) fun a w h => ?_
      obtain ⟨v257,hv261,hF⟩:=of_bind hF
      replace h:=h.cast (S':=[(1,.val sh16 (some x0)),(8,.val iS (List.length x0.2.1:Int)),(9,.val iS v247),(10,.val sh21 (some (gD x0.2.2 (tZ v247) (iO,iO)))),(124,.val sh28 x0.2.2),(125,.val iS (List.length x0.2.2:Int)),(126,.val iS v247),(167,.val .bool v257)]) (by cases hv261; kernel_rfl)
      refine zi h hF (fun hF => ?_) (fun hF => ?_)
      ·refine zs [2] h an fun a w h => ?_
       cases hF
       exact wp_ret (ret_okR tok h rfl (by kernel_rfl)).1
      ·refine wp_skip ?_
       refine zs [1,8,9,10,124,125,126,169] h an fun a w h => ?_
       refine zi h hF (fun hF => ?_) (fun hF => ?_)
       ·obtain ⟨hc260,hF⟩:=of_if hF
        refine zs [1,8,10,11,124,125,126] h (ac hc260 an) fun a w h => ?_
        refine zs [1,8,124,125,126,194] h an fun a w h => ?_
        obtain ⟨v258,hv259,hF⟩:=of_bind hF
        replace h:=h.cast (S':=[(1,.val sh16 (some x0)),(8,.val iS (List.length x0.2.1:Int)),(124,.val sh28 x0.2.2),(125,.val iS (List.length x0.2.2:Int)),(126,.val iS v247),(194,.val .bool v258)]) (by cases hv259; kernel_rfl)
        refine zi h hF (fun hF => ?_) (fun hF => ?_)
        ·refine zs [2] h an fun a w h => ?_
         cases hF
         exact wp_ret (ret_okR tok h rfl (by kernel_rfl)).1
        ·refine wp_skip ?_
         exact ⟨(),hF,ar h [1,8,124,125,126]⟩
       ·refine wp_skip ?_
        exact ⟨(),hF,ar h [1,8,124,125,126]⟩
     ·rintro a w ⟨v,hF,h⟩
      obtain ⟨⟩:=v
      rw [f62.j256] at hF
      refine zt [1,8,124,125,126] h an fun a w h => ?_
      exact ⟨(w64 (v247 + (1:Int))),hF,ar h [1,8,124,125,126]⟩
    ·refine wp_exit ?_
     refine zs [2] h an fun a w h => ?_
     cases hF
     exact wp_ret (ret_okR tok h rfl (by kernel_rfl)).1
def f63.l25 (k:Nat) (x1:(Int × (Int × (Int × (Int × (List (Int × (Int × (Int × (Int × Int)))))))))) (x0:Int):Nat→Int→Option Bool
 | 0,_ => none
 | m25+1,v41 => if (decide (v41 < (List.length x1.2.2.2.2:Int))) then (if (0≤v41∧v41 < (List.length x1.2.2.2.2:Int)) then ((some ((bif (bif (bif (bif (bif (bif (bif (bif (decide (((List.getD x1.2.2.2.2 (Int.toNat v41) ((0:Int),((0:Int),((0:Int),((0:Int),(0:Int)))))).1:Int) < (0:Int))) then true else (decide (((List.getD x1.2.2.2.2 (Int.toNat v41) ((0:Int),((0:Int),((0:Int),((0:Int),(0:Int)))))).1:Int) ≥ x0))) then true else (decide (((List.getD x1.2.2.2.2 (Int.toNat v41) ((0:Int),((0:Int),((0:Int),((0:Int),(0:Int)))))).2.1:Int) < (0:Int)))) then true else (decide (((List.getD x1.2.2.2.2 (Int.toNat v41) ((0:Int),((0:Int),((0:Int),((0:Int),(0:Int)))))).2.1:Int) > (1000:Int)))) then true else (decide (((List.getD x1.2.2.2.2 (Int.toNat v41) ((0:Int),((0:Int),((0:Int),((0:Int),(0:Int)))))).2.2.1:Int) < (0:Int)))) then true else (decide (((List.getD x1.2.2.2.2 (Int.toNat v41) ((0:Int),((0:Int),((0:Int),((0:Int),(0:Int)))))).2.2.2.1:Int) < (List.getD x1.2.2.2.2 (Int.toNat v41) ((0:Int),((0:Int),((0:Int),((0:Int),(0:Int)))))).2.2.1))) then true else (decide (((List.getD x1.2.2.2.2 (Int.toNat v41) ((0:Int),((0:Int),((0:Int),((0:Int),(0:Int)))))).2.2.2.1:Int) > (1000000:Int)))) then true else (decide (((List.getD x1.2.2.2.2 (Int.toNat v41) ((0:Int),((0:Int),((0:Int),((0:Int),(0:Int)))))).2.2.2.2:Int) < (0:Int)))) then true else (decide (((List.getD x1.2.2.2.2 (Int.toNat v41) ((0:Int),((0:Int),((0:Int),((0:Int),(0:Int)))))).2.2.2.2:Int) > (100000:Int)))):Bool)).bind fun v45 => (if v45 then (some false) else ((f63.l25 k x1 x0) m25 (IntKind.i64.wrap (v41 + (1:Int)))))) else none) else (some true)
def f63 (k:Nat) (x0:Int) (x1:(Int × (Int × (Int × (Int × (List (Int × (Int × (Int × (Int × Int)))))))))):Option Bool:=(some ((bif (bif (bif (bif (bif (bif (bif (bif (decide (x1.1 < (0:Int))) then true else (decide (x1.1 ≥ x0))) then true else (decide (x1.2.1 < (0:Int)))) then true else (decide (x1.2.1 > (1000000:Int)))) then true else (decide (x1.2.2.1 < (1:Int)))) then true else (decide (x1.2.2.1 > (4:Int)))) then true else (decide (x1.2.2.2.1 < (0:Int)))) then true else (decide (x1.2.2.2.1 > (10000:Int)))) then true else (decide (((List.length x1.2.2.2.2:Int):Int) > (6:Int)))):Bool)).bind fun v1 => (if v1 then (some false) else (f63.l25 k x1 x0 k (0:Int)))
theorem c63 (k:Nat) (x0:Int) (x1:(Int × (Int × (Int × (Int × (List (Int × (Int × (Int × (Int × Int)))))))))) (r:Bool) (hF:f63 k x0 x1=some r):PCall Try.prog 63 [⟨iS,x0⟩,⟨sh19,x1⟩] [⟨.bool,r⟩]:=by
 refine pcall_intro Try.func63 rfl rfl (Nat.le_of_ble_eq_true rfl) ?_
 intro w0 Zi a w h
 rw [f63] at hF
 refine zs [0,3] h an fun a w h => ?_
 refine wp_seq ?_
 refine zs [0,3,51] h an fun a w h => ?_
 obtain ⟨v1,hv48,hF⟩:=of_bind hF
 replace h:=h.cast (S':=[(0,.val iS x0),(3,.val sh18 (some x1)),(51,.val .bool v1)]) (by cases hv48; kernel_rfl)
 refine zi h hF (fun hF => ?_) (fun hF => ?_)
 ·refine zs [4] h an fun a w h => ?_
  cases hF
  exact wp_ret (ret_okR tok h rfl (by kernel_rfl)).1
 ·refine wp_skip ?_
  refine wp_seq ?_
  refine zs [0,53,54,55] h an fun a w h => ?_
  refine wp_block ?_
  refine wp_loop_fuel (f63.l25 k x1 x0) (fun v41 => [(0,.val iS x0),(53,.val sh29 x1.2.2.2.2),(54,.val iS (List.length x1.2.2.2.2:Int)),(55,.val iS v41)]) (fun v h => by rw [f63.l25] at h; cases h) ?_ hF (ar h [0,53,54,55])
  intro m25 v41 a w hF h
  rw [f63.l25] at hF
  refine zs [0,53,54,55,56] h an fun a w h => ?_
  refine wp_seq <| zi h hF (fun hF => ?_) (fun hF => ?_)
  ·refine wp_skip ?_
   refine wp_seq <| wp_block ?_
   obtain ⟨hc47,hF⟩:=of_if hF
   refine zs [0,6,53,54,55] h (ac hc47 an) fun a w h => ?_
   refine zs [0,53,54,55,104] h an fun a w h => ?_
   obtain ⟨v45,hv46,hF⟩:=of_bind hF
   replace h:=h.cast (S':=[(0,.val iS x0),(53,.val sh29 x1.2.2.2.2),(54,.val iS (List.length x1.2.2.2.2:Int)),(55,.val iS v41),(104,.val .bool v45)]) (by cases hv46; kernel_rfl)
   refine zi h hF (fun hF => ?_) (fun hF => ?_)
   ·refine zs [4] h an fun a w h => ?_
    cases hF
    exact wp_ret (ret_okR tok h rfl (by kernel_rfl)).1
   ·refine wp_skip ?_
    refine zt [0,53,54,55] h an fun a w h => ?_
    exact ⟨(w64 (v41 + (1:Int))),hF,ar h [0,53,54,55]⟩
  ·refine wp_exit ?_
   refine zs [4] h an fun a w h => ?_
   cases hF
   exact wp_ret (ret_okR tok h rfl (by kernel_rfl)).1
def f50 (k:Nat) (x0:((List (Int × (Int × Int))) × ((List (Int × (Int × (Int × (Int × (Int × ByteArray)))))) × (List (Int × Int))))) (x1:(Int × (Int × (Int × (Int × (List (Int × (Int × (Int × (Int × Int)))))))))):Option Bool:=(f62 k x0).bind fun r1 => (if (!r1) then (some false) else ((f63 k (List.length x0.1:Int) x1).bind fun r2 => (some r2)))
theorem c50 (k:Nat) (x0:tG) (x1:(Int × (Int × (Int × (Int × (List (Int × (Int × (Int × (Int × Int)))))))))) (r:Bool) (hF:f50 k x0 x1=some r):PCall Try.prog 50 [⟨sh17,x0⟩,⟨sh19,x1⟩] [⟨.bool,r⟩]:=by
 refine pcall_intro Try.func50 rfl rfl (Nat.le_of_ble_eq_true rfl) ?_
 intro w0 Zi a w h
 rw [f50] at hF
 refine zs [2,3] h an fun a w h => ?_
 refine wp_seq ?_
 obtain ⟨r1,hr4,hF⟩:=of_bind hF
 refine zc (orcL [(6,[⟨.bool,r1⟩])]) [2,3,7] h (ac (c62 k x0 r1 hr4) an) fun a w h => ?_
 refine zi h hF (fun hF => ?_) (fun hF => ?_)
 ·refine zs [4] h an fun a w h => ?_
  cases hF
  exact wp_ret (ret_okR tok h rfl (by kernel_rfl)).1
 ·refine wp_skip ?_
  obtain ⟨r2,hr3,hF⟩:=of_bind hF
  refine zc (orcL [(12,[⟨.bool,r2⟩])]) [4] h (ac (c63 k (List.length x0.1:Int) x1 r2 hr3) an) fun a w h => ?_
  cases hF
  exact wp_ret (ret_okR tok h rfl (by kernel_rfl)).1
def f51.l126 (k:Nat) (x0:((List (Int × (Int × Int))) × ((List (Int × (Int × (Int × (Int × (Int × ByteArray)))))) × (List (Int × Int))))) (v94:(List (List Int))) (v95:(List (List Int))):Nat → ((List ((Int × Int) × Bool)) × Int)→Option (((List (Int × (Int × Int))) × ((List (Int × (Int × (Int × (Int × (Int × ByteArray)))))) × (List (Int × Int)))) × ((List (List Int)) × ((List (List Int)) × (Option (List ((Int × Int) × Bool))))))
 | 0,_ => none
 | m126+1,(v137,v138) => if (decide (v138 < (List.length x0.2.2:Int))) then (if (0≤v138∧v138 < (List.length x0.2.2:Int)) then ((f51.l126 k x0 v94 v95) m126 ((mput (Sh.beq sh7) (List.getD x0.2.2 (Int.toNat v138) ((0:Int),(0:Int))) true v137),(IntKind.i64.wrap (v138 + (1:Int))))) else none) else (some (x0,(v94,(v95,(some v137)))))
def f51.l56 (k:Nat) (x0:((List (Int × (Int × Int))) × ((List (Int × (Int × (Int × (Int × (Int × ByteArray)))))) × (List (Int × Int))))):Nat → ((List (List Int)) × (List (List Int)) × Int)→Option (((List (Int × (Int × Int))) × ((List (Int × (Int × (Int × (Int × (Int × ByteArray)))))) × (List (Int × Int)))) × ((List (List Int)) × ((List (List Int)) × (Option (List ((Int × Int) × Bool))))))
 | 0,_ => none
 | m56+1,(v94,v95,v96) => if (decide (v96 < (List.length x0.2.1:Int))) then (if (0≤v96∧v96 < (List.length x0.2.1:Int)) then (if (0 ≤ (List.getD x0.2.1 (Int.toNat v96) ((0:Int),((0:Int),((0:Int),((0:Int),((0:Int),(⟨#[]⟩:ByteArray))))))).1 ∧ (List.getD x0.2.1 (Int.toNat v96) ((0:Int),((0:Int),((0:Int),((0:Int),((0:Int),(⟨#[]⟩:ByteArray))))))).1 < (List.length v94:Int)) then (if ((List.length (List.getD v94 (Int.toNat (List.getD x0.2.1 (Int.toNat v96) ((0:Int),((0:Int),((0:Int),((0:Int),((0:Int),(⟨#[]⟩:ByteArray))))))).1) ([]:(List Int)))+List.length [v96])*8≤140737488355328) then (if (0 ≤ (List.getD x0.2.1 (Int.toNat v96) ((0:Int),((0:Int),((0:Int),((0:Int),((0:Int),(⟨#[]⟩:ByteArray))))))).1 ∧ (List.getD x0.2.1 (Int.toNat v96) ((0:Int),((0:Int),((0:Int),((0:Int),((0:Int),(⟨#[]⟩:ByteArray))))))).1 < (List.length v94:Int)) then (if (0 ≤ (List.getD x0.2.1 (Int.toNat v96) ((0:Int),((0:Int),((0:Int),((0:Int),((0:Int),(⟨#[]⟩:ByteArray))))))).2.1 ∧ (List.getD x0.2.1 (Int.toNat v96) ((0:Int),((0:Int),((0:Int),((0:Int),((0:Int),(⟨#[]⟩:ByteArray))))))).2.1 < (List.length v95:Int)) then (if ((List.length (List.getD v95 (Int.toNat (List.getD x0.2.1 (Int.toNat v96) ((0:Int),((0:Int),((0:Int),((0:Int),((0:Int),(⟨#[]⟩:ByteArray))))))).2.1) ([]:(List Int)))+List.length [v96])*8≤140737488355328) then (if (0 ≤ (List.getD x0.2.1 (Int.toNat v96) ((0:Int),((0:Int),((0:Int),((0:Int),((0:Int),(⟨#[]⟩:ByteArray))))))).2.1 ∧ (List.getD x0.2.1 (Int.toNat v96) ((0:Int),((0:Int),((0:Int),((0:Int),((0:Int),(⟨#[]⟩:ByteArray))))))).2.1 < (List.length v95:Int)) then ((f51.l56 k x0) m56 ((List.set v94 (Int.toNat (List.getD x0.2.1 (Int.toNat v96) ((0:Int),((0:Int),((0:Int),((0:Int),((0:Int),(⟨#[]⟩:ByteArray))))))).1) (List.append (List.getD v94 (Int.toNat (List.getD x0.2.1 (Int.toNat v96) ((0:Int),((0:Int),((0:Int),((0:Int),((0:Int),(⟨#[]⟩:ByteArray))))))).1) ([]:(List Int))) [v96])),(List.set v95 (Int.toNat (List.getD x0.2.1 (Int.toNat v96) ((0:Int),((0:Int),((0:Int),((0:Int),((0:Int),(⟨#[]⟩:ByteArray))))))).2.1) (List.append (List.getD v95 (Int.toNat (List.getD x0.2.1 (Int.toNat v96) ((0:Int),((0:Int),((0:Int),((0:Int),((0:Int),(⟨#[]⟩:ByteArray))))))).2.1) ([]:(List Int))) [v96])),(IntKind.i64.wrap (v96 + (1:Int))))) else none) else none) else none) else none) else none) else none) else none) else (f51.l126 k x0 v94 v95 k (([]:(List ((Int × Int) × Bool))),(0:Int)))
def f51 (k:Nat) (x0:((List (Int × (Int × Int))) × ((List (Int × (Int × (Int × (Int × (Int × ByteArray)))))) × (List (Int × Int))))):Option (((List (Int × (Int × Int))) × ((List (Int × (Int × (Int × (Int × (Int × ByteArray)))))) × (List (Int × Int)))) × ((List (List Int)) × ((List (List Int)) × (Option (List ((Int × Int) × Bool)))))):=if (0 ≤ (List.length x0.1:Int)∧Int.toNat (List.length x0.1:Int)*24≤140737488355328) then (if (0 ≤ (List.length x0.1:Int)∧Int.toNat (List.length x0.1:Int)*24≤140737488355328) then (f51.l56 k x0 k ((List.replicate (Int.toNat (List.length x0.1:Int)) ([]:(List Int))),(List.replicate (Int.toNat (List.length x0.1:Int)) ([]:(List Int))),(0:Int))) else none) else none
theorem c51 (k:Nat) (x0:tG) (r:tN) (hF:f51 k x0=some r):PCall Try.prog 51 [⟨sh17,x0⟩] [⟨sh30,some r⟩]:=by
 refine pcall_intro Try.func51 rfl rfl (Nat.le_of_ble_eq_true rfl) ?_
 intro w0 Zi a w h
 rw [f51] at hF
 refine zs [1] h an fun a w h => ?_
 obtain ⟨hc141,hF⟩:=of_if hF
 obtain ⟨hc142,hF⟩:=of_if hF
 refine wp_regy_seq tok (orc:=o0) (l:=[1,3]) ([],[],[],[]) 10 nw h (by kernel_rfl) (by kernel_rfl) (ac hc141 (ac hc142 an)) fun a w h => ?_
 refine wp_seq ?_
 refine zs [1,3,21,22,23] h an fun a w h => ?_
 refine wp_block ?_
 refine wp_loop_fuel (f51.l56 k x0) (fun ((v94,v95,v96):((List (List Int)) × (List (List Int)) × Int)) => [(1,.val sh16 (some x0)),(3,.val sh30 (some (x0,(v94,(v95,(some ([]:(List ((Int × Int) × Bool))))))))),(21,.val sh27 x0.2.1),(22,.val iS (List.length x0.2.1:Int)),(23,.val iS v96)]) (fun v h => by obtain ⟨v94,v95,v96⟩:=v; rw [f51.l56] at h; cases h) ?_ hF (ar h [1,3,21,22,23])
 intro m56 v a w hF h
 obtain ⟨v94,v95,v96⟩:=v
 rw [f51.l56] at hF
 refine zs [1,3,21,22,23,24] h an fun a w h => ?_
 refine wp_seq <| zi h hF (fun hF => ?_) (fun hF => ?_)
 ·refine wp_skip ?_
  refine wp_seq <| wp_block ?_
  obtain ⟨hc110,hF⟩:=of_if hF
  refine zs [1,3,4,5,21,22,23] h (ac hc110 an) fun a w h => ?_
  obtain ⟨hc107,hF⟩:=of_if hF
  obtain ⟨hc108,hF⟩:=of_if hF
  obtain ⟨hc109,hF⟩:=of_if hF
  refine wp_regy_seq tok (orc:=orcL [(44,[⟨.pt false 4294967293 .unit,some ()⟩])]) (l:=[1,3,4,5,21,22,23]) ([],[],[],[]) 18 nw h (by kernel_rfl) (by kernel_rfl) (ac hc107 (ac (PrefL.mk (l:=[[],[],[.der,.snd,.fst],[.der,.snd,.fst],[],[],[.der,.snd,.fst],[.der,.snd,.fst],[.der,.snd,.fst,.idx (tZ (gD x0.2.1 (tZ v96) zR).1)],[.der,.snd,.fst,.idx (tZ (gD x0.2.1 (tZ v96) zR).1)]]) (p:=[.der,.snd,.fst,.idx (tZ (gD x0.2.1 (tZ v96) zR).1)]) rfl) (ac hc108 (ac hc109 (ac (show ([.der,.snd,.fst,.idx (tZ (gD x0.2.1 (tZ v96) zR).1)]:Path)=[.der,.snd,.fst,.idx (tZ (gD x0.2.1 (tZ v96) zR).1)] from rfl) an))))) fun a w h => ?_
  obtain ⟨hc104,hF⟩:=of_if hF
  obtain ⟨hc105,hF⟩:=of_if hF
  obtain ⟨hc106,hF⟩:=of_if hF
  refine wp_regy tok (orc:=orcL [(62,[⟨.pt false 4294967293 .unit,some ()⟩])]) (l:=[1,3,21,22,23]) ([],[],[],[]) 18 nw h (by kernel_rfl) (by kernel_rfl) (ac hc104 (ac (PrefL.mk (l:=[[],[],[.der,.snd,.snd,.fst],[.der,.snd,.snd,.fst],[],[],[.der,.snd,.snd,.fst],[.der,.snd,.snd,.fst],[.der,.snd,.snd,.fst,.idx (tZ (gD x0.2.1 (tZ v96) zR).2.1)],[.der,.snd,.snd,.fst,.idx (tZ (gD x0.2.1 (tZ v96) zR).2.1)]]) (p:=[.der,.snd,.snd,.fst,.idx (tZ (gD x0.2.1 (tZ v96) zR).2.1)]) rfl) (ac hc105 (ac hc106 (ac (show ([.der,.snd,.snd,.fst,.idx (tZ (gD x0.2.1 (tZ v96) zR).2.1)]:Path)=[.der,.snd,.snd,.fst,.idx (tZ (gD x0.2.1 (tZ v96) zR).2.1)] from rfl) an))))) fun a w h => ?_
  refine zt [1,3,21,22,23] h an fun a w h => ?_
  exact ⟨((List.set v94 (tZ (gD x0.2.1 (tZ v96) zR).1) (List.append (gD v94 (tZ (gD x0.2.1 (tZ v96) zR).1) lO) [v96])),(List.set v95 (tZ (gD x0.2.1 (tZ v96) zR).2.1) (List.append (gD v95 (tZ (gD x0.2.1 (tZ v96) zR).2.1) lO) [v96])),(w64 (v96 + (1:Int)))),hF,ar h [1,3,21,22,23]⟩
 ·refine wp_exit ?_
  refine wp_seq ?_
  refine zs [3,66,67,68] h an fun a w h => ?_
  refine wp_block ?_
  refine wp_loop_fuel (f51.l126 k x0 v94 v95) (fun ((v137,v138):((List ((Int × Int) × Bool)) × Int)) => [(3,.val sh30 (some (x0,(v94,(v95,(some v137)))))),(66,.val sh28 x0.2.2),(67,.val iS (List.length x0.2.2:Int)),(68,.val iS v138)]) (fun v h => by obtain ⟨v137,v138⟩:=v; rw [f51.l126] at h; cases h) ?_ hF (ar h [3,66,67,68])
  intro m126 v a w hF h
  obtain ⟨v137,v138⟩:=v
  rw [f51.l126] at hF
  refine zs [3,66,67,68,69] h an fun a w h => ?_
  refine wp_seq <| zi h hF (fun hF => ?_) (fun hF => ?_)
  ·refine wp_skip ?_
   refine wp_seq <| wp_block ?_
   obtain ⟨hc140,hF⟩:=of_if hF
   refine zs [3,7,66,67,68] h (ac hc140 an) fun a w h => ?_
   refine wp_regy tok (orc:=o0) (l:=[3,66,67,68]) ([],[],[],[]) 5 nw h (by kernel_rfl) (by kernel_rfl) (ac (show eqTy Try.prog 9 100 (.st (.pair iS iS))=true from by kernel_rfl) an) fun a w h => ?_
   refine zt [3,66,67,68] h an fun a w h => ?_
   exact ⟨((mput (Sh.beq sh7) (gD x0.2.2 (tZ v138) (iO,iO)) true v137),(w64 (v138 + (1:Int)))),hF,ar h [3,66,67,68]⟩
  ·refine wp_exit ?_
   refine zs [2,3] h an fun a w h => ?_
   cases hF
   exact wp_ret (ret_okR tok h rfl (by kernel_rfl)).1
def f75 (k:Nat) (x0:(Int × (Int × Int))) (x1:(Int × (Int × Int))):Option Bool:=if (x0.1 != x1.1) then (some (decide (x0.1 < x1.1))) else (if (x0.2.1 != x1.2.1) then (some (decide (x0.2.1 < x1.2.1))) else (some (decide (x0.2.2 < x1.2.2))))
theorem c75 (k:Nat) (x0:(Int × (Int × Int))) (x1:(Int × (Int × Int))) (r:Bool) (hF:f75 k x0 x1=some r):PCall Try.prog 75 [⟨sh32,x0⟩,⟨sh32,x1⟩] [⟨.bool,r⟩]:=by
 refine pcall_intro Try.func75 rfl rfl (Nat.le_of_ble_eq_true rfl) ?_
 intro w0 Zi a w h
 rw [f75] at hF
 refine zs [2,3] h an fun a w h => ?_
 refine wp_seq ?_
 refine zs [2,3,9] h an fun a w h => ?_
 refine zi h hF (fun hF => ?_) (fun hF => ?_)
 ·refine zs [4] h an fun a w h => ?_
  cases hF
  exact wp_ret (ret_okR tok h rfl (by kernel_rfl)).1
 ·refine wp_skip ?_
  refine wp_seq ?_
  refine zs [2,3,19] h an fun a w h => ?_
  refine zi h hF (fun hF => ?_) (fun hF => ?_)
  ·refine zs [4] h an fun a w h => ?_
   cases hF
   exact wp_ret (ret_okR tok h rfl (by kernel_rfl)).1
  ·refine wp_skip ?_
   refine zs [4] h an fun a w h => ?_
   cases hF
   exact wp_ret (ret_okR tok h rfl (by kernel_rfl)).1
def f70.l1 (k:Nat) (x0:((List (Int × (Int × Int))) × Unit)):Nat → ((List (Int × (Int × Int))) × Int)→Option ((List (Int × (Int × Int))) × Unit)
 | 0,_ => none
 | m1+1,(v34,v35) => if (((decide (v35 > (0:Int)))=true) → (0≤v35∧v35 < (List.length v34:Int))) then (if (((decide (v35 > (0:Int)))=true) → (((2:Int):Int)≠0)) then (if (((decide (v35 > (0:Int)))=true) → (0 ≤ (IntKind.i64.wrap (Int.tdiv (IntKind.i64.wrap (v35 - (1:Int))) (2:Int))) ∧ (IntKind.i64.wrap (Int.tdiv (IntKind.i64.wrap (v35 - (1:Int))) (2:Int))) < (List.length v34:Int))) then ((if ((decide (v35 > (0:Int)))=true) then f75 k (List.getD v34 (Int.toNat v35) ((0:Int),((0:Int),(0:Int)))) (List.getD v34 (Int.toNat (IntKind.i64.wrap (Int.tdiv (IntKind.i64.wrap (v35 - (1:Int))) (2:Int)))) ((0:Int),((0:Int),(0:Int)))) else some default).bind fun r36 => (if (bif (decide (v35 > (0:Int))) then r36 else false) then (if (((2:Int):Int)≠0) then (if (((2:Int):Int)≠0) then (if (0 ≤ (IntKind.i64.wrap (Int.tdiv (IntKind.i64.wrap (v35 - (1:Int))) (2:Int))) ∧ (IntKind.i64.wrap (Int.tdiv (IntKind.i64.wrap (v35 - (1:Int))) (2:Int))) < (List.length v34:Int)) then (if (0≤v35∧v35 < (List.length v34:Int)) then (if (0≤v35∧v35 < (List.length v34:Int)) then (if (0 ≤ (IntKind.i64.wrap (Int.tdiv (IntKind.i64.wrap (v35 - (1:Int))) (2:Int))) ∧ (IntKind.i64.wrap (Int.tdiv (IntKind.i64.wrap (v35 - (1:Int))) (2:Int))) < (List.length (List.set v34 (Int.toNat v35) (List.getD v34 (Int.toNat (IntKind.i64.wrap (Int.tdiv (IntKind.i64.wrap (v35 - (1:Int))) (2:Int)))) ((0:Int),((0:Int),(0:Int))))):Int)) then (if (((2:Int):Int)≠0) then ((f70.l1 k x0) m1 ((List.set (List.set v34 (Int.toNat v35) (List.getD v34 (Int.toNat (IntKind.i64.wrap (Int.tdiv (IntKind.i64.wrap (v35 - (1:Int))) (2:Int)))) ((0:Int),((0:Int),(0:Int))))) (Int.toNat (IntKind.i64.wrap (Int.tdiv (IntKind.i64.wrap (v35 - (1:Int))) (2:Int)))) (List.getD v34 (Int.toNat v35) ((0:Int),((0:Int),(0:Int))))),(IntKind.i64.wrap (Int.tdiv (IntKind.i64.wrap (v35 - (1:Int))) (2:Int))))) else none) else none) else none) else none) else none) else none) else none) else (some (v34,x0.2)))) else none) else none) else none
def f70 (k:Nat) (x0:((List (Int × (Int × Int))) × Unit)) (x1:(Int × (Int × Int))):Option ((List (Int × (Int × Int))) × Unit):=if ((List.length x0.1+List.length [x1])*24≤140737488355328) then (f70.l1 k x0 k ((List.append x0.1 [x1]),(IntKind.i64.wrap ((List.length (List.append x0.1 [x1]):Int) - (1:Int))))) else none
theorem c70 (k:Nat) (x0:((List (Int × (Int × Int))) × Unit)) (x1:(Int × (Int × Int))) (r:((List (Int × (Int × Int))) × Unit)) (hF:f70 k x0 x1=some r):PMut Try.prog 70 [⟨sh33,some x0⟩,⟨sh32,x1⟩] [] (List.set [⟨sh33,some x0⟩,⟨sh32,x1⟩] 0 ⟨sh33,some r⟩):=by
 refine pmut_intro (j:=0) (fin:=⟨sh33,some r⟩) Try.func70 rfl rfl (Nat.le_of_ble_eq_true rfl) (Nat.le_of_ble_eq_true rfl) (by kernel_rfl) ?_
 intro w0 Zi f0 v0 a w h
 rw [f70] at hF
 refine wp_reg_seq tok (orc:=o0) (fz:=[]) (l:=[0,3]) (.inl rfl) h (by kernel_rfl) an fun a w h => ?_
 obtain ⟨hc48,hF⟩:=of_if hF
 refine wp_regy_seq tok (orc:=orcL [(12,[⟨.pt false 4294967293 .unit,some ()⟩])]) (fz:=[]) (l:=[0]) ([],[],[],[]) 10 (.inl rfl) h (by kernel_rfl) (by kernel_rfl) (ac (PrefL.mk (l:=[[],[],[],[.der,.fst],[.der,.fst]]) (p:=[.der,.fst]) rfl) (ac hc48 (ac (show ([.der,.fst]:Path)=[.der,.fst] from rfl) an))) fun a w h => ?_
 refine wp_reg_seq tok (orc:=o0) (fz:=[]) (l:=[0,4]) (.inl rfl) h (by kernel_rfl) an fun a w h => ?_
 refine wp_block ?_
 refine wp_loop_fuel (f70.l1 k x0) (fun ((v34,v35):((List (Int × (Int × Int))) × Int)) => [(0,.val sh33 (some (v34,x0.2))),(4,.val iS v35)]) (fun v h => by obtain ⟨v34,v35⟩:=v; rw [f70.l1] at h; cases h) ?_ hF (h.arrive (fz:=[]) (l:=[0,4]) (.inl rfl) (by kernel_rfl))
 intro m1 v a w hF h
 obtain ⟨v34,v35⟩:=v
 rw [f70.l1] at hF
 refine wp_seq ?_
 obtain ⟨hc44,hF⟩:=of_if hF
 obtain ⟨hc45,hF⟩:=of_if hF
 obtain ⟨hc46,hF⟩:=of_if hF
 obtain ⟨r36,hr47,hF⟩:=of_bind hF
 refine wp_regy_seq tok (orc:=orcL [(40,[⟨.bool,r36⟩])]) (fz:=[]) (l:=[0,4,41]) ([],[],[],[]) 21 (.inl rfl) h (by kernel_rfl) (by kernel_rfl) (ac hc44 (ac hc45 (ac hc46 (ac (fun (hg:((decide (v35 > iO))=true)) => c75 k (gD v34 (tZ v35) (iO,(iO,iO))) (gD v34 (tZ (w64 (Int.tdiv (w64 (v35 - (1:Int))) (2:Int)))) (iO,(iO,iO))) r36 (of_g hg hr47)) an)))) fun a w h => ?_
 refine zi h hF (fun hF => ?_) (fun hF => ?_)
 ·refine wp_skip ?_
  refine wp_block ?_
  obtain ⟨hc38,hF⟩:=of_if hF
  obtain ⟨hc39,hF⟩:=of_if hF
  obtain ⟨hc40,hF⟩:=of_if hF
  obtain ⟨hc41,hF⟩:=of_if hF
  obtain ⟨hc42,hF⟩:=of_if hF
  obtain ⟨hc43,hF⟩:=of_if hF
  refine wp_regy_seq tok (orc:=orcL [(70,[⟨.pt false 4294967289 .unit,some ()⟩])]) (fz:=[]) (l:=[0,4]) ([(29,0)],[],[(29,[42,43,45,47,48,50,54,55,57,63,64,66])],[(9,[4]),(10,[51]),(11,[52])]) 30 (.inl rfl) h (by kernel_rfl) (by kernel_rfl) (ac hc38 (ac hc39 (ac hc40 (ac hc41 (ac hc42 (ac hc43 an)))))) fun a w h => ?_
  obtain ⟨hc37,hF⟩:=of_if hF
  refine wp_reg tok (orc:=o0) (fz:=[]) (l:=[0,4]) (.inl rfl) h (by kernel_rfl) (ac hc37 an) fun a w h => ?_
  exact ⟨((List.set (List.set v34 (tZ v35) (gD v34 (tZ (w64 (Int.tdiv (w64 (v35 - (1:Int))) (2:Int)))) (iO,(iO,iO)))) (tZ (w64 (Int.tdiv (w64 (v35 - (1:Int))) (2:Int)))) (gD v34 (tZ v35) (iO,(iO,iO)))),(w64 (Int.tdiv (w64 (v35 - (1:Int))) (2:Int)))),hF,h.arrive (fz:=[]) (l:=[0,4]) (.inl rfl) (by kernel_rfl)⟩
 ·refine wp_exit ?_
  cases hF
  exact (retM_ok tok h rfl (by kernel_rfl) (by kernel_rfl)).2
def f71.j55 (k:Nat) (x0:((List (Int × (Int × Int))) × Unit)):(List (Int × (Int × Int)))→Option ((Int × (Int × Int)) × ((List (Int × (Int × Int))) × Unit))
 | v54 => some ((List.getD x0.1 (Int.toNat (0:Int)) ((0:Int),((0:Int),(0:Int)))),(v54,x0.2))
def f71.j97 (k:Nat) (v93:(List (Int × (Int × Int)))) (v94:Int) (q55:(List (Int × (Int × Int)))→Option ((Int × (Int × Int)) × ((List (Int × (Int × Int))) × Unit))) (q56:((List (Int × (Int × Int))) × Int)→Option ((Int × (Int × Int)) × ((List (Int × (Int × Int))) × Unit))):Int→Option ((Int × (Int × Int)) × ((List (Int × (Int × Int))) × Unit))
 | v96 => if (0≤v96∧v96 < (List.length v93:Int)) then (if (0≤v94∧v94 < (List.length v93:Int)) then ((f75 k (List.getD v93 (Int.toNat v96) ((0:Int),((0:Int),(0:Int)))) (List.getD v93 (Int.toNat v94) ((0:Int),((0:Int),(0:Int))))).bind fun r98 => (if (!r98) then (q55 v93) else (if (0≤v96∧v96 < (List.length v93:Int)) then (if (0≤v94∧v94 < (List.length v93:Int)) then (if (0≤v94∧v94 < (List.length v93:Int)) then (if (0≤v96∧v96 < (List.length (List.set v93 (Int.toNat v94) (List.getD v93 (Int.toNat v96) ((0:Int),((0:Int),(0:Int))))):Int)) then (q56 ((List.set (List.set v93 (Int.toNat v94) (List.getD v93 (Int.toNat v96) ((0:Int),((0:Int),(0:Int))))) (Int.toNat v96) (List.getD v93 (Int.toNat v94) ((0:Int),((0:Int),(0:Int))))),v96)) else none) else none) else none) else none))) else none) else none
def f71.l56 (k:Nat) (x0:((List (Int × (Int × Int))) × Unit)) (q55:(List (Int × (Int × Int)))→Option ((Int × (Int × Int)) × ((List (Int × (Int × Int))) × Unit))):Nat → ((List (Int × (Int × Int))) × Int)→Option ((Int × (Int × Int)) × ((List (Int × (Int × Int))) × Unit))
 | 0,_ => none
 | m56+1,(v93,v94) => if (decide (((IntKind.i64.wrap ((IntKind.i64.wrap ((2:Int)*v94)) + (1:Int))):Int) ≥ (IntKind.i64.wrap ((List.length x0.1:Int) - (1:Int))))) then (q55 v93) else (if (((decide (((IntKind.i64.wrap ((IntKind.i64.wrap ((IntKind.i64.wrap ((2:Int)*v94)) + (1:Int))) + (1:Int))):Int) < (IntKind.i64.wrap ((List.length x0.1:Int) - (1:Int)))))=true) → (0 ≤ (IntKind.i64.wrap ((IntKind.i64.wrap ((IntKind.i64.wrap ((2:Int)*v94)) + (1:Int))) + (1:Int))) ∧ (IntKind.i64.wrap ((IntKind.i64.wrap ((IntKind.i64.wrap ((2:Int)*v94)) + (1:Int))) + (1:Int))) < (List.length v93:Int))) then (if (((decide (((IntKind.i64.wrap ((IntKind.i64.wrap ((IntKind.i64.wrap ((2:Int)*v94)) + (1:Int))) + (1:Int))):Int) < (IntKind.i64.wrap ((List.length x0.1:Int) - (1:Int)))))=true) → (0 ≤ (IntKind.i64.wrap ((IntKind.i64.wrap ((2:Int)*v94)) + (1:Int))) ∧ (IntKind.i64.wrap ((IntKind.i64.wrap ((2:Int)*v94)) + (1:Int))) < (List.length v93:Int))) then ((if ((decide (((IntKind.i64.wrap ((IntKind.i64.wrap ((IntKind.i64.wrap ((2:Int)*v94)) + (1:Int))) + (1:Int))):Int) < (IntKind.i64.wrap ((List.length x0.1:Int) - (1:Int)))))=true) then f75 k (List.getD v93 (Int.toNat (IntKind.i64.wrap ((IntKind.i64.wrap ((IntKind.i64.wrap ((2:Int)*v94)) + (1:Int))) + (1:Int)))) ((0:Int),((0:Int),(0:Int)))) (List.getD v93 (Int.toNat (IntKind.i64.wrap ((IntKind.i64.wrap ((2:Int)*v94)) + (1:Int)))) ((0:Int),((0:Int),(0:Int)))) else some default).bind fun r95 => (if (bif (decide (((IntKind.i64.wrap ((IntKind.i64.wrap ((IntKind.i64.wrap ((2:Int)*v94)) + (1:Int))) + (1:Int))):Int) < (IntKind.i64.wrap ((List.length x0.1:Int) - (1:Int))))) then r95 else false) then (f71.j97 k v93 v94 (q55) ((f71.l56 k x0 q55) m56) (IntKind.i64.wrap ((IntKind.i64.wrap ((IntKind.i64.wrap ((2:Int)*v94)) + (1:Int))) + (1:Int)))) else (f71.j97 k v93 v94 (q55) ((f71.l56 k x0 q55) m56) (IntKind.i64.wrap ((IntKind.i64.wrap ((2:Int)*v94)) + (1:Int)))))) else none) else none)
def f71 (k:Nat) (x0:((List (Int × (Int × Int))) × Unit)):Option ((Int × (Int × Int)) × ((List (Int × (Int × Int))) × Unit)):=if (0 ≤ (0:Int) ∧ (0:Int) < (List.length x0.1:Int)) then (if (0 ≤ (IntKind.i64.wrap ((List.length x0.1:Int) - (1:Int))) ∧ (IntKind.i64.wrap ((List.length x0.1:Int) - (1:Int))) < (List.length x0.1:Int)) then (if (0 ≤ (0:Int) ∧ (0:Int) < (List.length x0.1:Int)) then (if ((0:Int) ≤ (IntKind.i64.wrap ((List.length x0.1:Int) - (1:Int))) ∧ ((IntKind.i64.wrap ((List.length x0.1:Int) - (1:Int))):Int) ≤ (List.length (List.set x0.1 (Int.toNat (0:Int)) (List.getD x0.1 (Int.toNat (IntKind.i64.wrap ((List.length x0.1:Int) - (1:Int)))) ((0:Int),((0:Int),(0:Int))))):Int)) then (f71.l56 k x0 (f71.j55 k x0) k ((List.take (Int.toNat (IntKind.i64.wrap ((List.length x0.1:Int) - (1:Int)))) (List.set x0.1 (Int.toNat (0:Int)) (List.getD x0.1 (Int.toNat (IntKind.i64.wrap ((List.length x0.1:Int) - (1:Int)))) ((0:Int),((0:Int),(0:Int)))))),(0:Int))) else none) else none) else none) else none
theorem c71 (k:Nat) (x0:((List (Int × (Int × Int))) × Unit)) (r:((Int × (Int × Int)) × ((List (Int × (Int × Int))) × Unit))) (hF:f71 k x0=some r):PMut Try.prog 71 [⟨sh33,some x0⟩] [⟨sh32,r.1⟩] (List.set [⟨sh33,some x0⟩] 0 ⟨sh33,some r.2⟩):=by
 refine pmut_intro (j:=0) (fin:=⟨sh33,some r.2⟩) Try.func71 rfl rfl (Nat.le_of_ble_eq_true rfl) (Nat.le_of_ble_eq_true rfl) (by kernel_rfl) ?_
 intro w0 Zi f0 v0 a w h
 rw [f71] at hF
 refine wp_reg_seq tok (orc:=o0) (fz:=[]) (l:=[0,2]) (.inl rfl) h (by kernel_rfl) an fun a w h => ?_
 obtain ⟨hc112,hF⟩:=of_if hF
 refine wp_reg_seq tok (orc:=o0) (fz:=[]) (l:=[0,2,3]) (.inl rfl) h (by kernel_rfl) (ac hc112 an) fun a w h => ?_
 refine wp_reg_seq tok (orc:=o0) (fz:=[]) (l:=[0,2,3,4]) (.inl rfl) h (by kernel_rfl) an fun a w h => ?_
 obtain ⟨hc110,hF⟩:=of_if hF
 obtain ⟨hc111,hF⟩:=of_if hF
 refine wp_regy_seq tok (orc:=o0) (fz:=[]) (l:=[0,2,3,4]) ([],[],[],[]) 12 (.inl rfl) h (by kernel_rfl) (by kernel_rfl) (ac hc110 (ac hc111 an)) fun a w h => ?_
 obtain ⟨hc109,hF⟩:=of_if hF
 refine wp_reg_seq tok (orc:=orcL [(37,[⟨.pt false 4294967293 .unit,some ()⟩])]) (fz:=[]) (l:=[0,2,3,4]) (.inl rfl) h (by kernel_rfl) (ac hc109 (ac (show ([.der,.fst]:Path)=[.der,.fst] from rfl) an)) fun a w h => ?_
 refine wp_reg_seq tok (orc:=o0) (fz:=[]) (l:=[0,2,3,4,5]) (.inl rfl) h (by kernel_rfl) an fun a w h => ?_
 refine wp_mid (fun a w => ∃ v:(List (Int × (Int × Int))),f71.j55 k x0 v=some r∧Rel w0 f0 Zi ⟨Try.f71.ntmps,[0],fun _ => v0⟩ ((fun (v54:(List (Int × (Int × Int)))) => ([(0,.val sh33 (some (v54,x0.2))),(2,.val sh34 (some (iO,(iO,iO)))),(3,.val sh34 (some (gD x0.1 (tZ iO) (iO,(iO,iO)))))]:SS)) v) a w) ?_ ?_
 ·
  refine wp_block ?_
  refine wp_loop_fuel (f71.l56 k x0 (f71.j55 k x0)) (fun ((v93,v94):((List (Int × (Int × Int))) × Int)) => [(0,.val sh33 (some (v93,x0.2))),(2,.val sh34 (some (iO,(iO,iO)))),(3,.val sh34 (some (gD x0.1 (tZ iO) (iO,(iO,iO))))),(4,.val iS (w64 ((List.length x0.1:Int) - (1:Int)))),(5,.val iS v94)]) (fun v h => by obtain ⟨v93,v94⟩:=v; rw [f71.l56] at h; cases h) ?_ hF (h.arrive (fz:=[]) (l:=[0,2,3,4,5]) (.inl rfl) (by kernel_rfl))
  intro m56 v a w hF h
  obtain ⟨v93,v94⟩:=v
  rw [f71.l56] at hF
  refine wp_block ?_
  refine wp_reg_seq tok (orc:=o0) (fz:=[]) (l:=[0,2,3,4,5,6]) (.inl rfl) h (by kernel_rfl) an fun a w h => ?_
  refine wp_seq ?_
  refine wp_reg_seq tok (orc:=o0) (fz:=[]) (l:=[0,2,3,4,5,6,45]) (.inl rfl) h (by kernel_rfl) an fun a w h => ?_
  refine zi h hF (fun hF => ?_) (fun hF => ?_)
  ·refine wp_exit ?_
   exact ⟨v93,hF,h.arrive (fz:=[]) (l:=[0,2,3]) (.inl rfl) (by kernel_rfl)⟩
  ·refine wp_skip ?_
   refine wp_seq ?_
   obtain ⟨hc106,hF⟩:=of_if hF
   obtain ⟨hc107,hF⟩:=of_if hF
   obtain ⟨r95,hr108,hF⟩:=of_bind hF
   refine wp_regy_seq tok (orc:=orcL [(66,[⟨.bool,r95⟩])]) (fz:=[]) (l:=[0,2,3,4,5,6,67]) ([],[],[],[]) 22 (.inl rfl) h (by kernel_rfl) (by kernel_rfl) (ac hc106 (ac hc107 (ac (fun (hg:((decide (((w64 ((w64 ((w64 ((2:Int)*v94)) + (1:Int))) + (1:Int))):Int) < (w64 ((List.length x0.1:Int) - (1:Int)))))=true)) => c75 k (gD v93 (tZ (w64 ((w64 ((w64 ((2:Int)*v94)) + (1:Int))) + (1:Int)))) (iO,(iO,iO))) (gD v93 (tZ (w64 ((w64 ((2:Int)*v94)) + (1:Int)))) (iO,(iO,iO))) r95 (of_g hg hr108)) an))) fun a w h => ?_
   refine wp_midT (fun a w => ∃ v:Int,f71.j97 k v93 v94 (f71.j55 k x0) ((f71.l56 k x0 (f71.j55 k x0)) m56) v=some r∧Rel w0 f0 Zi ⟨Try.f71.ntmps,[0],fun _ => v0⟩ ((fun v96 => ([(0,.val sh33 (some (v93,x0.2))),(2,.val sh34 (some (iO,(iO,iO)))),(3,.val sh34 (some (gD x0.1 (tZ iO) (iO,(iO,iO))))),(4,.val iS (w64 ((List.length x0.1:Int) - (1:Int)))),(5,.val iS v94),(6,.val iS v96)]:SS)) v) a w) ?_ ?_
   ·
    refine zi h hF (fun hF => ?_) (fun hF => ?_)
    ·refine wp_reg tok (orc:=o0) (fz:=[]) (l:=[0,2,3,4,5,6]) (.inl rfl) h (by kernel_rfl) an fun a w h => ?_
     exact ⟨(w64 ((w64 ((w64 ((2:Int)*v94)) + (1:Int))) + (1:Int))),hF,h.arrive (fz:=[]) (l:=[0,2,3,4,5,6]) (.inl rfl) (by kernel_rfl)⟩
    ·refine wp_skip ?_
     exact ⟨(w64 ((w64 ((2:Int)*v94)) + (1:Int))),hF,h.arrive (fz:=[]) (l:=[0,2,3,4,5,6]) (.inl rfl) (by kernel_rfl)⟩
   ·rintro a w ⟨v96,hF,h⟩
    rw [f71.j97] at hF
    refine wp_seq ?_
    obtain ⟨hc103,hF⟩:=of_if hF
    obtain ⟨hc104,hF⟩:=of_if hF
    obtain ⟨r98,hr105,hF⟩:=of_bind hF
    refine wp_regy_seq tok (orc:=orcL [(84,[⟨.bool,r98⟩])]) (fz:=[]) (l:=[0,2,3,4,5,6,85]) ([],[],[],[]) 16 (.inl rfl) h (by kernel_rfl) (by kernel_rfl) (ac hc103 (ac hc104 (ac (c75 k (gD v93 (tZ v96) (iO,(iO,iO))) (gD v93 (tZ v94) (iO,(iO,iO))) r98 hr105) an))) fun a w h => ?_
    refine zi h hF (fun hF => ?_) (fun hF => ?_)
    ·refine wp_exit ?_
     exact ⟨v93,hF,h.arrive (fz:=[]) (l:=[0,2,3]) (.inl rfl) (by kernel_rfl)⟩
    ·refine wp_skip ?_
     obtain ⟨hc99,hF⟩:=of_if hF
     obtain ⟨hc100,hF⟩:=of_if hF
     obtain ⟨hc101,hF⟩:=of_if hF
     obtain ⟨hc102,hF⟩:=of_if hF
     refine wp_regy_seq tok (orc:=orcL [(110,[⟨.pt false 4294967289 .unit,some ()⟩])]) (fz:=[]) (l:=[0,2,3,4,6]) ([(25,0)],[],[(25,[86,87,89,91,92,94,96,97,99,103,104,106])],[(9,[6])]) 26 (.inl rfl) h (by kernel_rfl) (by kernel_rfl) (ac hc99 (ac hc100 (ac hc101 (ac hc102 an)))) fun a w h => ?_
     refine wp_reg tok (orc:=o0) (fz:=[]) (l:=[0,2,3,4,5]) (.inl rfl) h (by kernel_rfl) an fun a w h => ?_
     exact ⟨((List.set (List.set v93 (tZ v94) (gD v93 (tZ v96) (iO,(iO,iO)))) (tZ v96) (gD v93 (tZ v94) (iO,(iO,iO)))),v96),hF,h.arrive (fz:=[]) (l:=[0,2,3,4,5]) (.inl rfl) (by kernel_rfl)⟩
 ·rintro a w ⟨v54,hF,h⟩
  rw [f71.j55] at hF
  refine wp_reg_seq tok (orc:=o0) (fz:=[]) (l:=[0,2]) (.inl rfl) h (by kernel_rfl) an fun a w h => ?_
  cases hF
  exact wp_ret (retM_ok tok h rfl (by kernel_rfl) (by kernel_rfl)).1
def f79 (k:Nat) (x0:Int):Option Int:=if (decide (x0 < (0:Int))) then (some (IntKind.i64.wrap (0 - x0))) else (some x0)
theorem c79 (k:Nat) (x0:Int) (r:Int) (hF:f79 k x0=some r):PCall Try.prog 79 [⟨iS,x0⟩] [⟨iS,r⟩]:=by
 refine pcall_intro Try.func79 rfl rfl (Nat.le_of_ble_eq_true rfl) ?_
 intro w0 Zi a w h
 rw [f79] at hF
 refine zs [0] h an fun a w h => ?_
 refine wp_seq ?_
 refine zs [0,4] h an fun a w h => ?_
 refine zi h hF (fun hF => ?_) (fun hF => ?_)
 ·refine zs [2] h an fun a w h => ?_
  cases hF
  exact wp_ret (ret_okR tok h rfl (by kernel_rfl)).1
 ·refine wp_skip ?_
  refine zs [2] h an fun a w h => ?_
  cases hF
  exact wp_ret (ret_okR tok h rfl (by kernel_rfl)).1
def f78 (k:Nat) (x0:(Int × Int)) (x1:(Int × Int)):Option Int:=(if ((Sh.beq sh7 x0 x1)=false) then f69 k x0 else some default).bind fun r1 => ((if ((bif (Sh.beq sh7 x0 x1) then true else (!r1))=false) then f69 k x1 else some default).bind fun r2 => (if (bif (bif (Sh.beq sh7 x0 x1) then true else (!r1)) then true else (!r2)) then (some (-1:Int)) else ((f79 k (IntKind.i64.wrap (x1.1 - x0.1))).bind fun r3 => ((f79 k (IntKind.i64.wrap (x1.2 - x0.2))).bind fun r4 => ((f79 k (IntKind.i64.wrap (x1.1 - x0.1))).bind fun r5 => ((f79 k (IntKind.i64.wrap (x1.2 - x0.2))).bind fun r6 => (if (decide (((IntKind.i64.wrap ((5:Int) * (if r6 < r5 then r6 else r5))):Int) < (IntKind.i64.wrap ((2:Int) * (if r4 > r3 then r4 else r3))))) then ((f79 k (IntKind.i64.wrap (x1.1 - x0.1))).bind fun r31 => ((f79 k (IntKind.i64.wrap (x1.2 - x0.2))).bind fun r32 => (if (bif (decide (r31 > r32)) then (decide (((IntKind.i64.wrap (x1.1 - x0.1)):Int) > (0:Int))) else false) then (some (0:Int)) else ((f79 k (IntKind.i64.wrap (x1.1 - x0.1))).bind fun r33 => ((f79 k (IntKind.i64.wrap (x1.2 - x0.2))).bind fun r34 => (if (decide (r33 > r34)) then (some (4:Int)) else (if (decide (((IntKind.i64.wrap (x1.2 - x0.2)):Int) > (0:Int))) then (some (2:Int)) else (some (6:Int))))))))) else (if (bif (decide (((IntKind.i64.wrap (x1.1 - x0.1)):Int) > (0:Int))) then (decide (((IntKind.i64.wrap (x1.2 - x0.2)):Int) > (0:Int))) else false) then (some (1:Int)) else (if (bif (decide (((IntKind.i64.wrap (x1.1 - x0.1)):Int) < (0:Int))) then (decide (((IntKind.i64.wrap (x1.2 - x0.2)):Int) > (0:Int))) else false) then (some (3:Int)) else (if (bif (decide (((IntKind.i64.wrap (x1.1 - x0.1)):Int) < (0:Int))) then (decide (((IntKind.i64.wrap (x1.2 - x0.2)):Int) < (0:Int))) else false) then (some (5:Int)) else (some (7:Int))))))))))))
theorem c78 (k:Nat) (x0:(Int × Int)) (x1:(Int × Int)) (r:Int) (hF:f78 k x0 x1=some r):PCall Try.prog 78 [⟨sh7,x0⟩,⟨sh7,x1⟩] [⟨iS,r⟩]:=by
 refine pcall_intro Try.func78 rfl rfl (Nat.le_of_ble_eq_true rfl) ?_
 intro w0 Zi a w h
 rw [f78] at hF
 refine zs [2,3] h an fun a w h => ?_
 refine wp_seq ?_
 obtain ⟨r1,hr43,hF⟩:=of_bind hF
 obtain ⟨r2,hr44,hF⟩:=of_bind hF
 refine zc (orcL [(14,[⟨.bool,r1⟩]),(19,[⟨.bool,r2⟩])]) [2,3,21] h (ac (And.intro (show eqTy Try.prog 9 90 (.st (.pair iS iS))=true from by kernel_rfl) (show Try.prog.eqGuardType Try.prog.depth 90=false from by kernel_rfl)) (ac (fun (hg:((Sh.beq sh7 x0 x1)=false)) => c69 k x0 r1 (of_g hg hr43)) (ac (fun (hg:((bif (Sh.beq sh7 x0 x1) then true else (!r1))=false)) => c69 k x1 r2 (of_g hg hr44)) an))) fun a w h => ?_
 refine zi h hF (fun hF => ?_) (fun hF => ?_)
 ·refine zs [4] h an fun a w h => ?_
  cases hF
  exact wp_ret (ret_okR tok h rfl (by kernel_rfl)).1
 ·refine wp_skip ?_
  refine wp_regy_seq tok (orc:=o0) (l:=[5,6]) ([],[],[],[]) 12 nw h (by kernel_rfl) (by kernel_rfl) an fun a w h => ?_
  obtain ⟨r3,hr39,hF⟩:=of_bind hF
  obtain ⟨r4,hr40,hF⟩:=of_bind hF
  obtain ⟨r5,hr41,hF⟩:=of_bind hF
  obtain ⟨r6,hr42,hF⟩:=of_bind hF
  refine zc (orcL [(33,[⟨iS,r3⟩]),(35,[⟨iS,r4⟩]),(38,[⟨iS,r5⟩]),(40,[⟨iS,r6⟩])]) [5,6,7,8] h (ac (c79 k (w64 (x1.1 - x0.1)) r3 hr39) (ac (c79 k (w64 (x1.2 - x0.2)) r4 hr40) (ac (c79 k (w64 (x1.1 - x0.1)) r5 hr41) (ac (c79 k (w64 (x1.2 - x0.2)) r6 hr42) an)))) fun a w h => ?_
  refine wp_seq ?_
  refine zs [5,6,46] h an fun a w h => ?_
  refine zi h hF (fun hF => ?_) (fun hF => ?_)
  ·refine wp_seq <| wp_block ?_
   obtain ⟨r31,hr37,hF⟩:=of_bind hF
   obtain ⟨r32,hr38,hF⟩:=of_bind hF
   refine zc (orcL [(49,[⟨iS,r31⟩]),(51,[⟨iS,r32⟩])]) [5,6,47] h (ac (c79 k (w64 (x1.1 - x0.1)) r31 hr37) (ac (c79 k (w64 (x1.2 - x0.2)) r32 hr38) an)) fun a w h => ?_
   refine zi h hF (fun hF => ?_) (fun hF => ?_)
   ·refine zs [4] h an fun a w h => ?_
    cases hF
    exact wp_ret (ret_okR tok h rfl (by kernel_rfl)).1
   ·obtain ⟨r33,hr35,hF⟩:=of_bind hF
    obtain ⟨r34,hr36,hF⟩:=of_bind hF
    refine zc (orcL [(59,[⟨iS,r33⟩]),(61,[⟨iS,r34⟩])]) [6,57] h (ac (c79 k (w64 (x1.1 - x0.1)) r33 hr35) (ac (c79 k (w64 (x1.2 - x0.2)) r34 hr36) an)) fun a w h => ?_
    refine zi h hF (fun hF => ?_) (fun hF => ?_)
    ·refine zs [4] h an fun a w h => ?_
     cases hF
     exact wp_ret (ret_okR tok h rfl (by kernel_rfl)).1
    ·refine zs [63] h an fun a w h => ?_
     refine zi h hF (fun hF => ?_) (fun hF => ?_)
     ·refine zs [4] h an fun a w h => ?_
      cases hF
      exact wp_ret (ret_okR tok h rfl (by kernel_rfl)).1
     ·refine wp_skip ?_
      refine zs [4] h an fun a w h => ?_
      cases hF
      exact wp_ret (ret_okR tok h rfl (by kernel_rfl)).1
  ·refine wp_skip ?_
   refine wp_seq <| wp_block ?_
   refine zs [5,6,66] h an fun a w h => ?_
   refine zi h hF (fun hF => ?_) (fun hF => ?_)
   ·refine zs [4] h an fun a w h => ?_
    cases hF
    exact wp_ret (ret_okR tok h rfl (by kernel_rfl)).1
   ·refine zs [5,6,73] h an fun a w h => ?_
    refine zi h hF (fun hF => ?_) (fun hF => ?_)
    ·refine zs [4] h an fun a w h => ?_
     cases hF
     exact wp_ret (ret_okR tok h rfl (by kernel_rfl)).1
    ·refine zs [80] h an fun a w h => ?_
     refine zi h hF (fun hF => ?_) (fun hF => ?_)
     ·refine zs [4] h an fun a w h => ?_
      cases hF
      exact wp_ret (ret_okR tok h rfl (by kernel_rfl)).1
     ·refine wp_skip ?_
      refine zs [4] h an fun a w h => ?_
      cases hF
      exact wp_ret (ret_okR tok h rfl (by kernel_rfl)).1
def f76 (k:Nat) (x0:(((List (Int × (Int × Int))) × ((List (Int × (Int × (Int × (Int × (Int × ByteArray)))))) × (List (Int × Int)))) × ((List (List Int)) × ((List (List Int)) × (Option (List ((Int × Int) × Bool))))))) (x1:Int) (x2:Int):Option Int:=if (0≤x1∧x1 < (List.length x0.1.2.1:Int)) then (if (0≤x2∧x2 < (List.length x0.1.2.1:Int)) then (if (0 ≤ (List.getD x0.1.2.1 (Int.toNat x1) ((0:Int),((0:Int),((0:Int),((0:Int),((0:Int),(⟨#[]⟩:ByteArray))))))).1 ∧ (List.getD x0.1.2.1 (Int.toNat x1) ((0:Int),((0:Int),((0:Int),((0:Int),((0:Int),(⟨#[]⟩:ByteArray))))))).1 < (List.length x0.1.1:Int)) then (if (0 ≤ (List.getD x0.1.2.1 (Int.toNat x1) ((0:Int),((0:Int),((0:Int),((0:Int),((0:Int),(⟨#[]⟩:ByteArray))))))).2.1 ∧ (List.getD x0.1.2.1 (Int.toNat x1) ((0:Int),((0:Int),((0:Int),((0:Int),((0:Int),(⟨#[]⟩:ByteArray))))))).2.1 < (List.length x0.1.1:Int)) then ((f78 k (List.getD x0.1.1 (Int.toNat (List.getD x0.1.2.1 (Int.toNat x1) ((0:Int),((0:Int),((0:Int),((0:Int),((0:Int),(⟨#[]⟩:ByteArray))))))).1) ((0:Int),((0:Int),(0:Int)))).2 (List.getD x0.1.1 (Int.toNat (List.getD x0.1.2.1 (Int.toNat x1) ((0:Int),((0:Int),((0:Int),((0:Int),((0:Int),(⟨#[]⟩:ByteArray))))))).2.1) ((0:Int),((0:Int),(0:Int)))).2).bind fun r1 => (if (0 ≤ (List.getD x0.1.2.1 (Int.toNat x2) ((0:Int),((0:Int),((0:Int),((0:Int),((0:Int),(⟨#[]⟩:ByteArray))))))).1 ∧ (List.getD x0.1.2.1 (Int.toNat x2) ((0:Int),((0:Int),((0:Int),((0:Int),((0:Int),(⟨#[]⟩:ByteArray))))))).1 < (List.length x0.1.1:Int)) then (if (0 ≤ (List.getD x0.1.2.1 (Int.toNat x2) ((0:Int),((0:Int),((0:Int),((0:Int),((0:Int),(⟨#[]⟩:ByteArray))))))).2.1 ∧ (List.getD x0.1.2.1 (Int.toNat x2) ((0:Int),((0:Int),((0:Int),((0:Int),((0:Int),(⟨#[]⟩:ByteArray))))))).2.1 < (List.length x0.1.1:Int)) then ((f78 k (List.getD x0.1.1 (Int.toNat (List.getD x0.1.2.1 (Int.toNat x2) ((0:Int),((0:Int),((0:Int),((0:Int),((0:Int),(⟨#[]⟩:ByteArray))))))).1) ((0:Int),((0:Int),(0:Int)))).2 (List.getD x0.1.1 (Int.toNat (List.getD x0.1.2.1 (Int.toNat x2) ((0:Int),((0:Int),((0:Int),((0:Int),((0:Int),(⟨#[]⟩:ByteArray))))))).2.1) ((0:Int),((0:Int),(0:Int)))).2).bind fun r2 => (if (bif (decide (r1 < (0:Int))) then true else (decide (r2 < (0:Int)))) then (some (-1:Int)) else (if (((8:Int):Int)≠0) then (some (Int.tmod (IntKind.i64.wrap ((IntKind.i64.wrap (r2 - r1)) + (8:Int))) (8:Int))) else none))) else none) else none)) else none) else none) else none) else none
theorem c76 (k:Nat) (x0:tN) (x1:Int) (x2:Int) (r:Int) (hF:f76 k x0 x1 x2=some r):PCall Try.prog 76 [⟨sh31,some x0⟩,⟨iS,x1⟩,⟨iS,x2⟩] [⟨iS,r⟩]:=by
 refine pcall_intro Try.func76 rfl rfl (Nat.le_of_ble_eq_true rfl) ?_
 intro w0 Zi a w h
 rw [f76] at hF
 refine zs [0,1,2] h an fun a w h => ?_
 obtain ⟨hc10,hF⟩:=of_if hF
 obtain ⟨hc11,hF⟩:=of_if hF
 refine wp_regy_seq tok (orc:=o0) (l:=[0,7,8]) ([(18,7)],[],[],[(8,[0]),(9,[19]),(10,[20]),(11,[21]),(12,[22]),(13,[2]),(14,[23,24]),(15,[25])]) 19 nw h (by kernel_rfl) (by kernel_rfl) (ac hc10 (ac hc11 an)) fun a w h => ?_
 obtain ⟨hc7,hF⟩:=of_if hF
 obtain ⟨hc8,hF⟩:=of_if hF
 obtain ⟨r1,hr9,hF⟩:=of_bind hF
 refine wp_regy_seq tok (orc:=orcL [(47,[⟨iS,r1⟩])]) (l:=[0,8,9]) ([],[],[],[]) 22 nw h (by kernel_rfl) (by kernel_rfl) (ac hc7 (ac hc8 (ac (c78 k (gD x0.1.1 (tZ (gD x0.1.2.1 (tZ x1) zR).1) (iO,(iO,iO))).2 (gD x0.1.1 (tZ (gD x0.1.2.1 (tZ x1) zR).2.1) (iO,(iO,iO))).2 r1 hr9) an))) fun a w h => ?_
 obtain ⟨hc4,hF⟩:=of_if hF
 obtain ⟨hc5,hF⟩:=of_if hF
 obtain ⟨r2,hr6,hF⟩:=of_bind hF
 refine wp_regy_seq tok (orc:=orcL [(68,[⟨iS,r2⟩])]) (l:=[9,10]) ([],[],[],[]) 22 nw h (by kernel_rfl) (by kernel_rfl) (ac hc4 (ac hc5 (ac (c78 k (gD x0.1.1 (tZ (gD x0.1.2.1 (tZ x2) zR).1) (iO,(iO,iO))).2 (gD x0.1.1 (tZ (gD x0.1.2.1 (tZ x2) zR).2.1) (iO,(iO,iO))).2 r2 hr6) an))) fun a w h => ?_
 refine wp_seq ?_
 refine zs [9,10,74] h an fun a w h => ?_
 refine zi h hF (fun hF => ?_) (fun hF => ?_)
 ·refine zs [6] h an fun a w h => ?_
  cases hF
  exact wp_ret (ret_okR tok h rfl (by kernel_rfl)).1
 ·refine wp_skip ?_
  obtain ⟨hc3,hF⟩:=of_if hF
  refine zs [6] h (ac hc3 an) fun a w h => ?_
  cases hF
  exact wp_ret (ret_okR tok h rfl (by kernel_rfl)).1
def f72.j9 (k:Nat):Bool→Option Int
 | v8 => if v8 then (some (3:Int)) else (some (0:Int))
def f72.j7 (k:Nat) (r1:Int):Bool→Option Int
 | v6 => if v6 then (some (5:Int)) else (if (r1 == (5:Int)) then (f72.j9 k (r1 == (5:Int))) else (f72.j9 k (r1 == (6:Int))))
def f72 (k:Nat) (x0:(((List (Int × (Int × Int))) × ((List (Int × (Int × (Int × (Int × (Int × ByteArray)))))) × (List (Int × Int)))) × ((List (List Int)) × ((List (List Int)) × (Option (List ((Int × Int) × Bool))))))) (x1:Int) (x2:Int):Option Int:=if (0≤x1∧x1 < (List.length x0.1.2.1:Int)) then (if (0≤x2∧x2 < (List.length x0.1.2.1:Int)) then (if (bif (((List.getD x0.1.2.1 (Int.toNat x1) ((0:Int),((0:Int),((0:Int),((0:Int),((0:Int),(⟨#[]⟩:ByteArray))))))).2.1:Int) != (List.getD x0.1.2.1 (Int.toNat x2) ((0:Int),((0:Int),((0:Int),((0:Int),((0:Int),(⟨#[]⟩:ByteArray))))))).1) then true else (mget (Sh.beq sh7) x0.2.2.2 (x1,x2) false)) then (some (-1:Int)) else (if (((List.getD x0.1.2.1 (Int.toNat x2) ((0:Int),((0:Int),((0:Int),((0:Int),((0:Int),(⟨#[]⟩:ByteArray))))))).2.1:Int) == (List.getD x0.1.2.1 (Int.toNat x1) ((0:Int),((0:Int),((0:Int),((0:Int),((0:Int),(⟨#[]⟩:ByteArray))))))).1) then (some (20:Int)) else ((f76 k x0 x1 x2).bind fun r1 => (if (r1 == (2:Int)) then (f72.j7 k r1 (r1 == (2:Int))) else (if (r1 == (3:Int)) then (f72.j7 k r1 (r1 == (3:Int))) else (f72.j7 k r1 (r1 == (4:Int)))))))) else none) else none
theorem c72 (k:Nat) (x0:tN) (x1:Int) (x2:Int) (r:Int) (hF:f72 k x0 x1 x2=some r):PCall Try.prog 72 [⟨sh31,some x0⟩,⟨iS,x1⟩,⟨iS,x2⟩] [⟨iS,r⟩]:=by
 refine pcall_intro Try.func72 rfl rfl (Nat.le_of_ble_eq_true rfl) ?_
 intro w0 Zi a w h
 rw [f72] at hF
 refine zs [0,1,2] h an fun a w h => ?_
 obtain ⟨hc11,hF⟩:=of_if hF
 obtain ⟨hc12,hF⟩:=of_if hF
 refine wp_regy_seq tok (orc:=o0) (l:=[0,1,2,7,8]) ([(18,7)],[],[],[(8,[0]),(9,[17]),(10,[18]),(11,[19]),(12,[20]),(13,[2]),(14,[21,22]),(15,[23])]) 19 nw h (by kernel_rfl) (by kernel_rfl) (ac hc11 (ac hc12 an)) fun a w h => ?_
 refine wp_seq ?_
 refine zs [0,1,2,7,8,39] h (ac (fun (_:((((gD x0.1.2.1 (tZ x1) zR).2.1:Int) != (gD x0.1.2.1 (tZ x2) zR).1)=false)) => (show eqTy Try.prog 9 100 (.st (.pair iS iS))=true from by kernel_rfl)) an) fun a w h => ?_
 refine zi h hF (fun hF => ?_) (fun hF => ?_)
 ·refine zs [6] h an fun a w h => ?_
  cases hF
  exact wp_ret (ret_okR tok h rfl (by kernel_rfl)).1
 ·refine wp_skip ?_
  refine wp_seq ?_
  refine zs [0,1,2,44] h an fun a w h => ?_
  refine zi h hF (fun hF => ?_) (fun hF => ?_)
  ·refine zs [6] h an fun a w h => ?_
   cases hF
   exact wp_ret (ret_okR tok h rfl (by kernel_rfl)).1
  ·refine wp_skip ?_
   refine wp_seq ?_
   obtain ⟨r1,hr10,hF⟩:=of_bind hF
   refine zc (orcL [(48,[⟨iS,r1⟩])]) [48] h (ac (c76 k x0 x1 x2 r1 hr10) an) fun a w h => ?_
   refine wp_block ?_
   refine wp_seq ?_
   refine zs [48,49] h an fun a w h => ?_
   refine wp_midT (fun a w => ∃ v:Bool,f72.j7 k r1 v=some r∧Rel w0 (fun _ => False) Zi Try.f72.ntmps ((fun (v6:Bool) => ([(48,.val iS r1),(49,.val .bool v6)]:SS)) v) a w) ?_ ?_
   ·
    refine zi h hF (fun hF => ?_) (fun hF => ?_)
    ·refine wp_skip ?_
     exact ⟨(r1 == (2:Int)),hF,ar h [48,49]⟩
    ·refine zs [48,49] h an fun a w h => ?_
     refine zi h hF (fun hF => ?_) (fun hF => ?_)
     ·refine wp_skip ?_
      exact ⟨(r1 == (3:Int)),hF,ar h [48,49]⟩
     ·refine zt [48,49] h an fun a w h => ?_
      exact ⟨(r1 == (4:Int)),hF,ar h [48,49]⟩
   ·rintro a w ⟨v6,hF,h⟩
    rw [f72.j7] at hF
    refine zi h hF (fun hF => ?_) (fun hF => ?_)
    ·refine zs [6] h an fun a w h => ?_
     cases hF
     exact wp_ret (ret_okR tok h rfl (by kernel_rfl)).1
    ·refine wp_seq ?_
     refine zs [48,53] h an fun a w h => ?_
     refine wp_midT (fun a w => ∃ v:Bool,f72.j9 k v=some r∧Rel w0 (fun _ => False) Zi Try.f72.ntmps ((fun (v8:Bool) => ([(53,.val .bool v8)]:SS)) v) a w) ?_ ?_
     ·
      refine zi h hF (fun hF => ?_) (fun hF => ?_)
      ·refine wp_skip ?_
       exact ⟨(r1 == (5:Int)),hF,ar h [53]⟩
      ·refine zt [53] h an fun a w h => ?_
       exact ⟨(r1 == (6:Int)),hF,ar h [53]⟩
     ·rintro a w ⟨v8,hF,h⟩
      rw [f72.j9] at hF
      refine zi h hF (fun hF => ?_) (fun hF => ?_)
      ·refine zs [6] h an fun a w h => ?_
       cases hF
       exact wp_ret (ret_okR tok h rfl (by kernel_rfl)).1
      ·refine wp_skip ?_
       refine zs [6] h an fun a w h => ?_
       cases hF
       exact wp_ret (ret_okR tok h rfl (by kernel_rfl)).1
def f64.j807 (k:Nat) (v790:Int) (q716:((List Int) × ((List (Int × (Int × Int))) × Unit) × Int)→Option (List Int)):((List Int) × ((List (Int × (Int × Int))) × Unit))→Option (List Int)
 | (v805,v806) => q716 (v805,v806,(IntKind.i64.wrap (v790 + (1:Int))))
def f64.l716 (k:Nat) (x0:(((List (Int × (Int × Int))) × ((List (Int × (Int × (Int × (Int × (Int × ByteArray)))))) × (List (Int × Int)))) × ((List (List Int)) × ((List (List Int)) × (Option (List ((Int × Int) × Bool))))))) (r715:((Int × (Int × Int)) × ((List (Int × (Int × Int))) × Unit))) (v713:(List Bool)) (q478:((List Int) × (List Bool) × ((List (Int × (Int × Int))) × Unit))→Option (List Int)):Nat → ((List Int) × ((List (Int × (Int × Int))) × Unit) × Int)→Option (List Int)
 | 0,_ => none
 | m716+1,(v788,v789,v790) => if (decide (v790 < (List.length (List.getD x0.2.1 (Int.toNat (List.getD x0.1.2.1 (Int.toNat r715.1.2.2) ((0:Int),((0:Int),((0:Int),((0:Int),((0:Int),(⟨#[]⟩:ByteArray))))))).2.1) ([]:(List Int))):Int))) then (if (0≤v790∧v790 < (List.length (List.getD x0.2.1 (Int.toNat (List.getD x0.1.2.1 (Int.toNat r715.1.2.2) ((0:Int),((0:Int),((0:Int),((0:Int),((0:Int),(⟨#[]⟩:ByteArray))))))).2.1) ([]:(List Int))):Int)) then (if (0 ≤ (List.getD (List.getD x0.2.1 (Int.toNat (List.getD x0.1.2.1 (Int.toNat r715.1.2.2) ((0:Int),((0:Int),((0:Int),((0:Int),((0:Int),(⟨#[]⟩:ByteArray))))))).2.1) ([]:(List Int))) (Int.toNat v790) (0:Int)) ∧ (List.getD (List.getD x0.2.1 (Int.toNat (List.getD x0.1.2.1 (Int.toNat r715.1.2.2) ((0:Int),((0:Int),((0:Int),((0:Int),((0:Int),(⟨#[]⟩:ByteArray))))))).2.1) ([]:(List Int))) (Int.toNat v790) (0:Int)) < (List.length (List.set v713 (Int.toNat r715.1.2.2) true):Int)) then (if (List.getD (List.set v713 (Int.toNat r715.1.2.2) true) (Int.toNat (List.getD (List.getD x0.2.1 (Int.toNat (List.getD x0.1.2.1 (Int.toNat r715.1.2.2) ((0:Int),((0:Int),((0:Int),((0:Int),((0:Int),(⟨#[]⟩:ByteArray))))))).2.1) ([]:(List Int))) (Int.toNat v790) (0:Int))) false) then (f64.j807 k v790 ((f64.l716 k x0 r715 v713 q478) m716) (v788,v789)) else ((f72 k x0 r715.1.2.2 (List.getD (List.getD x0.2.1 (Int.toNat (List.getD x0.1.2.1 (Int.toNat r715.1.2.2) ((0:Int),((0:Int),((0:Int),((0:Int),((0:Int),(⟨#[]⟩:ByteArray))))))).2.1) ([]:(List Int))) (Int.toNat v790) (0:Int))).bind fun r808 => (if (decide (r808 < (0:Int))) then (f64.j807 k v790 ((f64.l716 k x0 r715 v713 q478) m716) (v788,v789)) else (if (0 ≤ (List.getD (List.getD x0.2.1 (Int.toNat (List.getD x0.1.2.1 (Int.toNat r715.1.2.2) ((0:Int),((0:Int),((0:Int),((0:Int),((0:Int),(⟨#[]⟩:ByteArray))))))).2.1) ([]:(List Int))) (Int.toNat v790) (0:Int)) ∧ (List.getD (List.getD x0.2.1 (Int.toNat (List.getD x0.1.2.1 (Int.toNat r715.1.2.2) ((0:Int),((0:Int),((0:Int),((0:Int),((0:Int),(⟨#[]⟩:ByteArray))))))).2.1) ([]:(List Int))) (Int.toNat v790) (0:Int)) < (List.length x0.1.2.1:Int)) then (if (0 ≤ (List.getD (List.getD x0.2.1 (Int.toNat (List.getD x0.1.2.1 (Int.toNat r715.1.2.2) ((0:Int),((0:Int),((0:Int),((0:Int),((0:Int),(⟨#[]⟩:ByteArray))))))).2.1) ([]:(List Int))) (Int.toNat v790) (0:Int)) ∧ (List.getD (List.getD x0.2.1 (Int.toNat (List.getD x0.1.2.1 (Int.toNat r715.1.2.2) ((0:Int),((0:Int),((0:Int),((0:Int),((0:Int),(⟨#[]⟩:ByteArray))))))).2.1) ([]:(List Int))) (Int.toNat v790) (0:Int)) < (List.length v788:Int)) then (if (((decide (((List.getD v788 (Int.toNat (List.getD (List.getD x0.2.1 (Int.toNat (List.getD x0.1.2.1 (Int.toNat r715.1.2.2) ((0:Int),((0:Int),((0:Int),((0:Int),((0:Int),(⟨#[]⟩:ByteArray))))))).2.1) ([]:(List Int))) (Int.toNat v790) (0:Int))) (0:Int)):Int) < (0:Int)))=false) → (0 ≤ (List.getD (List.getD x0.2.1 (Int.toNat (List.getD x0.1.2.1 (Int.toNat r715.1.2.2) ((0:Int),((0:Int),((0:Int),((0:Int),((0:Int),(⟨#[]⟩:ByteArray))))))).2.1) ([]:(List Int))) (Int.toNat v790) (0:Int)) ∧ (List.getD (List.getD x0.2.1 (Int.toNat (List.getD x0.1.2.1 (Int.toNat r715.1.2.2) ((0:Int),((0:Int),((0:Int),((0:Int),((0:Int),(⟨#[]⟩:ByteArray))))))).2.1) ([]:(List Int))) (Int.toNat v790) (0:Int)) < (List.length v788:Int))) then ((some ((bif (decide (((List.getD v788 (Int.toNat (List.getD (List.getD x0.2.1 (Int.toNat (List.getD x0.1.2.1 (Int.toNat r715.1.2.2) ((0:Int),((0:Int),((0:Int),((0:Int),((0:Int),(⟨#[]⟩:ByteArray))))))).2.1) ([]:(List Int))) (Int.toNat v790) (0:Int))) (0:Int)):Int) < (0:Int))) then true else (decide (((IntKind.i64.wrap ((IntKind.i64.wrap (r715.1.1+r808)) + (List.getD x0.1.2.1 (Int.toNat (List.getD (List.getD x0.2.1 (Int.toNat (List.getD x0.1.2.1 (Int.toNat r715.1.2.2) ((0:Int),((0:Int),((0:Int),((0:Int),((0:Int),(⟨#[]⟩:ByteArray))))))).2.1) ([]:(List Int))) (Int.toNat v790) (0:Int))) ((0:Int),((0:Int),((0:Int),((0:Int),((0:Int),(⟨#[]⟩:ByteArray))))))).2.2.2.1)):Int) < (List.getD v788 (Int.toNat (List.getD (List.getD x0.2.1 (Int.toNat (List.getD x0.1.2.1 (Int.toNat r715.1.2.2) ((0:Int),((0:Int),((0:Int),((0:Int),((0:Int),(⟨#[]⟩:ByteArray))))))).2.1) ([]:(List Int))) (Int.toNat v790) (0:Int))) (0:Int))))):Bool)).bind fun v809 => (if v809 then (if (0 ≤ (List.getD (List.getD x0.2.1 (Int.toNat (List.getD x0.1.2.1 (Int.toNat r715.1.2.2) ((0:Int),((0:Int),((0:Int),((0:Int),((0:Int),(⟨#[]⟩:ByteArray))))))).2.1) ([]:(List Int))) (Int.toNat v790) (0:Int)) ∧ (List.getD (List.getD x0.2.1 (Int.toNat (List.getD x0.1.2.1 (Int.toNat r715.1.2.2) ((0:Int),((0:Int),((0:Int),((0:Int),((0:Int),(⟨#[]⟩:ByteArray))))))).2.1) ([]:(List Int))) (Int.toNat v790) (0:Int)) < (List.length v788:Int)) then ((some ((List.set v788 (Int.toNat (List.getD (List.getD x0.2.1 (Int.toNat (List.getD x0.1.2.1 (Int.toNat r715.1.2.2) ((0:Int),((0:Int),((0:Int),((0:Int),((0:Int),(⟨#[]⟩:ByteArray))))))).2.1) ([]:(List Int))) (Int.toNat v790) (0:Int))) (IntKind.i64.wrap ((IntKind.i64.wrap (r715.1.1+r808)) + (List.getD x0.1.2.1 (Int.toNat (List.getD (List.getD x0.2.1 (Int.toNat (List.getD x0.1.2.1 (Int.toNat r715.1.2.2) ((0:Int),((0:Int),((0:Int),((0:Int),((0:Int),(⟨#[]⟩:ByteArray))))))).2.1) ([]:(List Int))) (Int.toNat v790) (0:Int))) ((0:Int),((0:Int),((0:Int),((0:Int),((0:Int),(⟨#[]⟩:ByteArray))))))).2.2.2.1))):(List Int))).bind fun v810 => ((f70 k v789 ((IntKind.i64.wrap ((IntKind.i64.wrap (r715.1.1+r808)) + (List.getD x0.1.2.1 (Int.toNat (List.getD (List.getD x0.2.1 (Int.toNat (List.getD x0.1.2.1 (Int.toNat r715.1.2.2) ((0:Int),((0:Int),((0:Int),((0:Int),((0:Int),(⟨#[]⟩:ByteArray))))))).2.1) ([]:(List Int))) (Int.toNat v790) (0:Int))) ((0:Int),((0:Int),((0:Int),((0:Int),((0:Int),(⟨#[]⟩:ByteArray))))))).2.2.2.1)),((0:Int),(List.getD (List.getD x0.2.1 (Int.toNat (List.getD x0.1.2.1 (Int.toNat r715.1.2.2) ((0:Int),((0:Int),((0:Int),((0:Int),((0:Int),(⟨#[]⟩:ByteArray))))))).2.1) ([]:(List Int))) (Int.toNat v790) (0:Int))))).bind fun r811 => (f64.j807 k v790 ((f64.l716 k x0 r715 v713 q478) m716) (v810,r811)))) else none) else (f64.j807 k v790 ((f64.l716 k x0 r715 v713 q478) m716) (v788,v789)))) else none) else none) else none)))) else none) else none) else (q478 (v788,(List.set v713 (Int.toNat r715.1.2.2) true),v789))
def f64.l478 (k:Nat) (x0:(((List (Int × (Int × Int))) × ((List (Int × (Int × (Int × (Int × (Int × ByteArray)))))) × (List (Int × Int)))) × ((List (List Int)) × ((List (List Int)) × (Option (List ((Int × Int) × Bool))))))):Nat → ((List Int) × (List Bool) × ((List (Int × (Int × Int))) × Unit))→Option (List Int)
 | 0,_ => none
 | m478+1,(v712,v713,v714) => if (decide (((List.length v714.1:Int):Int) > (0:Int))) then ((f71 k v714).bind fun r715 => (if (0≤r715.1.2.2∧r715.1.2.2 < (List.length v713:Int)) then (if (List.getD v713 (Int.toNat r715.1.2.2) false) then ((f64.l478 k x0) m478 (v712,v713,r715.2)) else (if (0≤r715.1.2.2∧r715.1.2.2 < (List.length v713:Int)) then (if (0≤r715.1.2.2∧r715.1.2.2 < (List.length x0.1.2.1:Int)) then (if (0 ≤ (List.getD x0.1.2.1 (Int.toNat r715.1.2.2) ((0:Int),((0:Int),((0:Int),((0:Int),((0:Int),(⟨#[]⟩:ByteArray))))))).2.1 ∧ (List.getD x0.1.2.1 (Int.toNat r715.1.2.2) ((0:Int),((0:Int),((0:Int),((0:Int),((0:Int),(⟨#[]⟩:ByteArray))))))).2.1 < (List.length x0.2.1:Int)) then (f64.l716 k x0 r715 v713 ((f64.l478 k x0) m478) k (v712,r715.2,(0:Int))) else none) else none) else none)) else none)) else (some v712)
def f64.l80 (k:Nat) (x0:(((List (Int × (Int × Int))) × ((List (Int × (Int × (Int × (Int × (Int × ByteArray)))))) × (List (Int × Int)))) × ((List (List Int)) × ((List (List Int)) × (Option (List ((Int × Int) × Bool))))))) (x1:Int):Nat → ((List Int) × ((List (Int × (Int × Int))) × Unit) × Int)→Option (List Int)
 | 0,_ => none
 | m80+1,(v114,v115,v116) => if (decide (v116 < (List.length (List.getD x0.2.1 (Int.toNat x1) ([]:(List Int))):Int))) then (if (0≤v116∧v116 < (List.length (List.getD x0.2.1 (Int.toNat x1) ([]:(List Int))):Int)) then (if (0 ≤ (List.getD (List.getD x0.2.1 (Int.toNat x1) ([]:(List Int))) (Int.toNat v116) (0:Int)) ∧ (List.getD (List.getD x0.2.1 (Int.toNat x1) ([]:(List Int))) (Int.toNat v116) (0:Int)) < (List.length x0.1.2.1:Int)) then (if (0 ≤ (List.getD (List.getD x0.2.1 (Int.toNat x1) ([]:(List Int))) (Int.toNat v116) (0:Int)) ∧ (List.getD (List.getD x0.2.1 (Int.toNat x1) ([]:(List Int))) (Int.toNat v116) (0:Int)) < (List.length v114:Int)) then (if (0 ≤ (List.getD (List.getD x0.2.1 (Int.toNat x1) ([]:(List Int))) (Int.toNat v116) (0:Int)) ∧ (List.getD (List.getD x0.2.1 (Int.toNat x1) ([]:(List Int))) (Int.toNat v116) (0:Int)) < (List.length (List.set v114 (Int.toNat (List.getD (List.getD x0.2.1 (Int.toNat x1) ([]:(List Int))) (Int.toNat v116) (0:Int))) (List.getD x0.1.2.1 (Int.toNat (List.getD (List.getD x0.2.1 (Int.toNat x1) ([]:(List Int))) (Int.toNat v116) (0:Int))) ((0:Int),((0:Int),((0:Int),((0:Int),((0:Int),(⟨#[]⟩:ByteArray))))))).2.2.2.1):Int)) then ((f70 k v115 ((List.getD (List.set v114 (Int.toNat (List.getD (List.getD x0.2.1 (Int.toNat x1) ([]:(List Int))) (Int.toNat v116) (0:Int))) (List.getD x0.1.2.1 (Int.toNat (List.getD (List.getD x0.2.1 (Int.toNat x1) ([]:(List Int))) (Int.toNat v116) (0:Int))) ((0:Int),((0:Int),((0:Int),((0:Int),((0:Int),(⟨#[]⟩:ByteArray))))))).2.2.2.1) (Int.toNat (List.getD (List.getD x0.2.1 (Int.toNat x1) ([]:(List Int))) (Int.toNat v116) (0:Int))) (0:Int)),((0:Int),(List.getD (List.getD x0.2.1 (Int.toNat x1) ([]:(List Int))) (Int.toNat v116) (0:Int))))).bind fun r123 => ((f64.l80 k x0 x1) m80 ((List.set v114 (Int.toNat (List.getD (List.getD x0.2.1 (Int.toNat x1) ([]:(List Int))) (Int.toNat v116) (0:Int))) (List.getD x0.1.2.1 (Int.toNat (List.getD (List.getD x0.2.1 (Int.toNat x1) ([]:(List Int))) (Int.toNat v116) (0:Int))) ((0:Int),((0:Int),((0:Int),((0:Int),((0:Int),(⟨#[]⟩:ByteArray))))))).2.2.2.1),r123,(IntKind.i64.wrap (v116 + (1:Int)))))) else none) else none) else none) else none) else (f64.l478 k x0 k (v114,(List.replicate (Int.toNat (List.length x0.1.2.1:Int)) false),v115))
def f64.l16 (k:Nat) (x0:(((List (Int × (Int × Int))) × ((List (Int × (Int × (Int × (Int × (Int × ByteArray)))))) × (List (Int × Int)))) × ((List (List Int)) × ((List (List Int)) × (Option (List ((Int × Int) × Bool))))))) (x1:Int):Nat → ((List Int) × Int)→Option (List Int)
 | 0,_ => none
 | m16+1,(v27,v28) => if (decide (v28 < (List.length (List.replicate (Int.toNat (List.length x0.1.2.1:Int)) (0:Int)):Int))) then (if (0≤v28∧v28 < (List.length v27:Int)) then ((f64.l16 k x0 x1) m16 ((List.set v27 (Int.toNat v28) (-1:Int)),(IntKind.i64.wrap (v28 + (1:Int))))) else none) else (if (0≤x1∧x1 < (List.length x0.2.1:Int)) then (f64.l80 k x0 x1 k (v27,(([]:(List (Int × (Int × Int)))),()),(0:Int))) else none)
def f64 (k:Nat) (x0:(((List (Int × (Int × Int))) × ((List (Int × (Int × (Int × (Int × (Int × ByteArray)))))) × (List (Int × Int)))) × ((List (List Int)) × ((List (List Int)) × (Option (List ((Int × Int) × Bool))))))) (x1:Int):Option (List Int):=if (0 ≤ (List.length x0.1.2.1:Int)∧Int.toNat (List.length x0.1.2.1:Int)*8≤140737488355328) then (if (0 ≤ (List.length x0.1.2.1:Int)∧Int.toNat (List.length x0.1.2.1:Int)*1≤140737488355328) then (f64.l16 k x0 x1 k ((List.replicate (Int.toNat (List.length x0.1.2.1:Int)) (0:Int)),(0:Int))) else none) else none
theorem c64 (k:Nat) (x0:tN) (x1:Int) (r:(List Int)) (hF:f64 k x0 x1=some r):PCall Try.prog 64 [⟨sh31,some x0⟩,⟨iS,x1⟩] [⟨(.sl true 2 iS),r⟩]:=by
 refine pcall_intro Try.func64 rfl rfl (Nat.le_of_ble_eq_true rfl) ?_
 intro w0 Zi a w h
 rw [f64] at hF
 refine zs [0,1] h an fun a w h => ?_
 refine zs [0,1,5] h an fun a w h => ?_
 obtain ⟨hc828,hF⟩:=of_if hF
 obtain ⟨hc829,hF⟩:=of_if hF
 refine wp_regy_seq tok (orc:=o0) (l:=[0,1,6,7]) ([],[(4,[24])],[],[(2,[5]),(3,[25])]) 5 nw h (by kernel_rfl) (by kernel_rfl) (ac hc828 (ac hc829 an)) fun a w h => ?_
 refine wp_seq ?_
 refine zs [0,1,6,7,28,29] h an fun a w h => ?_
 refine wp_block ?_
 refine wp_loop_fuel (f64.l16 k x0 x1) (fun ((v27,v28):((List Int) × Int)) => [(0,.val sh31 (some x0)),(1,.val iS x1),(6,.val (.sl true 2 iS) v27),(7,.val (.sl true 4 .bool) (List.replicate (tZ (List.length x0.1.2.1:Int)) false)),(28,.val iS (List.length (List.replicate (tZ (List.length x0.1.2.1:Int)) iO):Int)),(29,.val iS v28)]) (fun v h => by obtain ⟨v27,v28⟩:=v; rw [f64.l16] at h; cases h) ?_ hF (ar h [0,1,6,7,28,29])
 intro m16 v a w hF h
 obtain ⟨v27,v28⟩:=v
 rw [f64.l16] at hF
 refine zs [0,1,6,7,28,29,30] h an fun a w h => ?_
 refine wp_seq <| zi h hF (fun hF => ?_) (fun hF => ?_)
 ·refine wp_skip ?_
  refine wp_seq <| wp_block ?_
  refine zs [0,1,6,7,8,28,29] h an fun a w h => ?_
  obtain ⟨hc30,hF⟩:=of_if hF
  refine zt [0,1,6,7,28,29] h (ac hc30 an) fun a w h => ?_
  refine zt [0,1,6,7,28,29] h an fun a w h => ?_
  exact ⟨((List.set v27 (tZ v28) (-1:Int)),(w64 (v28 + (1:Int)))),hF,ar h [0,1,6,7,28,29]⟩
 ·refine wp_exit ?_
  refine zs [0,1,6,7,9] h an fun a w h => ?_
  refine wp_seq ?_
  obtain ⟨hc827,hF⟩:=of_if hF
  refine zs [0,6,7,9,44,45,46] h (ac hc827 an) fun a w h => ?_
  refine wp_block ?_
  refine wp_loop_fuel (f64.l80 k x0 x1) (fun ((v114,v115,v116):((List Int) × ((List (Int × (Int × Int))) × Unit) × Int)) => [(0,.val sh31 (some x0)),(6,.val (.sl true 2 iS) v114),(7,.val (.sl true 4 .bool) (List.replicate (tZ (List.length x0.1.2.1:Int)) false)),(9,.val sh33 (some v115)),(44,.val (.sl false 2 iS) (gD x0.2.1 (tZ x1) lO)),(45,.val iS (List.length (gD x0.2.1 (tZ x1) lO):Int)),(46,.val iS v116)]) (fun v h => by obtain ⟨v114,v115,v116⟩:=v; rw [f64.l80] at h; cases h) ?_ hF (ar h [0,6,7,9,44,45,46])
  intro m80 v a w hF h
  obtain ⟨v114,v115,v116⟩:=v
  rw [f64.l80] at hF
  refine zs [0,6,7,9,44,45,46,47] h an fun a w h => ?_
  refine wp_seq <| zi h hF (fun hF => ?_) (fun hF => ?_)
  ·refine wp_skip ?_
   refine wp_seq <| wp_block ?_
   obtain ⟨hc128,hF⟩:=of_if hF
   refine zs [0,6,7,9,11,44,45,46] h (ac hc128 an) fun a w h => ?_
   obtain ⟨hc126,hF⟩:=of_if hF
   obtain ⟨hc127,hF⟩:=of_if hF
   refine zs [0,6,7,9,11,44,45,46] h (ac hc126 (ac hc127 an)) fun a w h => ?_
   obtain ⟨hc124,hF⟩:=of_if hF
   obtain ⟨r123,hr125,hF⟩:=of_bind hF
   refine zd (orcL [(69,[⟨.pt false 4294967295 (.pt true 132 (.st (.pair (.sl true 135 (.st (.pair iS (.pair iS iS)))) .unit))),some (some r123)⟩])]) [0,6,7,9,44,45,46] h (ac hc124 (ac (c70 k v115 ((gD (List.set v114 (tZ (gD (gD x0.2.1 (tZ x1) lO) (tZ v116) iO)) (gD x0.1.2.1 (tZ (gD (gD x0.2.1 (tZ x1) lO) (tZ v116) iO)) zR).2.2.2.1) (tZ (gD (gD x0.2.1 (tZ x1) lO) (tZ v116) iO)) iO),(iO,(gD (gD x0.2.1 (tZ x1) lO) (tZ v116) iO))) r123 hr125) an)) fun a w h => ?_
   refine zt [0,6,7,9,44,45,46] h an fun a w h => ?_
   exact ⟨((List.set v114 (tZ (gD (gD x0.2.1 (tZ x1) lO) (tZ v116) iO)) (gD x0.1.2.1 (tZ (gD (gD x0.2.1 (tZ x1) lO) (tZ v116) iO)) zR).2.2.2.1),r123,(w64 (v116 + (1:Int)))),hF,ar h [0,6,7,9,44,45,46]⟩
  ·refine wp_exit ?_
   refine wp_seq <| wp_block ?_
   refine wp_loop_fuel (f64.l478 k x0) (fun ((v712,v713,v714):((List Int) × (List Bool) × ((List (Int × (Int × Int))) × Unit))) => [(0,.val sh31 (some x0)),(6,.val (.sl true 2 iS) v712),(7,.val (.sl true 4 .bool) v713),(9,.val sh33 (some v714))]) (fun v h => by obtain ⟨v712,v713,v714⟩:=v; rw [f64.l478] at h; cases h) ?_ hF (ar h [0,6,7,9])
   intro m478 v a w hF h
   obtain ⟨v712,v713,v714⟩:=v
   rw [f64.l478] at hF
   refine wp_seq ?_
   refine zs [0,6,7,9,76] h an fun a w h => ?_
   refine zi h hF (fun hF => ?_) (fun hF => ?_)
   ·refine wp_skip ?_
    refine wp_block ?_
    obtain ⟨r715,hr826,hF⟩:=of_bind hF
    refine zc (orcL [(78,[⟨.pt false 4294967295 (.pt true 132 (.st (.pair (.sl true 135 (.st (.pair iS (.pair iS iS)))) .unit))),some (some r715.2)⟩,⟨sh32,r715.1⟩])]) [0,6,7,9,12] h (ac (c71 k v714 r715 hr826) an) fun a w h => ?_
    refine wp_seq ?_
    obtain ⟨hc825,hF⟩:=of_if hF
    refine zs [0,6,7,9,12,83] h (ac hc825 an) fun a w h => ?_
    refine zi h hF (fun hF => ?_) (fun hF => ?_)
    ·refine wp_exit ?_
     exact ⟨(v712,v713,r715.2),hF,ar h [0,6,7,9]⟩
    ·refine wp_skip ?_
     obtain ⟨hc824,hF⟩:=of_if hF
     refine zs [0,6,7,9,12] h (ac hc824 an) fun a w h => ?_
     obtain ⟨hc822,hF⟩:=of_if hF
     obtain ⟨hc823,hF⟩:=of_if hF
     refine wp_regy_seq tok (orc:=o0) (l:=[0,6,7,9,12,103,104,105]) ([],[],[],[]) 18 nw h (by kernel_rfl) (by kernel_rfl) (ac hc822 (ac hc823 an)) fun a w h => ?_
     refine wp_block ?_
     refine wp_loop_fuel (f64.l716 k x0 r715 v713 ((f64.l478 k x0) m478)) (fun ((v788,v789,v790):((List Int) × ((List (Int × (Int × Int))) × Unit) × Int)) => [(0,.val sh31 (some x0)),(6,.val (.sl true 2 iS) v788),(7,.val (.sl true 4 .bool) (List.set v713 (tZ r715.1.2.2) true)),(9,.val sh33 (some v789)),(12,.val sh34 (some r715.1)),(103,.val (.sl false 2 iS) (gD x0.2.1 (tZ (gD x0.1.2.1 (tZ r715.1.2.2) zR).2.1) lO)),(104,.val iS (List.length (gD x0.2.1 (tZ (gD x0.1.2.1 (tZ r715.1.2.2) zR).2.1) lO):Int)),(105,.val iS v790)]) (fun v h => by obtain ⟨v788,v789,v790⟩:=v; rw [f64.l716] at h; cases h) ?_ hF (ar h [0,6,7,9,12,103,104,105])
     intro m716 v a w hF h
     obtain ⟨v788,v789,v790⟩:=v
     rw [f64.l716] at hF
     refine zs [0,6,7,9,12,103,104,105,106] h an fun a w h => ?_
     refine wp_seq <| zi h hF (fun hF => ?_) (fun hF => ?_)
     ·refine wp_skip ?_
      refine wp_mid (fun a w => ∃ v:((List Int) × ((List (Int × (Int × Int))) × Unit)),f64.j807 k v790 ((f64.l716 k x0 r715 v713 ((f64.l478 k x0) m478)) m716) v=some r∧Rel w0 (fun _ => False) Zi Try.f64.ntmps ((fun ((v805,v806):((List Int) × ((List (Int × (Int × Int))) × Unit))) => ([(0,.val sh31 (some x0)),(6,.val (.sl true 2 iS) v805),(7,.val (.sl true 4 .bool) (List.set v713 (tZ r715.1.2.2) true)),(9,.val sh33 (some v806)),(12,.val sh34 (some r715.1)),(103,.val (.sl false 2 iS) (gD x0.2.1 (tZ (gD x0.1.2.1 (tZ r715.1.2.2) zR).2.1) lO)),(104,.val iS (List.length (gD x0.2.1 (tZ (gD x0.1.2.1 (tZ r715.1.2.2) zR).2.1) lO):Int)),(105,.val iS v790)]:SS)) v) a w) ?_ ?_
      ·
       refine wp_block ?_
       obtain ⟨hc821,hF⟩:=of_if hF
       refine zs [0,6,7,9,12,14,103,104,105] h (ac hc821 an) fun a w h => ?_
       refine wp_seq ?_
       obtain ⟨hc820,hF⟩:=of_if hF
       refine zs [0,6,7,9,12,14,103,104,105,112] h (ac hc820 an) fun a w h => ?_
       refine zi h hF (fun hF => ?_) (fun hF => ?_)
       ·refine wp_exit ?_
        exact ⟨(v788,v789),hF,ar h [0,6,7,9,12,103,104,105]⟩
       ·refine wp_skip ?_
        obtain ⟨r808,hr819,hF⟩:=of_bind hF
        refine zc (orcL [(117,[⟨iS,r808⟩])]) [0,6,7,9,12,14,15,103,104,105] h (ac (c72 k x0 r715.1.2.2 (gD (gD x0.2.1 (tZ (gD x0.1.2.1 (tZ r715.1.2.2) zR).2.1) lO) (tZ v790) iO) r808 hr819) an) fun a w h => ?_
        refine wp_seq ?_
        refine zs [0,6,7,9,12,14,15,103,104,105,119] h an fun a w h => ?_
        refine zi h hF (fun hF => ?_) (fun hF => ?_)
        ·refine wp_exit ?_
         exact ⟨(v788,v789),hF,ar h [0,6,7,9,12,103,104,105]⟩
        ·refine wp_skip ?_
         obtain ⟨hc818,hF⟩:=of_if hF
         refine wp_regy_seq tok (orc:=o0) (l:=[0,6,7,9,12,14,16,103,104,105]) ([],[],[],[]) 15 nw h (by kernel_rfl) (by kernel_rfl) (ac hc818 an) fun a w h => ?_
         obtain ⟨hc816,hF⟩:=of_if hF
         obtain ⟨hc817,hF⟩:=of_if hF
         refine zs [0,6,7,9,12,14,16,103,104,105,146] h (ac hc816 (ac hc817 an)) fun a w h => ?_
         obtain ⟨v809,hv815,hF⟩:=of_bind hF
         replace h:=h.cast (S':=[(0,.val sh31 (some x0)),(6,.val (.sl true 2 iS) v788),(7,.val (.sl true 4 .bool) (List.set v713 (tZ r715.1.2.2) true)),(9,.val sh33 (some v789)),(12,.val sh34 (some r715.1)),(14,.val iS (gD (gD x0.2.1 (tZ (gD x0.1.2.1 (tZ r715.1.2.2) zR).2.1) lO) (tZ v790) iO)),(16,.val iS (w64 ((w64 (r715.1.1+r808)) + (gD x0.1.2.1 (tZ (gD (gD x0.2.1 (tZ (gD x0.1.2.1 (tZ r715.1.2.2) zR).2.1) lO) (tZ v790) iO)) zR).2.2.2.1))),(103,.val (.sl false 2 iS) (gD x0.2.1 (tZ (gD x0.1.2.1 (tZ r715.1.2.2) zR).2.1) lO)),(104,.val iS (List.length (gD x0.2.1 (tZ (gD x0.1.2.1 (tZ r715.1.2.2) zR).2.1) lO):Int)),(105,.val iS v790),(146,.val .bool v809)]) (by cases hv815; kernel_rfl)
         refine zi h hF (fun hF => ?_) (fun hF => ?_)
         ·obtain ⟨hc814,hF⟩:=of_if hF
          refine zs [0,6,7,9,12,14,16,103,104,105] h (ac hc814 an) fun a w h => ?_
          obtain ⟨v810,hv813,hF⟩:=of_bind hF
          replace h:=h.cast (S':=[(0,.val sh31 (some x0)),(6,.val (.sl true 2 iS) v810),(7,.val (.sl true 4 .bool) (List.set v713 (tZ r715.1.2.2) true)),(9,.val sh33 (some v789)),(12,.val sh34 (some r715.1)),(14,.val iS (gD (gD x0.2.1 (tZ (gD x0.1.2.1 (tZ r715.1.2.2) zR).2.1) lO) (tZ v790) iO)),(16,.val iS (w64 ((w64 (r715.1.1+r808)) + (gD x0.1.2.1 (tZ (gD (gD x0.2.1 (tZ (gD x0.1.2.1 (tZ r715.1.2.2) zR).2.1) lO) (tZ v790) iO)) zR).2.2.2.1))),(103,.val (.sl false 2 iS) (gD x0.2.1 (tZ (gD x0.1.2.1 (tZ r715.1.2.2) zR).2.1) lO)),(104,.val iS (List.length (gD x0.2.1 (tZ (gD x0.1.2.1 (tZ r715.1.2.2) zR).2.1) lO):Int)),(105,.val iS v790)]) (by cases hv813; kernel_rfl)
          obtain ⟨r811,hr812,hF⟩:=of_bind hF
          refine zd (orcL [(155,[⟨.pt false 4294967295 (.pt true 132 (.st (.pair (.sl true 135 (.st (.pair iS (.pair iS iS)))) .unit))),some (some r811)⟩])]) [0,6,7,9,12,103,104,105] h (ac (c70 k v789 ((w64 ((w64 (r715.1.1+r808)) + (gD x0.1.2.1 (tZ (gD (gD x0.2.1 (tZ (gD x0.1.2.1 (tZ r715.1.2.2) zR).2.1) lO) (tZ v790) iO)) zR).2.2.2.1)),(iO,(gD (gD x0.2.1 (tZ (gD x0.1.2.1 (tZ r715.1.2.2) zR).2.1) lO) (tZ v790) iO))) r811 hr812) an) fun a w h => ?_
          exact ⟨(v810,r811),hF,ar h [0,6,7,9,12,103,104,105]⟩
         ·refine wp_skip ?_
          exact ⟨(v788,v789),hF,ar h [0,6,7,9,12,103,104,105]⟩
      ·rintro a w ⟨v,hF,h⟩
       obtain ⟨v805,v806⟩:=v
       rw [f64.j807] at hF
       refine zt [0,6,7,9,12,103,104,105] h an fun a w h => ?_
       exact ⟨(v805,v806,(w64 (v790 + (1:Int)))),hF,ar h [0,6,7,9,12,103,104,105]⟩
     ·refine wp_exit ?_
      exact ⟨(v788,(List.set v713 (tZ r715.1.2.2) true),v789),hF,ar h [0,6,7,9]⟩
   ·refine wp_exit ?_
    refine zs [4,6] h an fun a w h => ?_
    cases hF
    exact wp_ret (ret_okR tok h rfl (by kernel_rfl)).1
def f52.j160 (k:Nat) (v149:Int) (q101:((List Int) × Int)→Option (List Int)):(List Int)→Option (List Int)
 | v159 => q101 (v159,(IntKind.i64.wrap (v149 + (1:Int))))
def f52.l101 (k:Nat) (x0:(((List (Int × (Int × Int))) × ((List (Int × (Int × (Int × (Int × (Int × ByteArray)))))) × (List (Int × Int)))) × ((List (List Int)) × ((List (List Int)) × (Option (List ((Int × Int) × Bool))))))) (r1:(List Int)) (x1:Int):Nat → ((List Int) × Int)→Option (List Int)
 | 0,_ => none
 | m101+1,(v148,v149) => if (decide (v149 < (List.length x0.1.2.1:Int))) then (if (0≤v149∧v149 < (List.length x0.1.2.1:Int)) then (if (0≤v149∧v149 < (List.length r1:Int)) then (if (((decide (((List.getD r1 (Int.toNat v149) (0:Int)):Int) ≥ (0:Int)))=true) → (0 ≤ (List.getD x0.1.2.1 (Int.toNat v149) ((0:Int),((0:Int),((0:Int),((0:Int),((0:Int),(⟨#[]⟩:ByteArray))))))).2.1 ∧ (List.getD x0.1.2.1 (Int.toNat v149) ((0:Int),((0:Int),((0:Int),((0:Int),((0:Int),(⟨#[]⟩:ByteArray))))))).2.1 < (List.length v148:Int))) then (if ((((decide (((List.getD r1 (Int.toNat v149) (0:Int)):Int) ≥ (0:Int)))=true) ∧ ((decide (((List.getD v148 (Int.toNat (List.getD x0.1.2.1 (Int.toNat v149) ((0:Int),((0:Int),((0:Int),((0:Int),((0:Int),(⟨#[]⟩:ByteArray))))))).2.1) (0:Int)):Int) < (0:Int)))=false)) → (0≤v149∧v149 < (List.length r1:Int))) then (if ((((decide (((List.getD r1 (Int.toNat v149) (0:Int)):Int) ≥ (0:Int)))=true) ∧ ((decide (((List.getD v148 (Int.toNat (List.getD x0.1.2.1 (Int.toNat v149) ((0:Int),((0:Int),((0:Int),((0:Int),((0:Int),(⟨#[]⟩:ByteArray))))))).2.1) (0:Int)):Int) < (0:Int)))=false)) → (0 ≤ (List.getD x0.1.2.1 (Int.toNat v149) ((0:Int),((0:Int),((0:Int),((0:Int),((0:Int),(⟨#[]⟩:ByteArray))))))).2.1 ∧ (List.getD x0.1.2.1 (Int.toNat v149) ((0:Int),((0:Int),((0:Int),((0:Int),((0:Int),(⟨#[]⟩:ByteArray))))))).2.1 < (List.length v148:Int))) then ((some ((bif (decide (((List.getD r1 (Int.toNat v149) (0:Int)):Int) ≥ (0:Int))) then (bif (decide (((List.getD v148 (Int.toNat (List.getD x0.1.2.1 (Int.toNat v149) ((0:Int),((0:Int),((0:Int),((0:Int),((0:Int),(⟨#[]⟩:ByteArray))))))).2.1) (0:Int)):Int) < (0:Int))) then true else (decide (((List.getD r1 (Int.toNat v149) (0:Int)):Int) < (List.getD v148 (Int.toNat (List.getD x0.1.2.1 (Int.toNat v149) ((0:Int),((0:Int),((0:Int),((0:Int),((0:Int),(⟨#[]⟩:ByteArray))))))).2.1) (0:Int))))) else false):Bool)).bind fun v161 => (if v161 then (if (0≤v149∧v149 < (List.length r1:Int)) then (if (0 ≤ (List.getD x0.1.2.1 (Int.toNat v149) ((0:Int),((0:Int),((0:Int),((0:Int),((0:Int),(⟨#[]⟩:ByteArray))))))).2.1 ∧ (List.getD x0.1.2.1 (Int.toNat v149) ((0:Int),((0:Int),((0:Int),((0:Int),((0:Int),(⟨#[]⟩:ByteArray))))))).2.1 < (List.length v148:Int)) then (f52.j160 k v149 ((f52.l101 k x0 r1 x1) m101) (List.set v148 (Int.toNat (List.getD x0.1.2.1 (Int.toNat v149) ((0:Int),((0:Int),((0:Int),((0:Int),((0:Int),(⟨#[]⟩:ByteArray))))))).2.1) (List.getD r1 (Int.toNat v149) (0:Int)))) else none) else none) else (f52.j160 k v149 ((f52.l101 k x0 r1 x1) m101) v148))) else none) else none) else none) else none) else none) else (if (0≤x1∧x1 < (List.length v148:Int)) then (some (List.set v148 (Int.toNat x1) (0:Int))) else none)
def f52.l17 (k:Nat) (x0:(((List (Int × (Int × Int))) × ((List (Int × (Int × (Int × (Int × (Int × ByteArray)))))) × (List (Int × Int)))) × ((List (List Int)) × ((List (List Int)) × (Option (List ((Int × Int) × Bool))))))) (r1:(List Int)) (x1:Int):Nat → ((List Int) × Int)→Option (List Int)
 | 0,_ => none
 | m17+1,(v28,v29) => if (decide (v29 < (List.length (List.replicate (Int.toNat (List.length x0.1.1:Int)) (0:Int)):Int))) then (if (0≤v29∧v29 < (List.length v28:Int)) then ((f52.l17 k x0 r1 x1) m17 ((List.set v28 (Int.toNat v29) (-1:Int)),(IntKind.i64.wrap (v29 + (1:Int))))) else none) else (f52.l101 k x0 r1 x1 k (v28,(0:Int)))
def f52 (k:Nat) (x0:(((List (Int × (Int × Int))) × ((List (Int × (Int × (Int × (Int × (Int × ByteArray)))))) × (List (Int × Int)))) × ((List (List Int)) × ((List (List Int)) × (Option (List ((Int × Int) × Bool))))))) (x1:Int):Option (List Int):=(f64 k x0 x1).bind fun r1 => (if (0 ≤ (List.length x0.1.1:Int)∧Int.toNat (List.length x0.1.1:Int)*8≤140737488355328) then (f52.l17 k x0 r1 x1 k ((List.replicate (Int.toNat (List.length x0.1.1:Int)) (0:Int)),(0:Int))) else none)
theorem c52 (k:Nat) (x0:tN) (x1:Int) (r:(List Int)) (hF:f52 k x0 x1=some r):PCall Try.prog 52 [⟨sh31,some x0⟩,⟨iS,x1⟩] [⟨(.sl true 2 iS),r⟩]:=by
 refine pcall_intro Try.func52 rfl rfl (Nat.le_of_ble_eq_true rfl) ?_
 intro w0 Zi a w h
 rw [f52] at hF
 refine zs [0,1] h an fun a w h => ?_
 obtain ⟨r1,hr172,hF⟩:=of_bind hF
 refine zc (orcL [(12,[⟨(.sl true 2 iS),r1⟩])]) [0,1,5] h (ac (c64 k x0 x1 r1 hr172) an) fun a w h => ?_
 obtain ⟨hc171,hF⟩:=of_if hF
 refine zs [0,1,5,6] h (ac hc171 an) fun a w h => ?_
 refine wp_seq ?_
 refine zs [0,1,5,6,21,22] h an fun a w h => ?_
 refine wp_block ?_
 refine wp_loop_fuel (f52.l17 k x0 r1 x1) (fun ((v28,v29):((List Int) × Int)) => [(0,.val sh31 (some x0)),(1,.val iS x1),(5,.val (.sl true 2 iS) r1),(6,.val (.sl true 2 iS) v28),(21,.val iS (List.length (List.replicate (tZ (List.length x0.1.1:Int)) iO):Int)),(22,.val iS v29)]) (fun v h => by obtain ⟨v28,v29⟩:=v; rw [f52.l17] at h; cases h) ?_ hF (ar h [0,1,5,6,21,22])
 intro m17 v a w hF h
 obtain ⟨v28,v29⟩:=v
 rw [f52.l17] at hF
 refine zs [0,1,5,6,21,22,23] h an fun a w h => ?_
 refine wp_seq <| zi h hF (fun hF => ?_) (fun hF => ?_)
 ·refine wp_skip ?_
  refine wp_seq <| wp_block ?_
  refine zs [0,1,5,6,7,21,22] h an fun a w h => ?_
  obtain ⟨hc31,hF⟩:=of_if hF
  refine zt [0,1,5,6,21,22] h (ac hc31 an) fun a w h => ?_
  refine zt [0,1,5,6,21,22] h an fun a w h => ?_
  exact ⟨((List.set v28 (tZ v29) (-1:Int)),(w64 (v29 + (1:Int)))),hF,ar h [0,1,5,6,21,22]⟩
 ·refine wp_exit ?_
  refine wp_seq ?_
  refine zs [1,5,6,33,34,35] h an fun a w h => ?_
  refine wp_block ?_
  refine wp_loop_fuel (f52.l101 k x0 r1 x1) (fun ((v148,v149):((List Int) × Int)) => [(1,.val iS x1),(5,.val (.sl true 2 iS) r1),(6,.val (.sl true 2 iS) v148),(33,.val sh27 x0.1.2.1),(34,.val iS (List.length x0.1.2.1:Int)),(35,.val iS v149)]) (fun v h => by obtain ⟨v148,v149⟩:=v; rw [f52.l101] at h; cases h) ?_ hF (ar h [1,5,6,33,34,35])
  intro m101 v a w hF h
  obtain ⟨v148,v149⟩:=v
  rw [f52.l101] at hF
  refine zs [1,5,6,33,34,35,36] h an fun a w h => ?_
  refine wp_seq <| zi h hF (fun hF => ?_) (fun hF => ?_)
  ·refine wp_skip ?_
   refine wp_mid (fun a w => ∃ v:(List Int),f52.j160 k v149 ((f52.l101 k x0 r1 x1) m101) v=some r∧Rel w0 (fun _ => False) Zi Try.f52.ntmps ((fun (v159:(List Int)) => ([(1,.val iS x1),(5,.val (.sl true 2 iS) r1),(6,.val (.sl true 2 iS) v159),(33,.val sh27 x0.1.2.1),(34,.val iS (List.length x0.1.2.1:Int)),(35,.val iS v149)]:SS)) v) a w) ?_ ?_
   ·
    refine wp_block ?_
    obtain ⟨hc169,hF⟩:=of_if hF
    refine zs [1,5,6,8,9,33,34,35] h (ac hc169 an) fun a w h => ?_
    obtain ⟨hc165,hF⟩:=of_if hF
    obtain ⟨hc166,hF⟩:=of_if hF
    obtain ⟨hc167,hF⟩:=of_if hF
    obtain ⟨hc168,hF⟩:=of_if hF
    refine wp_regy_seq tok (orc:=o0) (l:=[1,5,6,8,9,33,34,35,64]) ([],[],[],[]) 25 nw h (by kernel_rfl) (by kernel_rfl) (ac hc165 (ac hc166 (ac hc167 (ac hc168 an)))) fun a w h => ?_
    obtain ⟨v161,hv164,hF⟩:=of_bind hF
    replace h:=h.cast (S':=[(1,.val iS x1),(5,.val (.sl true 2 iS) r1),(6,.val (.sl true 2 iS) v148),(8,.val iS v149),(9,.val sh35 (some (gD x0.1.2.1 (tZ v149) zR))),(33,.val sh27 x0.1.2.1),(34,.val iS (List.length x0.1.2.1:Int)),(35,.val iS v149),(64,.val .bool v161)]) (by cases hv164; kernel_rfl)
    refine zi h hF (fun hF => ?_) (fun hF => ?_)
    ·obtain ⟨hc162,hF⟩:=of_if hF
     obtain ⟨hc163,hF⟩:=of_if hF
     refine wp_regy tok (orc:=o0) (l:=[1,5,6,33,34,35]) ([],[],[],[]) 8 nw h (by kernel_rfl) (by kernel_rfl) (ac hc162 (ac hc163 an)) fun a w h => ?_
     exact ⟨(List.set v148 (tZ (gD x0.1.2.1 (tZ v149) zR).2.1) (gD r1 (tZ v149) iO)),hF,ar h [1,5,6,33,34,35]⟩
    ·refine wp_skip ?_
     exact ⟨v148,hF,ar h [1,5,6,33,34,35]⟩
   ·rintro a w ⟨v159,hF,h⟩
    rw [f52.j160] at hF
    refine zt [1,5,6,33,34,35] h an fun a w h => ?_
    exact ⟨(v159,(w64 (v149 + (1:Int)))),hF,ar h [1,5,6,33,34,35]⟩
  ·refine wp_exit ?_
   obtain ⟨hc170,hF⟩:=of_if hF
   refine zs [6] h (ac hc170 an) fun a w h => ?_
   refine zs [4,6] h an fun a w h => ?_
   cases hF
   exact wp_ret (ret_okR tok h rfl (by kernel_rfl)).1
def f31.j66 (k:Nat) (v61:Int) (q37:((List (Int × (List Int))) × Int)→Option (Option ((Int × (Int × (Int × (Int × (List (Int × (Int × (Int × (Int × Int))))))))) × (Option (List (Int × (List Int))))))):(List (Int × (List Int)))→Option (Option ((Int × (Int × (Int × (Int × (List (Int × (Int × (Int × (Int × Int))))))))) × (Option (List (Int × (List Int))))))
 | v65 => q37 (v65,(IntKind.i64.wrap (v61 + (1:Int))))
def f31.l37 (k:Nat) (x1:(Int × (Int × (Int × (Int × (List (Int × (Int × (Int × (Int × Int)))))))))) (r2:(((List (Int × (Int × Int))) × ((List (Int × (Int × (Int × (Int × (Int × ByteArray)))))) × (List (Int × Int)))) × ((List (List Int)) × ((List (List Int)) × (Option (List ((Int × Int) × Bool))))))):Nat → ((List (Int × (List Int))) × Int)→Option (Option ((Int × (Int × (Int × (Int × (List (Int × (Int × (Int × (Int × Int))))))))) × (Option (List (Int × (List Int))))))
 | 0,_ => none
 | m37+1,(v60,v61) => if (decide (v61 < (List.length x1.2.2.2.2:Int))) then (if (0≤v61∧v61 < (List.length x1.2.2.2.2:Int)) then (if (!(mhas (Sh.beq (.int .i64)) (some v60) (List.getD x1.2.2.2.2 (Int.toNat v61) ((0:Int),((0:Int),((0:Int),((0:Int),(0:Int)))))).1)) then ((f52 k r2 (List.getD x1.2.2.2.2 (Int.toNat v61) ((0:Int),((0:Int),((0:Int),((0:Int),(0:Int)))))).1).bind fun r67 => (f31.j66 k v61 ((f31.l37 k x1 r2) m37) (mput (Sh.beq (.int .i64)) (List.getD x1.2.2.2.2 (Int.toNat v61) ((0:Int),((0:Int),((0:Int),((0:Int),(0:Int)))))).1 r67 v60))) else (f31.j66 k v61 ((f31.l37 k x1 r2) m37) v60)) else none) else (some (some (x1,(some v60))))
def f31 (k:Nat) (x0:((List (Int × (Int × Int))) × ((List (Int × (Int × (Int × (Int × (Int × ByteArray)))))) × (List (Int × Int))))) (x1:(Int × (Int × (Int × (Int × (List (Int × (Int × (Int × (Int × Int)))))))))):Option (Option ((Int × (Int × (Int × (Int × (List (Int × (Int × (Int × (Int × Int))))))))) × (Option (List (Int × (List Int)))))):=(f50 k x0 x1).bind fun r1 => (if (!r1) then (some (none:(Option ((Int × (Int × (Int × (Int × (List (Int × (Int × (Int × (Int × Int))))))))) × (Option (List (Int × (List Int)))))))) else ((f51 k x0).bind fun r2 => ((f52 k r2 x1.1).bind fun r3 => (f31.l37 k x1 r2 k ((mput (Sh.beq (.int .i64)) x1.1 r3 ([]:(List (Int × (List Int))))),(0:Int))))))
theorem c31 (k:Nat) (x0:tG) (x1:(Int × (Int × (Int × (Int × (List (Int × (Int × (Int × (Int × Int)))))))))) (r:(Option ((Int × (Int × (Int × (Int × (List (Int × (Int × (Int × (Int × Int))))))))) × (Option (List (Int × (List Int))))))) (hF:f31 k x0 x1=some r):PCall Try.prog 31 [⟨sh17,x0⟩,⟨sh19,x1⟩] [⟨sh37,r⟩]:=by
 refine pcall_intro Try.func31 rfl rfl (Nat.le_of_ble_eq_true rfl) ?_
 intro w0 Zi a w h
 rw [f31] at hF
 refine zs [2,3] h an fun a w h => ?_
 refine wp_seq ?_
 obtain ⟨r1,hr72,hF⟩:=of_bind hF
 refine zc (orcL [(13,[⟨.bool,r1⟩])]) [2,3,14] h (ac (c50 k x0 x1 r1 hr72) an) fun a w h => ?_
 refine zi h hF (fun hF => ?_) (fun hF => ?_)
 ·refine zs [4] h an fun a w h => ?_
  cases hF
  exact wp_ret (ret_okR tok h rfl (by kernel_rfl)).1
 ·refine wp_skip ?_
  obtain ⟨r2,hr71,hF⟩:=of_bind hF
  refine zc (orcL [(16,[⟨sh30,some r2⟩])]) [3,5] h (ac (c51 k x0 r2 hr71) an) fun a w h => ?_
  obtain ⟨r3,hr70,hF⟩:=of_bind hF
  replace h:=Rel.freezeS (fz:=[5]) (.inr fun i h => h) h (by kernel_rfl)
  refine wp_regv_seq tok (orc:=orcL [(24,[⟨(.sl false 2 iS),r3⟩])]) [((3,.val sh18 (some x1)),none,none),((5,.val sh36 (some r2)),none,none),((6,.val sh37 (some (x1,(some (mput (Sh.beq iS) x1.1 r3 ([]:(List (Int × (List Int))))))))),some 12,none),((17,.val sh19 x1),some 0,some 12),((18,.val sh38 (some ([]:(List (Int × (List Int)))))),some 1,some 8),((18,.val sh38 (some (mput (Sh.beq iS) x1.1 r3 ([]:(List (Int × (List Int))))))),some 8,some 10),((19,.addr 3 [.der,.fst]),some 2,some 12),((20,.val iS x1.1),some 3,some 12),((21,.val sh36 (some r2)),some 4,some 12),((22,.addr 3 [.der,.fst]),some 5,some 12),((23,.val iS x1.1),some 6,some 12),((24,.val (.sl false 2 iS) r3),some 7,some 12),((26,.val sh39 (x1,(some (mput (Sh.beq iS) x1.1 r3 ([]:(List (Int × (List Int)))))))),some 10,some 11),((27,.val sh37 (some (x1,(some (mput (Sh.beq iS) x1.1 r3 ([]:(List (Int × (List Int))))))))),some 11,some 12)] [(25,18,9,10)] [0,4,20,52,53,54,60,116,55,61,117,62,118,124,244,63,119,125,245,126,246,252,127,247,253,254,255,510,511,1022,1023,2047,4095,8191] 8191 [(7,0,1),(8,1,1)] h (by kernel_rfl) (by kernel_rfl) (by kernel_rfl) (ac (PCall.frozen (outs':=[⟨(.sl false 2 iS),r3⟩]) (c52 k r2 x1.1 r3 hr70) (by kernel_rfl)) (ac (show eqTy Try.prog 9 2 iS=true from by kernel_rfl) an)) (fun _ _ _ _ _ h => h) fun a w h => ?_
  refine wp_seq ?_
  refine zs [5,6,29,30,31] h an fun a w h => ?_
  refine wp_block ?_
  refine wp_loop_fuel (f31.l37 k x1 r2) (fun ((v60,v61):((List (Int × (List Int))) × Int)) => [(5,.val sh36 (some r2)),(6,.val sh37 (some (x1,(some v60)))),(29,.val sh29 x1.2.2.2.2),(30,.val iS (List.length x1.2.2.2.2:Int)),(31,.val iS v61)]) (fun v h => by obtain ⟨v60,v61⟩:=v; rw [f31.l37] at h; cases h) ?_ hF (ar h [5,6,29,30,31])
  intro m37 v a w hF h
  obtain ⟨v60,v61⟩:=v
  rw [f31.l37] at hF
  refine zs [5,6,29,30,31,32] h an fun a w h => ?_
  refine wp_seq <| zi h hF (fun hF => ?_) (fun hF => ?_)
  ·refine wp_skip ?_
   refine wp_mid (fun a w => ∃ v:(List (Int × (List Int))),f31.j66 k v61 ((f31.l37 k x1 r2) m37) v=some r∧Rel w0 (fun _ => False) Zi Try.f31.ntmps ((fun (v65:(List (Int × (List Int)))) => ([(5,.val sh36 (some r2)),(6,.val sh37 (some (x1,(some v65)))),(29,.val sh29 x1.2.2.2.2),(30,.val iS (List.length x1.2.2.2.2:Int)),(31,.val iS v61)]:SS)) v) a w) ?_ ?_
   ·
    refine wp_block ?_
    obtain ⟨hc69,hF⟩:=of_if hF
    refine zs [5,6,8,29,30,31] h (ac hc69 an) fun a w h => ?_
    refine wp_regy_seq tok (orc:=o0) (l:=[5,6,8,10,29,30,31]) ([],[],[],[]) 12 nw h (by kernel_rfl) (by kernel_rfl) (ac (show eqTy Try.prog 9 2 iS=true from by kernel_rfl) an) fun a w h => ?_
    refine zs [5,6,8,29,30,31,46] h an fun a w h => ?_
    refine zi h hF (fun hF => ?_) (fun hF => ?_)
    ·obtain ⟨r67,hr68,hF⟩:=of_bind hF
     refine wp_regy tok (orc:=orcL [(56,[⟨(.sl false 2 iS),r67⟩])]) (l:=[5,6,29,30,31]) ([],[],[],[]) 10 nw h (by kernel_rfl) (by kernel_rfl) (ac (PCall.frozen (outs':=[⟨(.sl false 2 iS),r67⟩]) (c52 k r2 (gD x1.2.2.2.2 (tZ v61) (iO,(iO,(iO,(iO,iO))))).1 r67 hr68) (by kernel_rfl)) (ac (show eqTy Try.prog 9 2 iS=true from by kernel_rfl) an)) fun a w h => ?_
     exact ⟨(mput (Sh.beq iS) (gD x1.2.2.2.2 (tZ v61) (iO,(iO,(iO,(iO,iO))))).1 r67 v60),hF,ar h [5,6,29,30,31]⟩
    ·refine wp_skip ?_
     exact ⟨v60,hF,ar h [5,6,29,30,31]⟩
   ·rintro a w ⟨v65,hF,h⟩
    rw [f31.j66] at hF
    refine zt [5,6,29,30,31] h an fun a w h => ?_
    exact ⟨(v65,(w64 (v61 + (1:Int)))),hF,ar h [5,6,29,30,31]⟩
  ·refine wp_exit ?_
   refine zs [4,6] h an fun a w h => ?_
   cases hF
   exact wp_ret (ret_okR tok h rfl (by kernel_rfl)).1
def f32.j175 (k:Nat) (v156:(Array Nat)) (x1:(List Int)) (v161:Int) (x0:((Int × (Int × (Int × (Int × (List (Int × (Int × (Int × (Int × Int))))))))) × (Option (List (Int × (List Int)))))) (v159:Int) (v157:Int) (v160:Int) (q93:((Array Nat) × Int × Int × Int × Int × Int)→Option Int):Int→Option Int
 | v174 => q93 ((Array.setIfInBounds v156 (Int.toNat (List.getD x1 (Int.toNat v161) (0:Int))) 1),(List.getD x0.1.2.2.2.2 (Int.toNat (List.getD x1 (Int.toNat v161) (0:Int))) ((0:Int),((0:Int),((0:Int),((0:Int),(0:Int)))))).1,(IntKind.i64.wrap (v174 + (List.getD x0.1.2.2.2.2 (Int.toNat (List.getD x1 (Int.toNat v161) (0:Int))) ((0:Int),((0:Int),((0:Int),((0:Int),(0:Int)))))).2.2.2.2)),(IntKind.i64.wrap (v159 + (List.getD (mget (Sh.beq (.int .i64)) x0.2 v157 ([]:(List Int))) (Int.toNat (List.getD x0.1.2.2.2.2 (Int.toNat (List.getD x1 (Int.toNat v161) (0:Int))) ((0:Int),((0:Int),((0:Int),((0:Int),(0:Int)))))).1) (0:Int)))),(IntKind.i64.wrap (v160 + (List.getD x0.1.2.2.2.2 (Int.toNat (List.getD x1 (Int.toNat v161) (0:Int))) ((0:Int),((0:Int),((0:Int),((0:Int),(0:Int)))))).2.1)),(IntKind.i64.wrap (v161 + (1:Int))))
def f32.l93 (k:Nat) (x1:(List Int)) (x0:((Int × (Int × (Int × (Int × (List (Int × (Int × (Int × (Int × Int))))))))) × (Option (List (Int × (List Int)))))):Nat → ((Array Nat) × Int × Int × Int × Int × Int)→Option Int
 | 0,_ => none
 | m93+1,(v156,v157,v158,v159,v160,v161) => if (decide (v161 < (List.length x1:Int))) then (if (0≤v161∧v161 < (List.length x1:Int)) then (if (((bif (decide (((List.getD x1 (Int.toNat v161) (0:Int)):Int) < (0:Int))) then true else (decide (((List.getD x1 (Int.toNat v161) (0:Int)):Int) ≥ (List.length x0.1.2.2.2.2:Int))))=false) → (0 ≤ (List.getD x1 (Int.toNat v161) (0:Int)) ∧ (List.getD x1 (Int.toNat v161) (0:Int)) < (6:Int))) then (if (((bif (decide (((List.getD x1 (Int.toNat v161) (0:Int)):Int) < (0:Int))) then true else (decide (((List.getD x1 (Int.toNat v161) (0:Int)):Int) ≥ (List.length x0.1.2.2.2.2:Int))))=false) → ((Int.toNat (List.getD x1 (Int.toNat v161) (0:Int))) < Array.size v156)) then (if (bif (bif (decide (((List.getD x1 (Int.toNat v161) (0:Int)):Int) < (0:Int))) then true else (decide (((List.getD x1 (Int.toNat v161) (0:Int)):Int) ≥ (List.length x0.1.2.2.2.2:Int)))) then true else (Array.getD v156 (Int.toNat (List.getD x1 (Int.toNat v161) (0:Int))) 0 != 0)) then (some (-1:Int)) else (if (0 ≤ (List.getD x1 (Int.toNat v161) (0:Int)) ∧ (List.getD x1 (Int.toNat v161) (0:Int)) < (6:Int)) then (if ((Int.toNat (List.getD x1 (Int.toNat v161) (0:Int))) < Array.size v156) then (if (0 ≤ (List.getD x1 (Int.toNat v161) (0:Int)) ∧ (List.getD x1 (Int.toNat v161) (0:Int)) < (List.length x0.1.2.2.2.2:Int)) then (if (0 ≤ (List.getD x0.1.2.2.2.2 (Int.toNat (List.getD x1 (Int.toNat v161) (0:Int))) ((0:Int),((0:Int),((0:Int),((0:Int),(0:Int)))))).1 ∧ (List.getD x0.1.2.2.2.2 (Int.toNat (List.getD x1 (Int.toNat v161) (0:Int))) ((0:Int),((0:Int),((0:Int),((0:Int),(0:Int)))))).1 < (List.length (mget (Sh.beq (.int .i64)) x0.2 v157 ([]:(List Int))):Int)) then (if (decide (((List.getD (mget (Sh.beq (.int .i64)) x0.2 v157 ([]:(List Int))) (Int.toNat (List.getD x0.1.2.2.2.2 (Int.toNat (List.getD x1 (Int.toNat v161) (0:Int))) ((0:Int),((0:Int),((0:Int),((0:Int),(0:Int)))))).1) (0:Int)):Int) < (0:Int))) then (some (-1:Int)) else ((some ((bif (decide (((IntKind.i64.wrap (v158 + (List.getD (mget (Sh.beq (.int .i64)) x0.2 v157 ([]:(List Int))) (Int.toNat (List.getD x0.1.2.2.2.2 (Int.toNat (List.getD x1 (Int.toNat v161) (0:Int))) ((0:Int),((0:Int),((0:Int),((0:Int),(0:Int)))))).1) (0:Int)))):Int) > (List.getD x0.1.2.2.2.2 (Int.toNat (List.getD x1 (Int.toNat v161) (0:Int))) ((0:Int),((0:Int),((0:Int),((0:Int),(0:Int)))))).2.2.2.1)) then true else (decide (((IntKind.i64.wrap (v160 + (List.getD x0.1.2.2.2.2 (Int.toNat (List.getD x1 (Int.toNat v161) (0:Int))) ((0:Int),((0:Int),((0:Int),((0:Int),(0:Int)))))).2.1)):Int) > x0.1.2.2.2.1))):Bool)).bind fun v173 => (if v173 then (some (-1:Int)) else (if (decide (((IntKind.i64.wrap (v158 + (List.getD (mget (Sh.beq (.int .i64)) x0.2 v157 ([]:(List Int))) (Int.toNat (List.getD x0.1.2.2.2.2 (Int.toNat (List.getD x1 (Int.toNat v161) (0:Int))) ((0:Int),((0:Int),((0:Int),((0:Int),(0:Int)))))).1) (0:Int)))):Int) < (List.getD x0.1.2.2.2.2 (Int.toNat (List.getD x1 (Int.toNat v161) (0:Int))) ((0:Int),((0:Int),((0:Int),((0:Int),(0:Int)))))).2.2.1)) then (f32.j175 k v156 x1 v161 x0 v159 v157 v160 ((f32.l93 k x1 x0) m93) (List.getD x0.1.2.2.2.2 (Int.toNat (List.getD x1 (Int.toNat v161) (0:Int))) ((0:Int),((0:Int),((0:Int),((0:Int),(0:Int)))))).2.2.1) else (f32.j175 k v156 x1 v161 x0 v159 v157 v160 ((f32.l93 k x1 x0) m93) (IntKind.i64.wrap (v158 + (List.getD (mget (Sh.beq (.int .i64)) x0.2 v157 ([]:(List Int))) (Int.toNat (List.getD x0.1.2.2.2.2 (Int.toNat (List.getD x1 (Int.toNat v161) (0:Int))) ((0:Int),((0:Int),((0:Int),((0:Int),(0:Int)))))).1) (0:Int))))))))) else none) else none) else none) else none)) else none) else none) else none) else (if (0≤x0.1.1∧x0.1.1 < (List.length (mget (Sh.beq (.int .i64)) x0.2 v157 ([]:(List Int))):Int)) then (if (decide (((List.getD (mget (Sh.beq (.int .i64)) x0.2 v157 ([]:(List Int))) (Int.toNat x0.1.1) (0:Int)):Int) < (0:Int))) then (some (-1:Int)) else (some (IntKind.i64.wrap (v159 + (List.getD (mget (Sh.beq (.int .i64)) x0.2 v157 ([]:(List Int))) (Int.toNat x0.1.1) (0:Int)))))) else none)
def f32 (k:Nat) (x0:((Int × (Int × (Int × (Int × (List (Int × (Int × (Int × (Int × Int))))))))) × (Option (List (Int × (List Int)))))) (x1:(List Int)):Option Int:=if (((List.length x1:Int):Int) == (0:Int)) then (some (-1:Int)) else (f32.l93 k x1 x0 k ((Array.replicate 6 (0:Nat)),x0.1.1,x0.1.2.1,(0:Int),(0:Int),(0:Int)))
theorem c32 (k:Nat) (x0:((Int × (Int × (Int × (Int × (List (Int × (Int × (Int × (Int × Int))))))))) × (Option (List (Int × (List Int)))))) (x1:(List Int)) (r:Int) (hF:f32 k x0 x1=some r):PCall Try.prog 32 [⟨sh40,some x0⟩,⟨(.sl false 2 iS),x1⟩] [⟨iS,r⟩]:=by
 refine pcall_intro Try.func32 rfl rfl (Nat.le_of_ble_eq_true rfl) ?_
 intro w0 Zi a w h
 rw [f32] at hF
 refine zs [0,1] h an fun a w h => ?_
 refine wp_seq ?_
 refine zs [0,1,17] h an fun a w h => ?_
 refine zi h hF (fun hF => ?_) (fun hF => ?_)
 ·refine zs [4] h an fun a w h => ?_
  cases hF
  exact wp_ret (ret_okR tok h rfl (by kernel_rfl)).1
 ·refine wp_skip ?_
  refine wp_arNew_seq tok (t:=112) (d0:=18) (d:=5) (n:=6) h rfl rfl rfl rfl rfl rfl rfl rfl rfl rfl (by kernel_rfl) rfl rfl rfl (by kernel_rfl) (by kernel_rfl) (by kernel_rfl) ?_
  intro b1 a w h
  replace h:=h.only [0,1,5] (by kernel_rfl)
  refine wp_regy_seq tok (orc:=o0) (l:=[0,1,5,6,7,8,9]) ([],[],[],[]) 14 nw h (by kernel_rfl) (by kernel_rfl) an fun a w h => ?_
  refine wp_seq ?_
  refine zs [0,5,6,7,8,9,29,30,31] h an fun a w h => ?_
  refine wp_block ?_
  refine wp_loop_fuel (f32.l93 k x1 x0) (fun ((v156,v157,v158,v159,v160,v161):((Array Nat) × Int × Int × Int × Int × Int)) => [(0,.val sh40 (some x0)),(5,.val (.gh true) (arV b1 112 v156)),(6,.val iS v157),(7,.val iS v158),(8,.val iS v159),(9,.val iS v160),(29,.val (.sl false 2 iS) x1),(30,.val iS (List.length x1:Int)),(31,.val iS v161)]) (fun v h => by obtain ⟨v156,v157,v158,v159,v160,v161⟩:=v; rw [f32.l93] at h; cases h) ?_ hF (ar h [0,5,6,7,8,9,29,30,31])
  intro m93 v a w hF h
  obtain ⟨v156,v157,v158,v159,v160,v161⟩:=v
  rw [f32.l93] at hF
  refine zs [0,5,6,7,8,9,29,30,31,32] h an fun a w h => ?_
  refine wp_seq <| zi h hF (fun hF => ?_) (fun hF => ?_)
  ·refine wp_skip ?_
   refine wp_seq <| wp_block ?_
   obtain ⟨hc183,hF⟩:=of_if hF
   refine zs [0,5,6,7,8,9,11,29,30,31] h (ac hc183 an) fun a w h => ?_
   refine wp_seq ?_
   obtain ⟨hc181,hF⟩:=of_if hF
   obtain ⟨hc182,hF⟩:=of_if hF
   refine wp_seqX_seq (sxR_ok tok [(14,.ix 5 b1 112 6 v156),(15,.ld 5 b1 112 v156 (gD x1 (tZ v161) iO))] (sxA_ok tok (orc:=o0) (spA:=[]) (sp:=[]))) h (by kernel_rfl) (ac (fun (_:((bif (decide (((gD x1 (tZ v161) iO):Int) < iO)) then true else (decide (((gD x1 (tZ v161) iO):Int) ≥ (List.length x0.1.2.2.2.2:Int))))=false)) => (show SS.get [(0,.val sh40 (some x0)),(5,.val (.gh true) (arV b1 112 v156)),(6,.val iS v157),(7,.val iS v158),(8,.val iS v159),(9,.val iS v160),(11,.val iS (gD x1 (tZ v161) iO)),(29,.val (.sl false 2 iS) x1),(30,.val iS (List.length x1:Int)),(31,.val iS v161),(35,.val iS (gD x1 (tZ v161) iO)),(36,.val .bool (decide (((gD x1 (tZ v161) iO):Int) < iO))),(37,.val .bool (decide (((gD x1 (tZ v161) iO):Int) < iO))),(38,.cond 37 false (.val iS (gD x1 (tZ v161) iO))),(39,.cond 37 false (.val sh40 (some x0))),(40,.cond 37 false (.val sh40 (some x0))),(41,.cond 37 false (.val sh41 (some x0.1))),(42,.cond 37 false (.val sh42 (some x0.1.2.2.2.2))),(43,.cond 37 false (.val sh29 x0.1.2.2.2.2)),(44,.cond 37 false (.val iS (List.length x0.1.2.2.2.2:Int))),(45,.cond 37 false (.val .bool (decide (((gD x1 (tZ v161) iO):Int) ≥ (List.length x0.1.2.2.2.2:Int))))),(46,.val .bool (bif (decide (((gD x1 (tZ v161) iO):Int) < iO)) then true else (decide (((gD x1 (tZ v161) iO):Int) ≥ (List.length x0.1.2.2.2.2:Int))))),(47,.val .bool (bif (decide (((gD x1 (tZ v161) iO):Int) < iO)) then true else (decide (((gD x1 (tZ v161) iO):Int) ≥ (List.length x0.1.2.2.2.2:Int))))),(48,.val iS (gD x1 (tZ v161) iO))] 5=some (SV.val (Sh.gh true) (arV b1 112 v156)) from by kernel_rfl)) (ac hc181 (ac (fun (_:((bif (decide (((gD x1 (tZ v161) iO):Int) < iO)) then true else (decide (((gD x1 (tZ v161) iO):Int) ≥ (List.length x0.1.2.2.2.2:Int))))=false)) => (show SS.get [(0,.val sh40 (some x0)),(5,.val (.gh true) (arV b1 112 v156)),(6,.val iS v157),(7,.val iS v158),(8,.val iS v159),(9,.val iS v160),(11,.val iS (gD x1 (tZ v161) iO)),(29,.val (.sl false 2 iS) x1),(30,.val iS (List.length x1:Int)),(31,.val iS v161),(35,.val iS (gD x1 (tZ v161) iO)),(36,.val .bool (decide (((gD x1 (tZ v161) iO):Int) < iO))),(37,.val .bool (decide (((gD x1 (tZ v161) iO):Int) < iO))),(38,.cond 37 false (.val iS (gD x1 (tZ v161) iO))),(39,.cond 37 false (.val sh40 (some x0))),(40,.cond 37 false (.val sh40 (some x0))),(41,.cond 37 false (.val sh41 (some x0.1))),(42,.cond 37 false (.val sh42 (some x0.1.2.2.2.2))),(43,.cond 37 false (.val sh29 x0.1.2.2.2.2)),(44,.cond 37 false (.val iS (List.length x0.1.2.2.2.2:Int))),(45,.cond 37 false (.val .bool (decide (((gD x1 (tZ v161) iO):Int) ≥ (List.length x0.1.2.2.2.2:Int))))),(46,.val .bool (bif (decide (((gD x1 (tZ v161) iO):Int) < iO)) then true else (decide (((gD x1 (tZ v161) iO):Int) ≥ (List.length x0.1.2.2.2.2:Int))))),(47,.val .bool (bif (decide (((gD x1 (tZ v161) iO):Int) < iO)) then true else (decide (((gD x1 (tZ v161) iO):Int) ≥ (List.length x0.1.2.2.2.2:Int))))),(48,.val iS (gD x1 (tZ v161) iO)),(49,.val .raw (arP b1 (gD x1 (tZ v161) iO)))] 5=some (SV.val (Sh.gh true) (arV b1 112 v156)) from by kernel_rfl)) (ac (fun (_:((bif (decide (((gD x1 (tZ v161) iO):Int) < iO)) then true else (decide (((gD x1 (tZ v161) iO):Int) ≥ (List.length x0.1.2.2.2.2:Int))))=false)) => (show SS.get [(0,.val sh40 (some x0)),(5,.val (.gh true) (arV b1 112 v156)),(6,.val iS v157),(7,.val iS v158),(8,.val iS v159),(9,.val iS v160),(11,.val iS (gD x1 (tZ v161) iO)),(29,.val (.sl false 2 iS) x1),(30,.val iS (List.length x1:Int)),(31,.val iS v161),(35,.val iS (gD x1 (tZ v161) iO)),(36,.val .bool (decide (((gD x1 (tZ v161) iO):Int) < iO))),(37,.val .bool (decide (((gD x1 (tZ v161) iO):Int) < iO))),(38,.cond 37 false (.val iS (gD x1 (tZ v161) iO))),(39,.cond 37 false (.val sh40 (some x0))),(40,.cond 37 false (.val sh40 (some x0))),(41,.cond 37 false (.val sh41 (some x0.1))),(42,.cond 37 false (.val sh42 (some x0.1.2.2.2.2))),(43,.cond 37 false (.val sh29 x0.1.2.2.2.2)),(44,.cond 37 false (.val iS (List.length x0.1.2.2.2.2:Int))),(45,.cond 37 false (.val .bool (decide (((gD x1 (tZ v161) iO):Int) ≥ (List.length x0.1.2.2.2.2:Int))))),(46,.val .bool (bif (decide (((gD x1 (tZ v161) iO):Int) < iO)) then true else (decide (((gD x1 (tZ v161) iO):Int) ≥ (List.length x0.1.2.2.2.2:Int))))),(47,.val .bool (bif (decide (((gD x1 (tZ v161) iO):Int) < iO)) then true else (decide (((gD x1 (tZ v161) iO):Int) ≥ (List.length x0.1.2.2.2.2:Int))))),(48,.val iS (gD x1 (tZ v161) iO)),(49,.val .raw (arP b1 (gD x1 (tZ v161) iO)))] 49=some (SV.val Sh.raw (arP b1 (gD x1 (tZ v161) iO))) from by kernel_rfl)) (ac hc182 an))))) fun a w h => ?_
   refine zi h hF (fun hF => ?_) (fun hF => ?_)
   ·refine zs [4] h an fun a w h => ?_
    cases hF
    exact wp_ret (ret_okR tok h rfl (by kernel_rfl)).1
   ·refine wp_skip ?_
    obtain ⟨hc179,hF⟩:=of_if hF
    obtain ⟨hc180,hF⟩:=of_if hF
    refine wp_seqX_seq (sxR_ok tok [(1,.ix 5 b1 112 6 v156),(2,.st 5 b1 112 v156 (gD x1 (tZ v161) iO))] (sxA_ok tok (orc:=o0) (spA:=[]) (sp:=[]))) h (by kernel_rfl) (ac (show SS.get [(0,.val sh40 (some x0)),(5,.val (.gh true) (arV b1 112 v156)),(6,.val iS v157),(7,.val iS v158),(8,.val iS v159),(9,.val iS v160),(11,.val iS (gD x1 (tZ v161) iO)),(29,.val (.sl false 2 iS) x1),(30,.val iS (List.length x1:Int)),(31,.val iS v161),(51,.val .bool (bif (bif (decide (((gD x1 (tZ v161) iO):Int) < iO)) then true else (decide (((gD x1 (tZ v161) iO):Int) ≥ (List.length x0.1.2.2.2.2:Int)))) then true else (Array.getD v156 (tZ (gD x1 (tZ v161) iO)) 0 != 0))),(52,.val iS (gD x1 (tZ v161) iO))] 5=some (SV.val (Sh.gh true) (arV b1 112 v156)) from by kernel_rfl) (ac hc179 (ac (show SS.get [(0,.val sh40 (some x0)),(5,.val (.gh true) (arV b1 112 v156)),(6,.val iS v157),(7,.val iS v158),(8,.val iS v159),(9,.val iS v160),(11,.val iS (gD x1 (tZ v161) iO)),(29,.val (.sl false 2 iS) x1),(30,.val iS (List.length x1:Int)),(31,.val iS v161),(51,.val .bool (bif (bif (decide (((gD x1 (tZ v161) iO):Int) < iO)) then true else (decide (((gD x1 (tZ v161) iO):Int) ≥ (List.length x0.1.2.2.2.2:Int)))) then true else (Array.getD v156 (tZ (gD x1 (tZ v161) iO)) 0 != 0))),(52,.val iS (gD x1 (tZ v161) iO)),(53,.val .raw (arP b1 (gD x1 (tZ v161) iO)))] 5=some (SV.val (Sh.gh true) (arV b1 112 v156)) from by kernel_rfl) (ac (show SS.get [(0,.val sh40 (some x0)),(5,.val (.gh true) (arV b1 112 v156)),(6,.val iS v157),(7,.val iS v158),(8,.val iS v159),(9,.val iS v160),(11,.val iS (gD x1 (tZ v161) iO)),(29,.val (.sl false 2 iS) x1),(30,.val iS (List.length x1:Int)),(31,.val iS v161),(51,.val .bool (bif (bif (decide (((gD x1 (tZ v161) iO):Int) < iO)) then true else (decide (((gD x1 (tZ v161) iO):Int) ≥ (List.length x0.1.2.2.2.2:Int)))) then true else (Array.getD v156 (tZ (gD x1 (tZ v161) iO)) 0 != 0))),(52,.val iS (gD x1 (tZ v161) iO)),(53,.val .raw (arP b1 (gD x1 (tZ v161) iO)))] 53=some (SV.val Sh.raw (arP b1 (gD x1 (tZ v161) iO))) from by kernel_rfl) (ac hc180 an))))) fun a w h => ?_
    obtain ⟨hc178,hF⟩:=of_if hF
    refine zs [0,5,6,7,8,9,12,29,30,31] h (ac hc178 an) fun a w h => ?_
    obtain ⟨hc177,hF⟩:=of_if hF
    refine wp_regy_seq tok (orc:=o0) (l:=[0,5,7,8,9,12,13,29,30,31]) ([],[],[],[]) 11 nw h (by kernel_rfl) (by kernel_rfl) (ac (show eqTy Try.prog 9 2 iS=true from by kernel_rfl) (ac hc177 an)) fun a w h => ?_
    refine wp_seq ?_
    refine zs [0,5,7,8,9,12,13,29,30,31,73] h an fun a w h => ?_
    refine zi h hF (fun hF => ?_) (fun hF => ?_)
    ·refine zs [4] h an fun a w h => ?_
     cases hF
     exact wp_ret (ret_okR tok h rfl (by kernel_rfl)).1
    ·refine wp_skip ?_
     refine zs [0,5,7,8,9,12,13,29,30,31] h an fun a w h => ?_
     refine zs [0,5,7,8,9,12,29,30,31] h an fun a w h => ?_
     refine zs [0,5,7,8,9,12,29,30,31] h an fun a w h => ?_
     refine wp_seq ?_
     refine zs [0,5,7,8,9,12,29,30,31,96] h an fun a w h => ?_
     obtain ⟨v173,hv176,hF⟩:=of_bind hF
     replace h:=h.cast (S':=[(0,.val sh40 (some x0)),(5,.val (.gh true) (arV b1 112 (Array.setIfInBounds v156 (tZ (gD x1 (tZ v161) iO)) 1))),(7,.val iS (w64 (v158 + (gD (mget (Sh.beq iS) x0.2 v157 lO) (tZ (gD x0.1.2.2.2.2 (tZ (gD x1 (tZ v161) iO)) (iO,(iO,(iO,(iO,iO))))).1) iO)))),(8,.val iS (w64 (v159 + (gD (mget (Sh.beq iS) x0.2 v157 lO) (tZ (gD x0.1.2.2.2.2 (tZ (gD x1 (tZ v161) iO)) (iO,(iO,(iO,(iO,iO))))).1) iO)))),(9,.val iS (w64 (v160 + (gD x0.1.2.2.2.2 (tZ (gD x1 (tZ v161) iO)) (iO,(iO,(iO,(iO,iO))))).2.1))),(12,.val sh24 (some (gD x0.1.2.2.2.2 (tZ (gD x1 (tZ v161) iO)) (iO,(iO,(iO,(iO,iO))))))),(29,.val (.sl false 2 iS) x1),(30,.val iS (List.length x1:Int)),(31,.val iS v161),(96,.val .bool v173)]) (by cases hv176; kernel_rfl)
     refine zi h hF (fun hF => ?_) (fun hF => ?_)
     ·refine zs [4] h an fun a w h => ?_
      cases hF
      exact wp_ret (ret_okR tok h rfl (by kernel_rfl)).1
     ·refine wp_skip ?_
      refine wp_seq ?_
      refine zs [0,5,7,8,9,12,29,30,31,100] h an fun a w h => ?_
      refine wp_midT (fun a w => ∃ v:Int,f32.j175 k v156 x1 v161 x0 v159 v157 v160 ((f32.l93 k x1 x0) m93) v=some r∧Rel w0 (fun _ => False) Zi Try.f32.ntmps ((fun v174 => ([(0,.val sh40 (some x0)),(5,.val (.gh true) (arV b1 112 (Array.setIfInBounds v156 (tZ (gD x1 (tZ v161) iO)) 1))),(7,.val iS v174),(8,.val iS (w64 (v159 + (gD (mget (Sh.beq iS) x0.2 v157 lO) (tZ (gD x0.1.2.2.2.2 (tZ (gD x1 (tZ v161) iO)) (iO,(iO,(iO,(iO,iO))))).1) iO)))),(9,.val iS (w64 (v160 + (gD x0.1.2.2.2.2 (tZ (gD x1 (tZ v161) iO)) (iO,(iO,(iO,(iO,iO))))).2.1))),(12,.val sh24 (some (gD x0.1.2.2.2.2 (tZ (gD x1 (tZ v161) iO)) (iO,(iO,(iO,(iO,iO))))))),(29,.val (.sl false 2 iS) x1),(30,.val iS (List.length x1:Int)),(31,.val iS v161)]:SS)) v) a w) ?_ ?_
      ·
       refine zi h hF (fun hF => ?_) (fun hF => ?_)
       ·refine zt [0,5,7,8,9,12,29,30,31] h an fun a w h => ?_
        exact ⟨(gD x0.1.2.2.2.2 (tZ (gD x1 (tZ v161) iO)) (iO,(iO,(iO,(iO,iO))))).2.2.1,hF,ar h [0,5,7,8,9,12,29,30,31]⟩
       ·refine wp_skip ?_
        exact ⟨(w64 (v158 + (gD (mget (Sh.beq iS) x0.2 v157 lO) (tZ (gD x0.1.2.2.2.2 (tZ (gD x1 (tZ v161) iO)) (iO,(iO,(iO,(iO,iO))))).1) iO))),hF,ar h [0,5,7,8,9,12,29,30,31]⟩
      ·rintro a w ⟨v174,hF,h⟩
       rw [f32.j175] at hF
       refine zs [0,5,7,8,9,12,29,30,31] h an fun a w h => ?_
       refine zt [0,5,6,7,8,9,29,30,31] h an fun a w h => ?_
       refine zt [0,5,6,7,8,9,29,30,31] h an fun a w h => ?_
       exact ⟨((Array.setIfInBounds v156 (tZ (gD x1 (tZ v161) iO)) 1),(gD x0.1.2.2.2.2 (tZ (gD x1 (tZ v161) iO)) (iO,(iO,(iO,(iO,iO))))).1,(w64 (v174 + (gD x0.1.2.2.2.2 (tZ (gD x1 (tZ v161) iO)) (iO,(iO,(iO,(iO,iO))))).2.2.2.2)),(w64 (v159 + (gD (mget (Sh.beq iS) x0.2 v157 lO) (tZ (gD x0.1.2.2.2.2 (tZ (gD x1 (tZ v161) iO)) (iO,(iO,(iO,(iO,iO))))).1) iO))),(w64 (v160 + (gD x0.1.2.2.2.2 (tZ (gD x1 (tZ v161) iO)) (iO,(iO,(iO,(iO,iO))))).2.1)),(w64 (v161 + (1:Int)))),hF,ar h [0,5,6,7,8,9,29,30,31]⟩
  ·refine wp_exit ?_
   obtain ⟨hc184,hF⟩:=of_if hF
   refine wp_regy_seq tok (orc:=o0) (l:=[8,14]) ([],[],[],[]) 14 nw h (by kernel_rfl) (by kernel_rfl) (ac (show eqTy Try.prog 9 2 iS=true from by kernel_rfl) (ac hc184 an)) fun a w h => ?_
   refine wp_seq ?_
   refine zs [8,14,124] h an fun a w h => ?_
   refine zi h hF (fun hF => ?_) (fun hF => ?_)
   ·refine zs [4] h an fun a w h => ?_
    cases hF
    exact wp_ret (ret_okR tok h rfl (by kernel_rfl)).1
   ·refine wp_skip ?_
    refine zs [4] h an fun a w h => ?_
    cases hF
    exact wp_ret (ret_okR tok h rfl (by kernel_rfl)).1
def f11 (k:Nat) (x0:((List (Int × (Int × Int))) × ((List (Int × (Int × (Int × (Int × (Int × ByteArray)))))) × (List (Int × Int))))) (x1:(Int × (Int × (Int × (Int × (List (Int × (Int × (Int × (Int × Int)))))))))) (x2:(List Int)):Option Int:=(f31 k x0 x1).bind fun r1 => (optC r1 (some (-1:Int)) (fun y2 => (f32 k y2 x2).bind fun r3 => (some r3)))
theorem c11 (k:Nat) (x0:tG) (x1:(Int × (Int × (Int × (Int × (List (Int × (Int × (Int × (Int × Int)))))))))) (x2:(List Int)) (r:Int) (hF:f11 k x0 x1 x2=some r):PCall Try.prog 11 [⟨sh17,x0⟩,⟨sh19,x1⟩,⟨(.sl false 2 iS),x2⟩] [⟨iS,r⟩]:=by
 refine pcall_intro Try.func11 rfl rfl (Nat.le_of_ble_eq_true rfl) ?_
 intro w0 Zi a w h
 rw [f11] at hF
 refine zs [2,3,4] h an fun a w h => ?_
 obtain ⟨r1,hr5,hF⟩:=of_bind hF
 refine zc (orcL [(10,[⟨sh37,r1⟩])]) [2,7] h (ac (c31 k x0 x1 r1 hr5) an) fun a w h => ?_
 rcases r1 with _ | y2
 ·
  replace hF:=optC_none hF
  refine wp_seq ?_
  refine wp_seqX_seq (sxR_ok tok [(1,.nq 7)] (sxA_ok tok (orc:=o0) (spA:=[]) (sp:=[]))) h (by kernel_rfl) an fun a w h => ?_
  refine wp_if h (b:=true) (by kernel_rfl) (fun hb => ?_) (fun hb => by cases hb)
  refine zs [6] h an fun a w h => ?_
  cases hF
  exact wp_ret (ret_okR tok h rfl (by kernel_rfl)).1
 ·
  replace hF:=optC_some hF
  refine wp_seq ?_
  refine wp_seqX_seq (sxR_ok tok [(1,.nq 7)] (sxA_ok tok (orc:=o0) (spA:=[]) (sp:=[]))) h (by kernel_rfl) an fun a w h => ?_
  refine wp_if h (b:=false) (by kernel_rfl) (fun hb => by cases hb) (fun hb => ?_)
  refine wp_skip ?_
  obtain ⟨r3,hr4,hF⟩:=of_bind hF
  refine zc (orcL [(15,[⟨iS,r3⟩])]) [6] h (ac (c32 k y2 x2 r3 hr4) an) fun a w h => ?_
  cases hF
  exact wp_ret (ret_okR tok h rfl (by kernel_rfl)).1
def f65 (k:Nat) (x0:(Int × Int)) (x1:(Int × Int)):Option Bool:=if (x0.1 != x1.1) then (some false) else (if (x0.2 != x1.2) then (some false) else (some true))
theorem c65 (k:Nat) (x0:(Int × Int)) (x1:(Int × Int)) (r:Bool) (hF:f65 k x0 x1=some r):PCall Try.prog 65 [⟨sh7,x0⟩,⟨sh7,x1⟩] [⟨.bool,r⟩]:=by
 refine pcall_intro Try.func65 rfl rfl (Nat.le_of_ble_eq_true rfl) ?_
 intro w0 Zi a w h
 rw [f65] at hF
 refine zs [2,3] h an fun a w h => ?_
 refine wp_seq ?_
 refine zs [2,3,9] h an fun a w h => ?_
 refine zi h hF (fun hF => ?_) (fun hF => ?_)
 ·refine zs [4] h an fun a w h => ?_
  cases hF
  exact wp_ret (ret_okR tok h rfl (by kernel_rfl)).1
 ·refine wp_skip ?_
  refine wp_seq ?_
  refine zs [14] h an fun a w h => ?_
  refine zi h hF (fun hF => ?_) (fun hF => ?_)
  ·refine zs [4] h an fun a w h => ?_
   cases hF
   exact wp_ret (ret_okR tok h rfl (by kernel_rfl)).1
  ·refine wp_skip ?_
   refine zs [4] h an fun a w h => ?_
   cases hF
   exact wp_ret (ret_okR tok h rfl (by kernel_rfl)).1
def f53 (k:Nat) (x0:(Int × (Int × Int))) (x1:(Int × (Int × Int))):Option Bool:=if (x0.1 != x1.1) then (some false) else ((f65 k x0.2 x1.2).bind fun r1 => (if (!r1) then (some false) else (some true)))
theorem c53 (k:Nat) (x0:(Int × (Int × Int))) (x1:(Int × (Int × Int))) (r:Bool) (hF:f53 k x0 x1=some r):PCall Try.prog 53 [⟨sh8,x0⟩,⟨sh8,x1⟩] [⟨.bool,r⟩]:=by
 refine pcall_intro Try.func53 rfl rfl (Nat.le_of_ble_eq_true rfl) ?_
 intro w0 Zi a w h
 rw [f53] at hF
 refine zs [2,3] h an fun a w h => ?_
 refine wp_seq ?_
 refine zs [2,3,9] h an fun a w h => ?_
 refine zi h hF (fun hF => ?_) (fun hF => ?_)
 ·refine zs [4] h an fun a w h => ?_
  cases hF
  exact wp_ret (ret_okR tok h rfl (by kernel_rfl)).1
 ·refine wp_skip ?_
  refine wp_seq ?_
  obtain ⟨r1,hr2,hF⟩:=of_bind hF
  refine zc (orcL [(14,[⟨.bool,r1⟩])]) [15] h (ac (c65 k x0.2 x1.2 r1 hr2) an) fun a w h => ?_
  refine zi h hF (fun hF => ?_) (fun hF => ?_)
  ·refine zs [4] h an fun a w h => ?_
   cases hF
   exact wp_ret (ret_okR tok h rfl (by kernel_rfl)).1
  ·refine wp_skip ?_
   refine zs [4] h an fun a w h => ?_
   cases hF
   exact wp_ret (ret_okR tok h rfl (by kernel_rfl)).1
def f33.l30 (k:Nat) (x0:(List (Int × (Int × Int)))) (x1:(List (Int × (Int × Int)))):Nat→Int→Option Bool
 | 0,_ => none
 | m30+1,v50 => if (decide (v50 < (List.length x0:Int))) then (if (0≤v50∧v50 < (List.length x0:Int)) then (if (0≤v50∧v50 < (List.length x1:Int)) then ((f53 k (List.getD x0 (Int.toNat v50) ((0:Int),((0:Int),(0:Int)))) (List.getD x1 (Int.toNat v50) ((0:Int),((0:Int),(0:Int))))).bind fun r55 => (if (!r55) then (some false) else ((f33.l30 k x0 x1) m30 (IntKind.i64.wrap (v50 + (1:Int)))))) else none) else none) else (some true)
def f33 (k:Nat) (x0:(List (Int × (Int × Int)))) (x1:(List (Int × (Int × Int)))):Option Bool:=if (((List.length x0:Int):Int) != (List.length x1:Int)) then (some false) else (f33.l30 k x0 x1 k (0:Int))
theorem c33 (k:Nat) (x0:(List (Int × (Int × Int)))) (x1:(List (Int × (Int × Int)))) (r:Bool) (hF:f33 k x0 x1=some r):PCall Try.prog 33 [⟨sh26,x0⟩,⟨sh26,x1⟩] [⟨.bool,r⟩]:=by
 refine pcall_intro Try.func33 rfl rfl (Nat.le_of_ble_eq_true rfl) ?_
 intro w0 Zi a w h
 rw [f33] at hF
 refine zs [0,1] h an fun a w h => ?_
 refine wp_seq ?_
 refine zs [0,1,10] h an fun a w h => ?_
 refine zi h hF (fun hF => ?_) (fun hF => ?_)
 ·refine zs [4] h an fun a w h => ?_
  cases hF
  exact wp_ret (ret_okR tok h rfl (by kernel_rfl)).1
 ·refine wp_skip ?_
  refine wp_seq ?_
  refine zs [0,1,5] h an fun a w h => ?_
  refine wp_block ?_
  refine wp_loop_fuel (f33.l30 k x0 x1) (fun v50 => [(0,.val sh26 x0),(1,.val sh26 x1),(5,.val iS v50)]) (fun v h => by rw [f33.l30] at h; cases h) ?_ hF (ar h [0,1,5])
  intro m30 v50 a w hF h
  rw [f33.l30] at hF
  refine wp_seq ?_
  refine zs [0,1,5,14] h an fun a w h => ?_
  refine zi h hF (fun hF => ?_) (fun hF => ?_)
  ·refine wp_skip ?_
   refine wp_seq <| wp_block ?_
   obtain ⟨hc56,hF⟩:=of_if hF
   obtain ⟨hc57,hF⟩:=of_if hF
   obtain ⟨r55,hr58,hF⟩:=of_bind hF
   refine wp_regy_seq tok (orc:=orcL [(25,[⟨.bool,r55⟩])]) (l:=[0,1,5,26]) ([],[],[],[]) 10 nw h (by kernel_rfl) (by kernel_rfl) (ac hc56 (ac hc57 (ac (c53 k (gD x0 (tZ v50) (iO,(iO,iO))) (gD x1 (tZ v50) (iO,(iO,iO))) r55 hr58) an))) fun a w h => ?_
   refine zi h hF (fun hF => ?_) (fun hF => ?_)
   ·refine zs [4] h an fun a w h => ?_
    cases hF
    exact wp_ret (ret_okR tok h rfl (by kernel_rfl)).1
   ·refine wp_skip ?_
    refine zt [0,1,5] h an fun a w h => ?_
    exact ⟨(w64 (v50 + (1:Int))),hF,ar h [0,1,5]⟩
  ·refine wp_exit ?_
   refine zs [4] h an fun a w h => ?_
   cases hF
   exact wp_ret (ret_okR tok h rfl (by kernel_rfl)).1
def f54 (k:Nat) (x0:(Int × (Int × (Int × (Int × (Int × ByteArray)))))) (x1:(Int × (Int × (Int × (Int × (Int × ByteArray)))))):Option Bool:=if (x0.1 != x1.1) then (some false) else (if (x0.2.1 != x1.2.1) then (some false) else (if (x0.2.2.1 != x1.2.2.1) then (some false) else (if (x0.2.2.2.1 != x1.2.2.2.1) then (some false) else (if (x0.2.2.2.2.1 != x1.2.2.2.2.1) then (some false) else (if (!(ByteArray.toList x0.2.2.2.2.2 == ByteArray.toList x1.2.2.2.2.2)) then (some false) else (some true))))))
theorem c54 (k:Nat) (x0:(Int × (Int × (Int × (Int × (Int × ByteArray)))))) (x1:(Int × (Int × (Int × (Int × (Int × ByteArray)))))) (r:Bool) (hF:f54 k x0 x1=some r):PCall Try.prog 54 [⟨sh1,x0⟩,⟨sh1,x1⟩] [⟨.bool,r⟩]:=by
 refine pcall_intro Try.func54 rfl rfl (Nat.le_of_ble_eq_true rfl) ?_
 intro w0 Zi a w h
 rw [f54] at hF
 refine zs [2,3] h an fun a w h => ?_
 refine wp_seq ?_
 refine zs [2,3,9] h an fun a w h => ?_
 refine zi h hF (fun hF => ?_) (fun hF => ?_)
 ·refine zs [4] h an fun a w h => ?_
  cases hF
  exact wp_ret (ret_okR tok h rfl (by kernel_rfl)).1
 ·refine wp_skip ?_
  refine wp_seq ?_
  refine zs [2,3,14] h an fun a w h => ?_
  refine zi h hF (fun hF => ?_) (fun hF => ?_)
  ·refine zs [4] h an fun a w h => ?_
   cases hF
   exact wp_ret (ret_okR tok h rfl (by kernel_rfl)).1
  ·refine wp_skip ?_
   refine wp_seq ?_
   refine zs [2,3,19] h an fun a w h => ?_
   refine zi h hF (fun hF => ?_) (fun hF => ?_)
   ·refine zs [4] h an fun a w h => ?_
    cases hF
    exact wp_ret (ret_okR tok h rfl (by kernel_rfl)).1
   ·refine wp_skip ?_
    refine wp_seq ?_
    refine zs [2,3,24] h an fun a w h => ?_
    refine zi h hF (fun hF => ?_) (fun hF => ?_)
    ·refine zs [4] h an fun a w h => ?_
     cases hF
     exact wp_ret (ret_okR tok h rfl (by kernel_rfl)).1
    ·refine wp_skip ?_
     refine wp_seq ?_
     refine zs [2,3,29] h an fun a w h => ?_
     refine zi h hF (fun hF => ?_) (fun hF => ?_)
     ·refine zs [4] h an fun a w h => ?_
      cases hF
      exact wp_ret (ret_okR tok h rfl (by kernel_rfl)).1
     ·refine wp_skip ?_
      refine wp_seq ?_
      refine zs [34] h an fun a w h => ?_
      refine zi h hF (fun hF => ?_) (fun hF => ?_)
      ·refine zs [4] h an fun a w h => ?_
       cases hF
       exact wp_ret (ret_okR tok h rfl (by kernel_rfl)).1
      ·refine wp_skip ?_
       refine zs [4] h an fun a w h => ?_
       cases hF
       exact wp_ret (ret_okR tok h rfl (by kernel_rfl)).1
def f34.l30 (k:Nat) (x0:(List (Int × (Int × (Int × (Int × (Int × ByteArray))))))) (x1:(List (Int × (Int × (Int × (Int × (Int × ByteArray))))))):Nat→Int→Option Bool
 | 0,_ => none
 | m30+1,v50 => if (decide (v50 < (List.length x0:Int))) then (if (0≤v50∧v50 < (List.length x0:Int)) then (if (0≤v50∧v50 < (List.length x1:Int)) then ((f54 k (List.getD x0 (Int.toNat v50) ((0:Int),((0:Int),((0:Int),((0:Int),((0:Int),(⟨#[]⟩:ByteArray))))))) (List.getD x1 (Int.toNat v50) ((0:Int),((0:Int),((0:Int),((0:Int),((0:Int),(⟨#[]⟩:ByteArray)))))))).bind fun r55 => (if (!r55) then (some false) else ((f34.l30 k x0 x1) m30 (IntKind.i64.wrap (v50 + (1:Int)))))) else none) else none) else (some true)
def f34 (k:Nat) (x0:(List (Int × (Int × (Int × (Int × (Int × ByteArray))))))) (x1:(List (Int × (Int × (Int × (Int × (Int × ByteArray))))))):Option Bool:=if (((List.length x0:Int):Int) != (List.length x1:Int)) then (some false) else (f34.l30 k x0 x1 k (0:Int))
theorem c34 (k:Nat) (x0:(List (Int × (Int × (Int × (Int × (Int × ByteArray))))))) (x1:(List (Int × (Int × (Int × (Int × (Int × ByteArray))))))) (r:Bool) (hF:f34 k x0 x1=some r):PCall Try.prog 34 [⟨sh27,x0⟩,⟨sh27,x1⟩] [⟨.bool,r⟩]:=by
 refine pcall_intro Try.func34 rfl rfl (Nat.le_of_ble_eq_true rfl) ?_
 intro w0 Zi a w h
 rw [f34] at hF
 refine zs [0,1] h an fun a w h => ?_
 refine wp_seq ?_
 refine zs [0,1,10] h an fun a w h => ?_
 refine zi h hF (fun hF => ?_) (fun hF => ?_)
 ·refine zs [4] h an fun a w h => ?_
  cases hF
  exact wp_ret (ret_okR tok h rfl (by kernel_rfl)).1
 ·refine wp_skip ?_
  refine wp_seq ?_
  refine zs [0,1,5] h an fun a w h => ?_
  refine wp_block ?_
  refine wp_loop_fuel (f34.l30 k x0 x1) (fun v50 => [(0,.val sh27 x0),(1,.val sh27 x1),(5,.val iS v50)]) (fun v h => by rw [f34.l30] at h; cases h) ?_ hF (ar h [0,1,5])
  intro m30 v50 a w hF h
  rw [f34.l30] at hF
  refine wp_seq ?_
  refine zs [0,1,5,14] h an fun a w h => ?_
  refine zi h hF (fun hF => ?_) (fun hF => ?_)
  ·refine wp_skip ?_
   refine wp_seq <| wp_block ?_
   obtain ⟨hc56,hF⟩:=of_if hF
   obtain ⟨hc57,hF⟩:=of_if hF
   obtain ⟨r55,hr58,hF⟩:=of_bind hF
   refine wp_regy_seq tok (orc:=orcL [(25,[⟨.bool,r55⟩])]) (l:=[0,1,5,26]) ([],[],[],[]) 10 nw h (by kernel_rfl) (by kernel_rfl) (ac hc56 (ac hc57 (ac (c54 k (gD x0 (tZ v50) zR) (gD x1 (tZ v50) zR) r55 hr58) an))) fun a w h => ?_
   refine zi h hF (fun hF => ?_) (fun hF => ?_)
   ·refine zs [4] h an fun a w h => ?_
    cases hF
    exact wp_ret (ret_okR tok h rfl (by kernel_rfl)).1
   ·refine wp_skip ?_
    refine zt [0,1,5] h an fun a w h => ?_
    exact ⟨(w64 (v50 + (1:Int))),hF,ar h [0,1,5]⟩
  ·refine wp_exit ?_
   refine zs [4] h an fun a w h => ?_
   cases hF
   exact wp_ret (ret_okR tok h rfl (by kernel_rfl)).1
def f55 (k:Nat) (x0:(Int × Int)) (x1:(Int × Int)):Option Bool:=if (x0.1 != x1.1) then (some false) else (if (x0.2 != x1.2) then (some false) else (some true))
theorem c55 (k:Nat) (x0:(Int × Int)) (x1:(Int × Int)) (r:Bool) (hF:f55 k x0 x1=some r):PCall Try.prog 55 [⟨sh7,x0⟩,⟨sh7,x1⟩] [⟨.bool,r⟩]:=by
 refine pcall_intro Try.func55 rfl rfl (Nat.le_of_ble_eq_true rfl) ?_
 intro w0 Zi a w h
 rw [f55] at hF
 refine zs [2,3] h an fun a w h => ?_
 refine wp_seq ?_
 refine zs [2,3,9] h an fun a w h => ?_
 refine zi h hF (fun hF => ?_) (fun hF => ?_)
 ·refine zs [4] h an fun a w h => ?_
  cases hF
  exact wp_ret (ret_okR tok h rfl (by kernel_rfl)).1
 ·refine wp_skip ?_
  refine wp_seq ?_
  refine zs [14] h an fun a w h => ?_
  refine zi h hF (fun hF => ?_) (fun hF => ?_)
  ·refine zs [4] h an fun a w h => ?_
   cases hF
   exact wp_ret (ret_okR tok h rfl (by kernel_rfl)).1
  ·refine wp_skip ?_
   refine zs [4] h an fun a w h => ?_
   cases hF
   exact wp_ret (ret_okR tok h rfl (by kernel_rfl)).1
def f35.l30 (k:Nat) (x0:(List (Int × Int))) (x1:(List (Int × Int))):Nat→Int→Option Bool
 | 0,_ => none
 | m30+1,v50 => if (decide (v50 < (List.length x0:Int))) then (if (0≤v50∧v50 < (List.length x0:Int)) then (if (0≤v50∧v50 < (List.length x1:Int)) then ((f55 k (List.getD x0 (Int.toNat v50) ((0:Int),(0:Int))) (List.getD x1 (Int.toNat v50) ((0:Int),(0:Int)))).bind fun r55 => (if (!r55) then (some false) else ((f35.l30 k x0 x1) m30 (IntKind.i64.wrap (v50 + (1:Int)))))) else none) else none) else (some true)
def f35 (k:Nat) (x0:(List (Int × Int))) (x1:(List (Int × Int))):Option Bool:=if (((List.length x0:Int):Int) != (List.length x1:Int)) then (some false) else (f35.l30 k x0 x1 k (0:Int))
theorem c35 (k:Nat) (x0:(List (Int × Int))) (x1:(List (Int × Int))) (r:Bool) (hF:f35 k x0 x1=some r):PCall Try.prog 35 [⟨sh28,x0⟩,⟨sh28,x1⟩] [⟨.bool,r⟩]:=by
 refine pcall_intro Try.func35 rfl rfl (Nat.le_of_ble_eq_true rfl) ?_
 intro w0 Zi a w h
 rw [f35] at hF
 refine zs [0,1] h an fun a w h => ?_
 refine wp_seq ?_
 refine zs [0,1,10] h an fun a w h => ?_
 refine zi h hF (fun hF => ?_) (fun hF => ?_)
 ·refine zs [4] h an fun a w h => ?_
  cases hF
  exact wp_ret (ret_okR tok h rfl (by kernel_rfl)).1
 ·refine wp_skip ?_
  refine wp_seq ?_
  refine zs [0,1,5] h an fun a w h => ?_
  refine wp_block ?_
  refine wp_loop_fuel (f35.l30 k x0 x1) (fun v50 => [(0,.val sh28 x0),(1,.val sh28 x1),(5,.val iS v50)]) (fun v h => by rw [f35.l30] at h; cases h) ?_ hF (ar h [0,1,5])
  intro m30 v50 a w hF h
  rw [f35.l30] at hF
  refine wp_seq ?_
  refine zs [0,1,5,14] h an fun a w h => ?_
  refine zi h hF (fun hF => ?_) (fun hF => ?_)
  ·refine wp_skip ?_
   refine wp_seq <| wp_block ?_
   obtain ⟨hc56,hF⟩:=of_if hF
   obtain ⟨hc57,hF⟩:=of_if hF
   obtain ⟨r55,hr58,hF⟩:=of_bind hF
   refine wp_regy_seq tok (orc:=orcL [(25,[⟨.bool,r55⟩])]) (l:=[0,1,5,26]) ([],[],[],[]) 10 nw h (by kernel_rfl) (by kernel_rfl) (ac hc56 (ac hc57 (ac (c55 k (gD x0 (tZ v50) (iO,iO)) (gD x1 (tZ v50) (iO,iO)) r55 hr58) an))) fun a w h => ?_
   refine zi h hF (fun hF => ?_) (fun hF => ?_)
   ·refine zs [4] h an fun a w h => ?_
    cases hF
    exact wp_ret (ret_okR tok h rfl (by kernel_rfl)).1
   ·refine wp_skip ?_
    refine zt [0,1,5] h an fun a w h => ?_
    exact ⟨(w64 (v50 + (1:Int))),hF,ar h [0,1,5]⟩
  ·refine wp_exit ?_
   refine zs [4] h an fun a w h => ?_
   cases hF
   exact wp_ret (ret_okR tok h rfl (by kernel_rfl)).1
def f12 (k:Nat) (x0:((List (Int × (Int × Int))) × ((List (Int × (Int × (Int × (Int × (Int × ByteArray)))))) × (List (Int × Int))))) (x1:((List (Int × (Int × Int))) × ((List (Int × (Int × (Int × (Int × (Int × ByteArray)))))) × (List (Int × Int))))):Option Bool:=(f33 k x0.1 x1.1).bind fun r1 => (if (!r1) then (some false) else ((f34 k x0.2.1 x1.2.1).bind fun r2 => (if (!r2) then (some false) else ((f35 k x0.2.2 x1.2.2).bind fun r3 => (if (!r3) then (some false) else (some true))))))
theorem c12 (k:Nat) (x0:tG) (x1:tG) (r:Bool) (hF:f12 k x0 x1=some r):PCall Try.prog 12 [⟨sh17,x0⟩,⟨sh17,x1⟩] [⟨.bool,r⟩]:=by
 refine pcall_intro Try.func12 rfl rfl (Nat.le_of_ble_eq_true rfl) ?_
 intro w0 Zi a w h
 rw [f12] at hF
 refine zs [2,3] h an fun a w h => ?_
 refine wp_seq ?_
 obtain ⟨r1,hr6,hF⟩:=of_bind hF
 refine zc (orcL [(9,[⟨.bool,r1⟩])]) [2,3,10] h (ac (c33 k x0.1 x1.1 r1 hr6) an) fun a w h => ?_
 refine zi h hF (fun hF => ?_) (fun hF => ?_)
 ·refine zs [4] h an fun a w h => ?_
  cases hF
  exact wp_ret (ret_okR tok h rfl (by kernel_rfl)).1
 ·refine wp_skip ?_
  refine wp_seq ?_
  obtain ⟨r2,hr5,hF⟩:=of_bind hF
  refine zc (orcL [(15,[⟨.bool,r2⟩])]) [2,3,16] h (ac (c34 k x0.2.1 x1.2.1 r2 hr5) an) fun a w h => ?_
  refine zi h hF (fun hF => ?_) (fun hF => ?_)
  ·refine zs [4] h an fun a w h => ?_
   cases hF
   exact wp_ret (ret_okR tok h rfl (by kernel_rfl)).1
  ·refine wp_skip ?_
   refine wp_seq ?_
   obtain ⟨r3,hr4,hF⟩:=of_bind hF
   refine zc (orcL [(21,[⟨.bool,r3⟩])]) [22] h (ac (c35 k x0.2.2 x1.2.2 r3 hr4) an) fun a w h => ?_
   refine zi h hF (fun hF => ?_) (fun hF => ?_)
   ·refine zs [4] h an fun a w h => ?_
    cases hF
    exact wp_ret (ret_okR tok h rfl (by kernel_rfl)).1
   ·refine wp_skip ?_
    refine zs [4] h an fun a w h => ?_
    cases hF
    exact wp_ret (ret_okR tok h rfl (by kernel_rfl)).1
def f56 (k:Nat) (x0:(Int × (Int × (Int × (Int × Int))))) (x1:(Int × (Int × (Int × (Int × Int))))):Option Bool:=if (x0.1 != x1.1) then (some false) else (if (x0.2.1 != x1.2.1) then (some false) else (if (x0.2.2.1 != x1.2.2.1) then (some false) else (if (x0.2.2.2.1 != x1.2.2.2.1) then (some false) else (if (x0.2.2.2.2 != x1.2.2.2.2) then (some false) else (some true)))))
theorem c56 (k:Nat) (x0:(Int × (Int × (Int × (Int × Int))))) (x1:(Int × (Int × (Int × (Int × Int))))) (r:Bool) (hF:f56 k x0 x1=some r):PCall Try.prog 56 [⟨sh13,x0⟩,⟨sh13,x1⟩] [⟨.bool,r⟩]:=by
 refine pcall_intro Try.func56 rfl rfl (Nat.le_of_ble_eq_true rfl) ?_
 intro w0 Zi a w h
 rw [f56] at hF
 refine zs [2,3] h an fun a w h => ?_
 refine wp_seq ?_
 refine zs [2,3,9] h an fun a w h => ?_
 refine zi h hF (fun hF => ?_) (fun hF => ?_)
 ·refine zs [4] h an fun a w h => ?_
  cases hF
  exact wp_ret (ret_okR tok h rfl (by kernel_rfl)).1
 ·refine wp_skip ?_
  refine wp_seq ?_
  refine zs [2,3,14] h an fun a w h => ?_
  refine zi h hF (fun hF => ?_) (fun hF => ?_)
  ·refine zs [4] h an fun a w h => ?_
   cases hF
   exact wp_ret (ret_okR tok h rfl (by kernel_rfl)).1
  ·refine wp_skip ?_
   refine wp_seq ?_
   refine zs [2,3,19] h an fun a w h => ?_
   refine zi h hF (fun hF => ?_) (fun hF => ?_)
   ·refine zs [4] h an fun a w h => ?_
    cases hF
    exact wp_ret (ret_okR tok h rfl (by kernel_rfl)).1
   ·refine wp_skip ?_
    refine wp_seq ?_
    refine zs [2,3,24] h an fun a w h => ?_
    refine zi h hF (fun hF => ?_) (fun hF => ?_)
    ·refine zs [4] h an fun a w h => ?_
     cases hF
     exact wp_ret (ret_okR tok h rfl (by kernel_rfl)).1
    ·refine wp_skip ?_
     refine wp_seq ?_
     refine zs [29] h an fun a w h => ?_
     refine zi h hF (fun hF => ?_) (fun hF => ?_)
     ·refine zs [4] h an fun a w h => ?_
      cases hF
      exact wp_ret (ret_okR tok h rfl (by kernel_rfl)).1
     ·refine wp_skip ?_
      refine zs [4] h an fun a w h => ?_
      cases hF
      exact wp_ret (ret_okR tok h rfl (by kernel_rfl)).1
def f36.l30 (k:Nat) (x0:(List (Int × (Int × (Int × (Int × Int)))))) (x1:(List (Int × (Int × (Int × (Int × Int)))))):Nat→Int→Option Bool
 | 0,_ => none
 | m30+1,v50 => if (decide (v50 < (List.length x0:Int))) then (if (0≤v50∧v50 < (List.length x0:Int)) then (if (0≤v50∧v50 < (List.length x1:Int)) then ((f56 k (List.getD x0 (Int.toNat v50) ((0:Int),((0:Int),((0:Int),((0:Int),(0:Int)))))) (List.getD x1 (Int.toNat v50) ((0:Int),((0:Int),((0:Int),((0:Int),(0:Int))))))).bind fun r55 => (if (!r55) then (some false) else ((f36.l30 k x0 x1) m30 (IntKind.i64.wrap (v50 + (1:Int)))))) else none) else none) else (some true)
def f36 (k:Nat) (x0:(List (Int × (Int × (Int × (Int × Int)))))) (x1:(List (Int × (Int × (Int × (Int × Int)))))):Option Bool:=if (((List.length x0:Int):Int) != (List.length x1:Int)) then (some false) else (f36.l30 k x0 x1 k (0:Int))
theorem c36 (k:Nat) (x0:(List (Int × (Int × (Int × (Int × Int)))))) (x1:(List (Int × (Int × (Int × (Int × Int)))))) (r:Bool) (hF:f36 k x0 x1=some r):PCall Try.prog 36 [⟨sh29,x0⟩,⟨sh29,x1⟩] [⟨.bool,r⟩]:=by
 refine pcall_intro Try.func36 rfl rfl (Nat.le_of_ble_eq_true rfl) ?_
 intro w0 Zi a w h
 rw [f36] at hF
 refine zs [0,1] h an fun a w h => ?_
 refine wp_seq ?_
 refine zs [0,1,10] h an fun a w h => ?_
 refine zi h hF (fun hF => ?_) (fun hF => ?_)
 ·refine zs [4] h an fun a w h => ?_
  cases hF
  exact wp_ret (ret_okR tok h rfl (by kernel_rfl)).1
 ·refine wp_skip ?_
  refine wp_seq ?_
  refine zs [0,1,5] h an fun a w h => ?_
  refine wp_block ?_
  refine wp_loop_fuel (f36.l30 k x0 x1) (fun v50 => [(0,.val sh29 x0),(1,.val sh29 x1),(5,.val iS v50)]) (fun v h => by rw [f36.l30] at h; cases h) ?_ hF (ar h [0,1,5])
  intro m30 v50 a w hF h
  rw [f36.l30] at hF
  refine wp_seq ?_
  refine zs [0,1,5,14] h an fun a w h => ?_
  refine zi h hF (fun hF => ?_) (fun hF => ?_)
  ·refine wp_skip ?_
   refine wp_seq <| wp_block ?_
   obtain ⟨hc56,hF⟩:=of_if hF
   obtain ⟨hc57,hF⟩:=of_if hF
   obtain ⟨r55,hr58,hF⟩:=of_bind hF
   refine wp_regy_seq tok (orc:=orcL [(25,[⟨.bool,r55⟩])]) (l:=[0,1,5,26]) ([],[],[],[]) 10 nw h (by kernel_rfl) (by kernel_rfl) (ac hc56 (ac hc57 (ac (c56 k (gD x0 (tZ v50) (iO,(iO,(iO,(iO,iO))))) (gD x1 (tZ v50) (iO,(iO,(iO,(iO,iO))))) r55 hr58) an))) fun a w h => ?_
   refine zi h hF (fun hF => ?_) (fun hF => ?_)
   ·refine zs [4] h an fun a w h => ?_
    cases hF
    exact wp_ret (ret_okR tok h rfl (by kernel_rfl)).1
   ·refine wp_skip ?_
    refine zt [0,1,5] h an fun a w h => ?_
    exact ⟨(w64 (v50 + (1:Int))),hF,ar h [0,1,5]⟩
  ·refine wp_exit ?_
   refine zs [4] h an fun a w h => ?_
   cases hF
   exact wp_ret (ret_okR tok h rfl (by kernel_rfl)).1
def f13 (k:Nat) (x0:(Int × (Int × (Int × (Int × (List (Int × (Int × (Int × (Int × Int)))))))))) (x1:(Int × (Int × (Int × (Int × (List (Int × (Int × (Int × (Int × Int)))))))))):Option Bool:=if (x0.1 != x1.1) then (some false) else (if (x0.2.1 != x1.2.1) then (some false) else (if (x0.2.2.1 != x1.2.2.1) then (some false) else (if (x0.2.2.2.1 != x1.2.2.2.1) then (some false) else ((f36 k x0.2.2.2.2 x1.2.2.2.2).bind fun r1 => (if (!r1) then (some false) else (some true))))))
theorem c13 (k:Nat) (x0:(Int × (Int × (Int × (Int × (List (Int × (Int × (Int × (Int × Int)))))))))) (x1:(Int × (Int × (Int × (Int × (List (Int × (Int × (Int × (Int × Int)))))))))) (r:Bool) (hF:f13 k x0 x1=some r):PCall Try.prog 13 [⟨sh19,x0⟩,⟨sh19,x1⟩] [⟨.bool,r⟩]:=by
 refine pcall_intro Try.func13 rfl rfl (Nat.le_of_ble_eq_true rfl) ?_
 intro w0 Zi a w h
 rw [f13] at hF
 refine zs [2,3] h an fun a w h => ?_
 refine wp_seq ?_
 refine zs [2,3,9] h an fun a w h => ?_
 refine zi h hF (fun hF => ?_) (fun hF => ?_)
 ·refine zs [4] h an fun a w h => ?_
  cases hF
  exact wp_ret (ret_okR tok h rfl (by kernel_rfl)).1
 ·refine wp_skip ?_
  refine wp_seq ?_
  refine zs [2,3,14] h an fun a w h => ?_
  refine zi h hF (fun hF => ?_) (fun hF => ?_)
  ·refine zs [4] h an fun a w h => ?_
   cases hF
   exact wp_ret (ret_okR tok h rfl (by kernel_rfl)).1
  ·refine wp_skip ?_
   refine wp_seq ?_
   refine zs [2,3,19] h an fun a w h => ?_
   refine zi h hF (fun hF => ?_) (fun hF => ?_)
   ·refine zs [4] h an fun a w h => ?_
    cases hF
    exact wp_ret (ret_okR tok h rfl (by kernel_rfl)).1
   ·refine wp_skip ?_
    refine wp_seq ?_
    refine zs [2,3,24] h an fun a w h => ?_
    refine zi h hF (fun hF => ?_) (fun hF => ?_)
    ·refine zs [4] h an fun a w h => ?_
     cases hF
     exact wp_ret (ret_okR tok h rfl (by kernel_rfl)).1
    ·refine wp_skip ?_
     refine wp_seq ?_
     obtain ⟨r1,hr2,hF⟩:=of_bind hF
     refine zc (orcL [(29,[⟨.bool,r1⟩])]) [30] h (ac (c36 k x0.2.2.2.2 x1.2.2.2.2 r1 hr2) an) fun a w h => ?_
     refine zi h hF (fun hF => ?_) (fun hF => ?_)
     ·refine zs [4] h an fun a w h => ?_
      cases hF
      exact wp_ret (ret_okR tok h rfl (by kernel_rfl)).1
     ·refine wp_skip ?_
      refine zs [4] h an fun a w h => ?_
      cases hF
      exact wp_ret (ret_okR tok h rfl (by kernel_rfl)).1
def f14.l18 (k:Nat) (x0:(List Int)) (x1:(List Int)):Nat→Int→Option Bool
 | 0,_ => none
 | m18+1,v30 => if (decide (v30 < (List.length x0:Int))) then (if (0≤v30∧v30 < (List.length x0:Int)) then (if (0≤v30∧v30 < (List.length x1:Int)) then (if (((List.getD x0 (Int.toNat v30) (0:Int)):Int) != (List.getD x1 (Int.toNat v30) (0:Int))) then (some false) else ((f14.l18 k x0 x1) m18 (IntKind.i64.wrap (v30 + (1:Int))))) else none) else none) else (some true)
def f14 (k:Nat) (x0:(List Int)) (x1:(List Int)):Option Bool:=if (((List.length x0:Int):Int) != (List.length x1:Int)) then (some false) else (f14.l18 k x0 x1 k (0:Int))
theorem c14 (k:Nat) (x0:(List Int)) (x1:(List Int)) (r:Bool) (hF:f14 k x0 x1=some r):PCall Try.prog 14 [⟨(.sl false 2 iS),x0⟩,⟨(.sl false 2 iS),x1⟩] [⟨.bool,r⟩]:=by
 refine pcall_intro Try.func14 rfl rfl (Nat.le_of_ble_eq_true rfl) ?_
 intro w0 Zi a w h
 rw [f14] at hF
 refine zs [0,1] h an fun a w h => ?_
 refine wp_seq ?_
 refine zs [0,1,10] h an fun a w h => ?_
 refine zi h hF (fun hF => ?_) (fun hF => ?_)
 ·refine zs [4] h an fun a w h => ?_
  cases hF
  exact wp_ret (ret_okR tok h rfl (by kernel_rfl)).1
 ·refine wp_skip ?_
  refine wp_seq ?_
  refine zs [0,1,5] h an fun a w h => ?_
  refine wp_block ?_
  refine wp_loop_fuel (f14.l18 k x0 x1) (fun v30 => [(0,.val (.sl false 2 iS) x0),(1,.val (.sl false 2 iS) x1),(5,.val iS v30)]) (fun v h => by rw [f14.l18] at h; cases h) ?_ hF (ar h [0,1,5])
  intro m18 v30 a w hF h
  rw [f14.l18] at hF
  refine wp_seq ?_
  refine zs [0,1,5,14] h an fun a w h => ?_
  refine zi h hF (fun hF => ?_) (fun hF => ?_)
  ·refine wp_skip ?_
   refine wp_seq <| wp_block ?_
   obtain ⟨hc33,hF⟩:=of_if hF
   obtain ⟨hc34,hF⟩:=of_if hF
   refine wp_regy_seq tok (orc:=o0) (l:=[0,1,5,25]) ([],[],[],[]) 9 nw h (by kernel_rfl) (by kernel_rfl) (ac hc33 (ac hc34 an)) fun a w h => ?_
   refine zi h hF (fun hF => ?_) (fun hF => ?_)
   ·refine zs [4] h an fun a w h => ?_
    cases hF
    exact wp_ret (ret_okR tok h rfl (by kernel_rfl)).1
   ·refine wp_skip ?_
    refine zt [0,1,5] h an fun a w h => ?_
    exact ⟨(w64 (v30 + (1:Int))),hF,ar h [0,1,5]⟩
  ·refine wp_exit ?_
   refine zs [4] h an fun a w h => ?_
   cases hF
   exact wp_ret (ret_okR tok h rfl (by kernel_rfl)).1
def f3 (k:Nat) (x0:((List (Int × (Int × Int))) × ((List (Int × (Int × (Int × (Int × (Int × ByteArray)))))) × (List (Int × Int))))) (x1:(Int × (Int × (Int × (Int × (List (Int × (Int × (Int × (Int × Int)))))))))) (x2:(List Int)):Option Bool:=if (decide (((List.length x2:Int):Int) > (1048576:Int))) then (some true) else ((f5 k x0 (1048576:Int)).bind fun r1 => (if (decide (r1 < (0:Int))) then (some true) else ((f6 k x1 r1).bind fun r2 => (if (decide (r2 < (0:Int))) then (some true) else ((f8 k x0).bind fun r3 => ((f9 k x1).bind fun r4 => ((f10 k x2).bind fun r5 => ((f7 k r3 r4 r5).bind fun r6 => ((f8 k x0).bind fun r7 => ((f9 k x1).bind fun r8 => ((f10 k x2).bind fun r9 => ((f11 k r7 r8 r9).bind fun r10 => (if (r10 != r6) then (some false) else ((f8 k x0).bind fun r11 => ((f12 k r7 r11).bind fun r12 => (if (!r12) then (some false) else ((f9 k x1).bind fun r13 => ((f13 k r8 r13).bind fun r14 => (if (!r14) then (some false) else ((f10 k x2).bind fun r15 => ((f14 k r9 r15).bind fun r16 => (if (!r16) then (some false) else (some true)))))))))))))))))))))))
theorem c3 (k:Nat) (x0:tG) (x1:(Int × (Int × (Int × (Int × (List (Int × (Int × (Int × (Int × Int)))))))))) (x2:(List Int)) (r:Bool) (hF:f3 k x0 x1 x2=some r):PCall Try.prog 3 [⟨sh4,x0⟩,⟨sh6,x1⟩,⟨(.sl false 2 iS),x2⟩] [⟨.bool,r⟩]:=by
 refine pcall_intro Try.func3 rfl rfl (Nat.le_of_ble_eq_true rfl) ?_
 intro w0 Zi a w h
 rw [f3] at hF
 refine zs [2,3,4] h an fun a w h => ?_
 refine wp_seq ?_
 refine zs [2,3,4,15] h an fun a w h => ?_
 refine zi h hF (fun hF => ?_) (fun hF => ?_)
 ·refine zs [6] h an fun a w h => ?_
  cases hF
  exact wp_ret (ret_okR tok h rfl (by kernel_rfl)).1
 ·refine wp_skip ?_
  refine zs [2,3,4,7] h an fun a w h => ?_
  obtain ⟨r1,hr32,hF⟩:=of_bind hF
  refine zc (orcL [(18,[⟨iS,r1⟩])]) [2,3,4,7] h (ac (c5 k x0 (1048576:Int) r1 hr32) an) fun a w h => ?_
  refine wp_seq ?_
  refine zs [2,3,4,7,20] h an fun a w h => ?_
  refine zi h hF (fun hF => ?_) (fun hF => ?_)
  ·refine zs [6] h an fun a w h => ?_
   cases hF
   exact wp_ret (ret_okR tok h rfl (by kernel_rfl)).1
  ·refine wp_skip ?_
   obtain ⟨r2,hr31,hF⟩:=of_bind hF
   refine zc (orcL [(23,[⟨iS,r2⟩])]) [2,3,4,7] h (ac (c6 k x1 r1 r2 hr31) an) fun a w h => ?_
   refine wp_seq ?_
   refine zs [2,3,4,25] h an fun a w h => ?_
   refine zi h hF (fun hF => ?_) (fun hF => ?_)
   ·refine zs [6] h an fun a w h => ?_
    cases hF
    exact wp_ret (ret_okR tok h rfl (by kernel_rfl)).1
   ·refine wp_skip ?_
    obtain ⟨r3,hr27,hF⟩:=of_bind hF
    obtain ⟨r4,hr28,hF⟩:=of_bind hF
    obtain ⟨r5,hr29,hF⟩:=of_bind hF
    obtain ⟨r6,hr30,hF⟩:=of_bind hF
    refine wp_regy_seq tok (orc:=orcL [(27,[⟨sh12,r3⟩]),(29,[⟨sh15,r4⟩]),(31,[⟨(.sl true 2 iS),r5⟩]),(32,[⟨iS,r6⟩])]) (l:=[2,3,4,8]) ([],[],[],[]) 8 nw h (by kernel_rfl) (by kernel_rfl) (ac (c8 k x0 r3 hr27) (ac (c9 k x1 r4 hr28) (ac (c10 k x2 r5 hr29) (ac (c7 k r3 r4 r5 r6 hr30) an)))) fun a w h => ?_
    obtain ⟨r7,hr26,hF⟩:=of_bind hF
    refine zc (orcL [(34,[⟨sh12,r7⟩])]) [2,3,4,8,9] h (ac (c8 k x0 r7 hr26) an) fun a w h => ?_
    obtain ⟨r8,hr25,hF⟩:=of_bind hF
    refine zc (orcL [(36,[⟨sh15,r8⟩])]) [2,3,4,8,9,10] h (ac (c9 k x1 r8 hr25) an) fun a w h => ?_
    obtain ⟨r9,hr24,hF⟩:=of_bind hF
    refine zc (orcL [(38,[⟨(.sl true 2 iS),r9⟩])]) [2,3,4,8,9,10,11] h (ac (c10 k x2 r9 hr24) an) fun a w h => ?_
    obtain ⟨r10,hr23,hF⟩:=of_bind hF
    refine zc (orcL [(42,[⟨iS,r10⟩])]) [2,3,4,8,9,10,11,12] h (ac (c11 k r7 r8 r9 r10 hr23) an) fun a w h => ?_
    refine wp_seq ?_
    refine zs [2,3,4,9,10,11,45] h an fun a w h => ?_
    refine zi h hF (fun hF => ?_) (fun hF => ?_)
    ·refine zs [6] h an fun a w h => ?_
     cases hF
     exact wp_ret (ret_okR tok h rfl (by kernel_rfl)).1
    ·refine wp_skip ?_
     refine wp_seq ?_
     obtain ⟨r11,hr21,hF⟩:=of_bind hF
     obtain ⟨r12,hr22,hF⟩:=of_bind hF
     refine wp_regy_seq tok (orc:=orcL [(48,[⟨sh12,r11⟩]),(49,[⟨.bool,r12⟩])]) (l:=[2,4,10,11,50]) ([],[],[],[]) 5 nw h (by kernel_rfl) (by kernel_rfl) (ac (c8 k x0 r11 hr21) (ac (c12 k r7 r11 r12 hr22) an)) fun a w h => ?_
     refine zi h hF (fun hF => ?_) (fun hF => ?_)
     ·refine zs [6] h an fun a w h => ?_
      cases hF
      exact wp_ret (ret_okR tok h rfl (by kernel_rfl)).1
     ·refine wp_skip ?_
      refine wp_seq ?_
      obtain ⟨r13,hr19,hF⟩:=of_bind hF
      obtain ⟨r14,hr20,hF⟩:=of_bind hF
      refine wp_regy_seq tok (orc:=orcL [(53,[⟨sh15,r13⟩]),(54,[⟨.bool,r14⟩])]) (l:=[2,11,55]) ([],[],[],[]) 5 nw h (by kernel_rfl) (by kernel_rfl) (ac (c9 k x1 r13 hr19) (ac (c13 k r8 r13 r14 hr20) an)) fun a w h => ?_
      refine zi h hF (fun hF => ?_) (fun hF => ?_)
      ·refine zs [6] h an fun a w h => ?_
       cases hF
       exact wp_ret (ret_okR tok h rfl (by kernel_rfl)).1
      ·refine wp_skip ?_
       refine wp_seq ?_
       obtain ⟨r15,hr17,hF⟩:=of_bind hF
       obtain ⟨r16,hr18,hF⟩:=of_bind hF
       refine zc (orcL [(58,[⟨(.sl true 2 iS),r15⟩]),(59,[⟨.bool,r16⟩])]) [60] h (ac (c10 k x2 r15 hr17) (ac (c14 k r9 r15 r16 hr18) an)) fun a w h => ?_
       refine zi h hF (fun hF => ?_) (fun hF => ?_)
       ·refine zs [6] h an fun a w h => ?_
        cases hF
        exact wp_ret (ret_okR tok h rfl (by kernel_rfl)).1
       ·refine wp_skip ?_
        refine zs [6] h an fun a w h => ?_
        cases hF
        exact wp_ret (ret_okR tok h rfl (by kernel_rfl)).1
end Go.Proofs.Ytajigednlopmjaa.V
