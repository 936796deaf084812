/-
  THE CONTRACTS OF SOME FUNCTIONS OF THIS SEAT, PRINTED BY A PROGRAM OF THIS PROJECT (wip/gen/vgen.py).
-/
import Derived.Test.YtjfledckleeoaaaProg
import Derived.Test.YtjfledckleeoaaaVmW
import Derived.Test.YtjfledckleeoaaaVmZ
import Derived.KernelRfl
import Derived.Test.YtjfledckleeoaaaR2lA
set_option linter.unusedVariables false
open Go Go.Vm Go.Proofs
namespace Go.Proofs.Ytjfledckleeoaaa.V
def f63.j256 (k : Nat) (v247 : Int) (q209 : Int → Option Bool) : Unit → Option Bool
  | _ => q209 (IntKind.i64.wrap (v247 + (1 : Int)))
def f63.l209 (k : Nat) (x0 : ((List (Int × (Int × Int))) × ((List (Int × (Int × (Int × (Int × (Int × ByteArray)))))) × (List (Int × Int))))) : Nat → Int → Option Bool
  | 0, _ => none
  | m209 + 1, v247 => if (decide ((v247 : Int) < (List.length x0.2.2 : Int))) then (if (0 ≤ v247 ∧ v247 < (List.length x0.2.2 : Int)) then (if (((bif (bif (bif (decide (((List.getD x0.2.2 (Int.toNat v247) ((0 : Int), (0 : Int))).1 : Int) < (0 : Int))) then true else (decide (((List.getD x0.2.2 (Int.toNat v247) ((0 : Int), (0 : Int))).1 : Int) ≥ (List.length x0.2.1 : Int)))) then true else (decide (((List.getD x0.2.2 (Int.toNat v247) ((0 : Int), (0 : Int))).2 : Int) < (0 : Int)))) then true else (decide (((List.getD x0.2.2 (Int.toNat v247) ((0 : Int), (0 : Int))).2 : Int) ≥ (List.length x0.2.1 : Int)))) = false) → (0 ≤ (List.getD x0.2.2 (Int.toNat v247) ((0 : Int), (0 : Int))).1 ∧ (List.getD x0.2.2 (Int.toNat v247) ((0 : Int), (0 : Int))).1 < (List.length x0.2.1 : Int))) then (if (((bif (bif (bif (decide (((List.getD x0.2.2 (Int.toNat v247) ((0 : Int), (0 : Int))).1 : Int) < (0 : Int))) then true else (decide (((List.getD x0.2.2 (Int.toNat v247) ((0 : Int), (0 : Int))).1 : Int) ≥ (List.length x0.2.1 : Int)))) then true else (decide (((List.getD x0.2.2 (Int.toNat v247) ((0 : Int), (0 : Int))).2 : Int) < (0 : Int)))) then true else (decide (((List.getD x0.2.2 (Int.toNat v247) ((0 : Int), (0 : Int))).2 : Int) ≥ (List.length x0.2.1 : Int)))) = false) → (0 ≤ (List.getD x0.2.2 (Int.toNat v247) ((0 : Int), (0 : Int))).2 ∧ (List.getD x0.2.2 (Int.toNat v247) ((0 : Int), (0 : Int))).2 < (List.length x0.2.1 : Int))) then ((some ((bif (bif (bif (bif (decide (((List.getD x0.2.2 (Int.toNat v247) ((0 : Int), (0 : Int))).1 : Int) < (0 : Int))) then true else (decide (((List.getD x0.2.2 (Int.toNat v247) ((0 : Int), (0 : Int))).1 : Int) ≥ (List.length x0.2.1 : Int)))) then true else (decide (((List.getD x0.2.2 (Int.toNat v247) ((0 : Int), (0 : Int))).2 : Int) < (0 : Int)))) then true else (decide (((List.getD x0.2.2 (Int.toNat v247) ((0 : Int), (0 : Int))).2 : Int) ≥ (List.length x0.2.1 : Int)))) then true else (((List.getD x0.2.1 (Int.toNat (List.getD x0.2.2 (Int.toNat v247) ((0 : Int), (0 : Int))).1) ((0 : Int), ((0 : Int), ((0 : Int), ((0 : Int), ((0 : Int), (⟨#[]⟩ : ByteArray))))))).2.1 : Int) != (List.getD x0.2.1 (Int.toNat (List.getD x0.2.2 (Int.toNat v247) ((0 : Int), (0 : Int))).2) ((0 : Int), ((0 : Int), ((0 : Int), ((0 : Int), ((0 : Int), (⟨#[]⟩ : ByteArray))))))).1)) : Bool)).bind fun v257 => (if v257 then (some false) else (if (decide ((v247 : Int) > (0 : Int))) then (if (0 ≤ (IntKind.i64.wrap (v247 - (1 : Int))) ∧ (IntKind.i64.wrap (v247 - (1 : Int))) < (List.length x0.2.2 : Int)) then ((some ((bif (decide (((List.getD x0.2.2 (Int.toNat (IntKind.i64.wrap (v247 - (1 : Int)))) ((0 : Int), (0 : Int))).1 : Int) > (List.getD x0.2.2 (Int.toNat v247) ((0 : Int), (0 : Int))).1)) then true else (bif (((List.getD x0.2.2 (Int.toNat (IntKind.i64.wrap (v247 - (1 : Int)))) ((0 : Int), (0 : Int))).1 : Int) == (List.getD x0.2.2 (Int.toNat v247) ((0 : Int), (0 : Int))).1) then (decide (((List.getD x0.2.2 (Int.toNat (IntKind.i64.wrap (v247 - (1 : Int)))) ((0 : Int), (0 : Int))).2 : Int) ≥ (List.getD x0.2.2 (Int.toNat v247) ((0 : Int), (0 : Int))).2)) else false)) : Bool)).bind fun v258 => (if v258 then (some false) else (f63.j256 k v247 ((f63.l209 k x0) m209) ()))) else none) else (f63.j256 k v247 ((f63.l209 k x0) m209) ())))) else none) else none) else none) else (some true)
def f63.l118 (k : Nat) (x0 : ((List (Int × (Int × Int))) × ((List (Int × (Int × (Int × (Int × (Int × ByteArray)))))) × (List (Int × Int))))) : Nat → Int → Option Bool
  | 0, _ => none
  | m118 + 1, v142 => if (decide ((v142 : Int) < (List.length x0.2.1 : Int))) then (if (0 ≤ v142 ∧ v142 < (List.length x0.2.1 : Int)) then ((if ((bif (bif (bif (decide (((List.getD x0.2.1 (Int.toNat v142) ((0 : Int), ((0 : Int), ((0 : Int), ((0 : Int), ((0 : Int), (⟨#[]⟩ : ByteArray))))))).1 : Int) < (0 : Int))) then true else (decide (((List.getD x0.2.1 (Int.toNat v142) ((0 : Int), ((0 : Int), ((0 : Int), ((0 : Int), ((0 : Int), (⟨#[]⟩ : ByteArray))))))).1 : Int) ≥ (List.length x0.1 : Int)))) then true else (decide (((List.getD x0.2.1 (Int.toNat v142) ((0 : Int), ((0 : Int), ((0 : Int), ((0 : Int), ((0 : Int), (⟨#[]⟩ : ByteArray))))))).2.1 : Int) < (0 : Int)))) then true else (decide (((List.getD x0.2.1 (Int.toNat v142) ((0 : Int), ((0 : Int), ((0 : Int), ((0 : Int), ((0 : Int), (⟨#[]⟩ : ByteArray))))))).2.1 : Int) ≥ (List.length x0.1 : Int)))) = false) then f108 k (List.getD x0.2.1 (Int.toNat v142) ((0 : Int), ((0 : Int), ((0 : Int), ((0 : Int), ((0 : Int), (⟨#[]⟩ : ByteArray))))))).2.2.1 else some default).bind fun r148 => ((some ((bif (bif (bif (bif (bif (bif (bif (bif (decide (((List.getD x0.2.1 (Int.toNat v142) ((0 : Int), ((0 : Int), ((0 : Int), ((0 : Int), ((0 : Int), (⟨#[]⟩ : ByteArray))))))).1 : Int) < (0 : Int))) then true else (decide (((List.getD x0.2.1 (Int.toNat v142) ((0 : Int), ((0 : Int), ((0 : Int), ((0 : Int), ((0 : Int), (⟨#[]⟩ : ByteArray))))))).1 : Int) ≥ (List.length x0.1 : Int)))) then true else (decide (((List.getD x0.2.1 (Int.toNat v142) ((0 : Int), ((0 : Int), ((0 : Int), ((0 : Int), ((0 : Int), (⟨#[]⟩ : ByteArray))))))).2.1 : Int) < (0 : Int)))) then true else (decide (((List.getD x0.2.1 (Int.toNat v142) ((0 : Int), ((0 : Int), ((0 : Int), ((0 : Int), ((0 : Int), (⟨#[]⟩ : ByteArray))))))).2.1 : Int) ≥ (List.length x0.1 : Int)))) then true else (!r148)) then true else (decide (((List.getD x0.2.1 (Int.toNat v142) ((0 : Int), ((0 : Int), ((0 : Int), ((0 : Int), ((0 : Int), (⟨#[]⟩ : ByteArray))))))).2.2.2.1 : Int) < (1 : Int)))) then true else (decide (((List.getD x0.2.1 (Int.toNat v142) ((0 : Int), ((0 : Int), ((0 : Int), ((0 : Int), ((0 : Int), (⟨#[]⟩ : ByteArray))))))).2.2.2.1 : Int) > (1000000 : Int)))) then true else (decide (((List.getD x0.2.1 (Int.toNat v142) ((0 : Int), ((0 : Int), ((0 : Int), ((0 : Int), ((0 : Int), (⟨#[]⟩ : ByteArray))))))).2.2.2.2.1 : Int) < (0 : Int)))) then true else (decide (((List.getD x0.2.1 (Int.toNat v142) ((0 : Int), ((0 : Int), ((0 : Int), ((0 : Int), ((0 : Int), (⟨#[]⟩ : ByteArray))))))).2.2.2.2.1 : Int) > (1000000000 : Int)))) : Bool)).bind fun v149 => (if v149 then (some false) else ((f63.l118 k x0) m118 (IntKind.i64.wrap (v142 + (1 : Int))))))) else none) else (f63.l209 k x0 k (0 : Int))
def f63.l42 (k : Nat) (x0 : ((List (Int × (Int × Int))) × ((List (Int × (Int × (Int × (Int × (Int × ByteArray)))))) × (List (Int × Int))))) : Nat → Int → Option Bool
  | 0, _ => none
  | m42 + 1, v70 => if (decide ((v70 : Int) < (List.length x0.1 : Int))) then (if (0 ≤ v70 ∧ v70 < (List.length x0.1 : Int)) then ((f108 k (List.getD x0.1 (Int.toNat v70) ((0 : Int), ((0 : Int), (0 : Int)))).1).bind fun r77 => ((if ((!r77) = false) then f109 k (List.getD x0.1 (Int.toNat v70) ((0 : Int), ((0 : Int), (0 : Int)))).2 else some default).bind fun r78 => (if ((((bif (!r77) then true else (!r78)) = false) ∧ ((decide ((v70 : Int) > (0 : Int))) = true)) → (0 ≤ (IntKind.i64.wrap (v70 - (1 : Int))) ∧ (IntKind.i64.wrap (v70 - (1 : Int))) < (List.length x0.1 : Int))) then (if (bif (bif (!r77) then true else (!r78)) then true else (bif (decide ((v70 : Int) > (0 : Int))) then (decide (((List.getD x0.1 (Int.toNat (IntKind.i64.wrap (v70 - (1 : Int)))) ((0 : Int), ((0 : Int), (0 : Int)))).1 : Int) ≥ (List.getD x0.1 (Int.toNat v70) ((0 : Int), ((0 : Int), (0 : Int)))).1)) else false)) then (some false) else ((f63.l42 k x0) m42 (IntKind.i64.wrap (v70 + (1 : Int))))) else none))) else none) else (f63.l118 k x0 k (0 : Int))
def f63 (k : Nat) (x0 : ((List (Int × (Int × Int))) × ((List (Int × (Int × (Int × (Int × (Int × ByteArray)))))) × (List (Int × Int))))) : Option Bool := if (bif (bif (decide (((List.length x0.1 : Int) : Int) > (5000 : Int))) then true else (decide (((List.length x0.2.1 : Int) : Int) > (8000 : Int)))) then true else (decide (((List.length x0.2.2 : Int) : Int) > (2000 : Int)))) then (some false) else (f63.l42 k x0 k (0 : Int))
set_option maxRecDepth 100000 in
/-- 'impl.GraphOk'. -/
theorem c63 (k : Nat) (x0 : ((List (Int × (Int × Int))) × ((List (Int × (Int × (Int × (Int × (Int × ByteArray)))))) × (List (Int × Int))))) (r : Bool) (hF : f63 k x0 = some r) : PCall Try.prog 63 [⟨sh12, x0⟩] [⟨.bool, r⟩] := by
  refine pcall_intro Try.func63 rfl rfl (Nat.le_of_ble_eq_true rfl) ?_
  intro w0 Zi a w h
  rw [f63] at hF
  refine wp_reg_seq tok (orc := orcL []) (fz := []) (l := [1]) (c := _) (.inr fun i h => h) h (by kernel_rfl) (AllP.nil) ?_
  intro a w h
  refine wp_seq ?_
  refine wp_reg_seq tok (orc := orcL []) (fz := []) (l := [1, 27]) (c := _) (.inr fun i h => h) h (by kernel_rfl) (AllP.nil) ?_
  intro a w h
  refine wp_if h (b := (bif (bif (decide (((List.length x0.1 : Int) : Int) > (5000 : Int))) then true else (decide (((List.length x0.2.1 : Int) : Int) > (8000 : Int)))) then true else (decide (((List.length x0.2.2 : Int) : Int) > (2000 : Int))))) (by kernel_rfl) (fun hb => ?_) (fun hb => ?_)
  · replace hF := of_t hb hF
    refine wp_reg_seq tok (orc := orcL []) (fz := []) (l := [2]) (c := _) (.inr fun i h => h) h (by kernel_rfl) (AllP.nil) ?_
    intro a w h
    cases hF
    exact wp_ret (ret_okR tok h rfl (by kernel_rfl)).1
  · replace hF := of_f hb hF
    refine wp_skip ?_
    refine wp_seq ?_
    refine wp_reg_seq tok (orc := orcL []) (fz := []) (l := [1, 29, 30, 31]) (c := _) (.inr fun i h => h) h (by kernel_rfl) (AllP.nil) ?_
    intro a w h
    refine wp_block ?_
    refine wp_loop_fuel (f63.l42 k x0) (fun (v70 : Int) => [(1, .val sh11 (some x0)), (29, .val sh15 x0.1), (30, .val (.int .i64) (List.length x0.1 : Int)), (31, .val (.int .i64) v70)]) (fun v h => by rw [f63.l42] at h; cases h) ?_ hF (h.arrive (fz := []) (l := [1, 29, 30, 31]) (.inr fun i h => h) (by kernel_rfl))
    intro m42 v70 a w hF h
    rw [f63.l42] at hF
    refine wp_reg_seq tok (orc := orcL []) (fz := []) (l := [1, 29, 30, 31, 32]) (c := _) (.inr fun i h => h) h (by kernel_rfl) (AllP.nil) ?_
    intro a w h
    refine wp_seq <| wp_if h (b := (decide ((v70 : Int) < (List.length x0.1 : Int)))) (by kernel_rfl) (fun hb => ?_) (fun hb => ?_)
    · replace hF := of_t hb hF
      refine wp_skip ?_
      refine wp_seq <| wp_block ?_
      obtain ⟨hc82, hF⟩ := of_if hF
      refine wp_reg_seq tok (orc := orcL []) (fz := []) (l := [1, 3, 4, 29, 30, 31]) (c := _) (.inr fun i h => h) h (by kernel_rfl) (AllP.cons hc82 AllP.nil) ?_
      intro a w h
      obtain ⟨r77, hr79, hF⟩ := of_bind hF
      obtain ⟨r78, hr80, hF⟩ := of_bind hF
      obtain ⟨hc81, hF⟩ := of_if hF
      refine wp_regy_seq tok (orc := orcL [(38, [⟨.bool, r77⟩]), (43, [⟨.bool, r78⟩])]) (fz := []) (l := [1, 29, 30, 31, 61]) (c := _) ([], [], [], []) 26 (.inr fun i h => h) h (by kernel_rfl) (by kernel_rfl) (AllP.cons (c108 k (List.getD x0.1 (Int.toNat v70) ((0 : Int), ((0 : Int), (0 : Int)))).1 r77 hr79) (AllP.cons (fun (hg : ((!r77) = false)) => c109 k (List.getD x0.1 (Int.toNat v70) ((0 : Int), ((0 : Int), (0 : Int)))).2 r78 (of_g hg hr80)) (AllP.cons hc81 AllP.nil))) ?_
      intro a w h
      refine wp_if h (b := (bif (bif (!r77) then true else (!r78)) then true else (bif (decide ((v70 : Int) > (0 : Int))) then (decide (((List.getD x0.1 (Int.toNat (IntKind.i64.wrap (v70 - (1 : Int)))) ((0 : Int), ((0 : Int), (0 : Int)))).1 : Int) ≥ (List.getD x0.1 (Int.toNat v70) ((0 : Int), ((0 : Int), (0 : Int)))).1)) else false))) (by kernel_rfl) (fun hb => ?_) (fun hb => ?_)
      · replace hF := of_t hb hF
        refine wp_reg_seq tok (orc := orcL []) (fz := []) (l := [2]) (c := _) (.inr fun i h => h) h (by kernel_rfl) (AllP.nil) ?_
        intro a w h
        cases hF
        exact wp_ret (ret_okR tok h rfl (by kernel_rfl)).1
      · replace hF := of_f hb hF
        refine wp_skip ?_
        refine wp_reg tok (orc := orcL []) (fz := []) (l := [1, 29, 30, 31]) (c := _) (.inr fun i h => h) h (by kernel_rfl) (AllP.nil) ?_
        intro a w h
        exact ⟨(IntKind.i64.wrap (v70 + (1 : Int))), hF, h.arrive (fz := []) (l := [1, 29, 30, 31]) (.inr fun i h => h) (by kernel_rfl)⟩
    · replace hF := of_f hb hF
      refine wp_exit ?_
      refine wp_reg_seq tok (orc := orcL []) (fz := []) (l := [1, 5]) (c := _) (.inr fun i h => h) h (by kernel_rfl) (AllP.nil) ?_
      intro a w h
      refine wp_seq ?_
      refine wp_reg_seq tok (orc := orcL []) (fz := []) (l := [1, 5, 67, 68, 69]) (c := _) (.inr fun i h => h) h (by kernel_rfl) (AllP.nil) ?_
      intro a w h
      refine wp_block ?_
      refine wp_loop_fuel (f63.l118 k x0) (fun (v142 : Int) => [(1, .val sh11 (some x0)), (5, .val (.int .i64) (List.length x0.1 : Int)), (67, .val sh16 x0.2.1), (68, .val (.int .i64) (List.length x0.2.1 : Int)), (69, .val (.int .i64) v142)]) (fun v h => by rw [f63.l118] at h; cases h) ?_ hF (h.arrive (fz := []) (l := [1, 5, 67, 68, 69]) (.inr fun i h => h) (by kernel_rfl))
      intro m118 v142 a w hF h
      rw [f63.l118] at hF
      refine wp_reg_seq tok (orc := orcL []) (fz := []) (l := [1, 5, 67, 68, 69, 70]) (c := _) (.inr fun i h => h) h (by kernel_rfl) (AllP.nil) ?_
      intro a w h
      refine wp_seq <| wp_if h (b := (decide ((v142 : Int) < (List.length x0.2.1 : Int)))) (by kernel_rfl) (fun hb => ?_) (fun hb => ?_)
      · replace hF := of_t hb hF
        refine wp_skip ?_
        refine wp_seq <| wp_block ?_
        obtain ⟨hc152, hF⟩ := of_if hF
        refine wp_reg_seq tok (orc := orcL []) (fz := []) (l := [1, 5, 7, 67, 68, 69]) (c := _) (.inr fun i h => h) h (by kernel_rfl) (AllP.cons hc152 AllP.nil) ?_
        intro a w h
        obtain ⟨r148, hr151, hF⟩ := of_bind hF
        refine wp_reg_seq tok (orc := orcL [(96, [⟨.bool, r148⟩])]) (fz := []) (l := [1, 5, 67, 68, 69, 118]) (c := _) (.inr fun i h => h) h (by kernel_rfl) (AllP.cons (fun (hg : ((bif (bif (bif (decide (((List.getD x0.2.1 (Int.toNat v142) ((0 : Int), ((0 : Int), ((0 : Int), ((0 : Int), ((0 : Int), (⟨#[]⟩ : ByteArray))))))).1 : Int) < (0 : Int))) then true else (decide (((List.getD x0.2.1 (Int.toNat v142) ((0 : Int), ((0 : Int), ((0 : Int), ((0 : Int), ((0 : Int), (⟨#[]⟩ : ByteArray))))))).1 : Int) ≥ (List.length x0.1 : Int)))) then true else (decide (((List.getD x0.2.1 (Int.toNat v142) ((0 : Int), ((0 : Int), ((0 : Int), ((0 : Int), ((0 : Int), (⟨#[]⟩ : ByteArray))))))).2.1 : Int) < (0 : Int)))) then true else (decide (((List.getD x0.2.1 (Int.toNat v142) ((0 : Int), ((0 : Int), ((0 : Int), ((0 : Int), ((0 : Int), (⟨#[]⟩ : ByteArray))))))).2.1 : Int) ≥ (List.length x0.1 : Int)))) = false)) => c108 k (List.getD x0.2.1 (Int.toNat v142) ((0 : Int), ((0 : Int), ((0 : Int), ((0 : Int), ((0 : Int), (⟨#[]⟩ : ByteArray))))))).2.2.1 r148 (of_g hg hr151)) AllP.nil) ?_
        intro a w h
        obtain ⟨v149, hv150, hF⟩ := of_bind hF
        replace h := h.cast (S' := [(1, .val sh11 (some x0)), (5, .val (.int .i64) (List.length x0.1 : Int)), (67, .val sh16 x0.2.1), (68, .val (.int .i64) (List.length x0.2.1 : Int)), (69, .val (.int .i64) v142), (118, .val .bool v149)]) (by cases hv150; kernel_rfl)
        refine wp_if h (b := v149) (by kernel_rfl) (fun hb => ?_) (fun hb => ?_)
        · replace hF := of_t hb hF
          refine wp_reg_seq tok (orc := orcL []) (fz := []) (l := [2]) (c := _) (.inr fun i h => h) h (by kernel_rfl) (AllP.nil) ?_
          intro a w h
          cases hF
          exact wp_ret (ret_okR tok h rfl (by kernel_rfl)).1
        · replace hF := of_f hb hF
          refine wp_skip ?_
          refine wp_reg tok (orc := orcL []) (fz := []) (l := [1, 5, 67, 68, 69]) (c := _) (.inr fun i h => h) h (by kernel_rfl) (AllP.nil) ?_
          intro a w h
          exact ⟨(IntKind.i64.wrap (v142 + (1 : Int))), hF, h.arrive (fz := []) (l := [1, 5, 67, 68, 69]) (.inr fun i h => h) (by kernel_rfl)⟩
      · replace hF := of_f hb hF
        refine wp_exit ?_
        refine wp_reg_seq tok (orc := orcL []) (fz := []) (l := [1, 8]) (c := _) (.inr fun i h => h) h (by kernel_rfl) (AllP.nil) ?_
        intro a w h
        refine wp_seq ?_
        refine wp_reg_seq tok (orc := orcL []) (fz := []) (l := [1, 8, 124, 125, 126]) (c := _) (.inr fun i h => h) h (by kernel_rfl) (AllP.nil) ?_
        intro a w h
        refine wp_block ?_
        refine wp_loop_fuel (f63.l209 k x0) (fun (v247 : Int) => [(1, .val sh11 (some x0)), (8, .val (.int .i64) (List.length x0.2.1 : Int)), (124, .val sh17 x0.2.2), (125, .val (.int .i64) (List.length x0.2.2 : Int)), (126, .val (.int .i64) v247)]) (fun v h => by rw [f63.l209] at h; cases h) ?_ hF (h.arrive (fz := []) (l := [1, 8, 124, 125, 126]) (.inr fun i h => h) (by kernel_rfl))
        intro m209 v247 a w hF h
        rw [f63.l209] at hF
        refine wp_reg_seq tok (orc := orcL []) (fz := []) (l := [1, 8, 124, 125, 126, 127]) (c := _) (.inr fun i h => h) h (by kernel_rfl) (AllP.nil) ?_
        intro a w h
        refine wp_seq <| wp_if h (b := (decide ((v247 : Int) < (List.length x0.2.2 : Int)))) (by kernel_rfl) (fun hb => ?_) (fun hb => ?_)
        · replace hF := of_t hb hF
          refine wp_skip ?_
          refine wp_mid (fun a w => ∃ v : Unit, f63.j256 k v247 ((f63.l209 k x0) m209) v = some r ∧ Rel w0 (fun _ => False) Zi Try.f63.ntmps ((fun (_ : Unit) => ([(1, .val sh11 (some x0)), (8, .val (.int .i64) (List.length x0.2.1 : Int)), (124, .val sh17 x0.2.2), (125, .val (.int .i64) (List.length x0.2.2 : Int)), (126, .val (.int .i64) v247)] : SS)) v) a w) ?_ ?_
          ·
            refine wp_block ?_
            obtain ⟨hc264, hF⟩ := of_if hF
            refine wp_reg_seq tok (orc := orcL []) (fz := []) (l := [1, 8, 9, 10, 124, 125, 126]) (c := _) (.inr fun i h => h) h (by kernel_rfl) (AllP.cons hc264 AllP.nil) ?_
            intro a w h
            refine wp_seq ?_
            obtain ⟨hc262, hF⟩ := of_if hF
            obtain ⟨hc263, hF⟩ := of_if hF
            refine wp_regy_seq tok (orc := orcL []) (fz := []) (l := [1, 8, 9, 10, 124, 125, 126, 167]) (c := _) ([], [], [], []) 37 (.inr fun i h => h) h (by kernel_rfl) (by kernel_rfl) (AllP.cons hc262 (AllP.cons hc263 AllP.nil)) ?_
            intro a w h
            obtain ⟨v257, hv261, hF⟩ := of_bind hF
            replace h := h.cast (S' := [(1, .val sh11 (some x0)), (8, .val (.int .i64) (List.length x0.2.1 : Int)), (9, .val (.int .i64) v247), (10, .val sh14 (some (List.getD x0.2.2 (Int.toNat v247) ((0 : Int), (0 : Int))))), (124, .val sh17 x0.2.2), (125, .val (.int .i64) (List.length x0.2.2 : Int)), (126, .val (.int .i64) v247), (167, .val .bool v257)]) (by cases hv261; kernel_rfl)
            refine wp_if h (b := v257) (by kernel_rfl) (fun hb => ?_) (fun hb => ?_)
            · replace hF := of_t hb hF
              refine wp_reg_seq tok (orc := orcL []) (fz := []) (l := [2]) (c := _) (.inr fun i h => h) h (by kernel_rfl) (AllP.nil) ?_
              intro a w h
              cases hF
              exact wp_ret (ret_okR tok h rfl (by kernel_rfl)).1
            · replace hF := of_f hb hF
              refine wp_skip ?_
              refine wp_reg_seq tok (orc := orcL []) (fz := []) (l := [1, 8, 9, 10, 124, 125, 126, 169]) (c := _) (.inr fun i h => h) h (by kernel_rfl) (AllP.nil) ?_
              intro a w h
              refine wp_if h (b := (decide ((v247 : Int) > (0 : Int)))) (by kernel_rfl) (fun hb => ?_) (fun hb => ?_)
              · replace hF := of_t hb hF
                obtain ⟨hc260, hF⟩ := of_if hF
                refine wp_reg_seq tok (orc := orcL []) (fz := []) (l := [1, 8, 10, 11, 124, 125, 126]) (c := _) (.inr fun i h => h) h (by kernel_rfl) (AllP.cons hc260 AllP.nil) ?_
                intro a w h
                refine wp_reg_seq tok (orc := orcL []) (fz := []) (l := [1, 8, 124, 125, 126, 194]) (c := _) (.inr fun i h => h) h (by kernel_rfl) (AllP.nil) ?_
                intro a w h
                obtain ⟨v258, hv259, hF⟩ := of_bind hF
                replace h := h.cast (S' := [(1, .val sh11 (some x0)), (8, .val (.int .i64) (List.length x0.2.1 : Int)), (124, .val sh17 x0.2.2), (125, .val (.int .i64) (List.length x0.2.2 : Int)), (126, .val (.int .i64) v247), (194, .val .bool v258)]) (by cases hv259; kernel_rfl)
                refine wp_if h (b := v258) (by kernel_rfl) (fun hb => ?_) (fun hb => ?_)
                · replace hF := of_t hb hF
                  refine wp_reg_seq tok (orc := orcL []) (fz := []) (l := [2]) (c := _) (.inr fun i h => h) h (by kernel_rfl) (AllP.nil) ?_
                  intro a w h
                  cases hF
                  exact wp_ret (ret_okR tok h rfl (by kernel_rfl)).1
                · replace hF := of_f hb hF
                  refine wp_skip ?_
                  exact ⟨(), hF, h.arrive (fz := []) (l := [1, 8, 124, 125, 126]) (.inr fun i h => h) (by kernel_rfl)⟩
              · replace hF := of_f hb hF
                refine wp_skip ?_
                exact ⟨(), hF, h.arrive (fz := []) (l := [1, 8, 124, 125, 126]) (.inr fun i h => h) (by kernel_rfl)⟩
          · rintro a w ⟨v, hF, h⟩
            obtain ⟨⟩ := v
            rw [f63.j256] at hF
            refine wp_reg tok (orc := orcL []) (fz := []) (l := [1, 8, 124, 125, 126]) (c := _) (.inr fun i h => h) h (by kernel_rfl) (AllP.nil) ?_
            intro a w h
            exact ⟨(IntKind.i64.wrap (v247 + (1 : Int))), hF, h.arrive (fz := []) (l := [1, 8, 124, 125, 126]) (.inr fun i h => h) (by kernel_rfl)⟩
        · replace hF := of_f hb hF
          refine wp_exit ?_
          refine wp_reg_seq tok (orc := orcL []) (fz := []) (l := [2]) (c := _) (.inr fun i h => h) h (by kernel_rfl) (AllP.nil) ?_
          intro a w h
          cases hF
          exact wp_ret (ret_okR tok h rfl (by kernel_rfl)).1

def f64.l126 (k : Nat) (x0 : ((List (Int × (Int × Int))) × ((List (Int × (Int × (Int × (Int × (Int × ByteArray)))))) × (List (Int × Int))))) (v94 : (List (List Int))) (v95 : (List (List Int))) : Nat → ((List ((Int × Int) × Bool)) × Int) → Option (((List (Int × (Int × Int))) × ((List (Int × (Int × (Int × (Int × (Int × ByteArray)))))) × (List (Int × Int)))) × ((List (List Int)) × ((List (List Int)) × (Option (List ((Int × Int) × Bool))))))
  | 0, _ => none
  | m126 + 1, (v137, v138) => if (decide ((v138 : Int) < (List.length x0.2.2 : Int))) then (if (0 ≤ v138 ∧ v138 < (List.length x0.2.2 : Int)) then ((f64.l126 k x0 v94 v95) m126 ((mput (Sh.beq sh5) (List.getD x0.2.2 (Int.toNat v138) ((0 : Int), (0 : Int))) true v137), (IntKind.i64.wrap (v138 + (1 : Int))))) else none) else (some (x0, (v94, (v95, (some v137)))))
def f64.l56 (k : Nat) (x0 : ((List (Int × (Int × Int))) × ((List (Int × (Int × (Int × (Int × (Int × ByteArray)))))) × (List (Int × Int))))) : Nat → ((List (List Int)) × (List (List Int)) × Int) → Option (((List (Int × (Int × Int))) × ((List (Int × (Int × (Int × (Int × (Int × ByteArray)))))) × (List (Int × Int)))) × ((List (List Int)) × ((List (List Int)) × (Option (List ((Int × Int) × Bool))))))
  | 0, _ => none
  | m56 + 1, (v94, v95, v96) => if (decide ((v96 : Int) < (List.length x0.2.1 : Int))) then (if (0 ≤ v96 ∧ v96 < (List.length x0.2.1 : Int)) then (if (0 ≤ (List.getD x0.2.1 (Int.toNat v96) ((0 : Int), ((0 : Int), ((0 : Int), ((0 : Int), ((0 : Int), (⟨#[]⟩ : ByteArray))))))).1 ∧ (List.getD x0.2.1 (Int.toNat v96) ((0 : Int), ((0 : Int), ((0 : Int), ((0 : Int), ((0 : Int), (⟨#[]⟩ : ByteArray))))))).1 < (List.length v94 : Int)) then (if ((List.length (List.getD v94 (Int.toNat (List.getD x0.2.1 (Int.toNat v96) ((0 : Int), ((0 : Int), ((0 : Int), ((0 : Int), ((0 : Int), (⟨#[]⟩ : ByteArray))))))).1) ([] : (List Int))) + List.length [v96]) * 8 ≤ 140737488355328) then (if (0 ≤ (List.getD x0.2.1 (Int.toNat v96) ((0 : Int), ((0 : Int), ((0 : Int), ((0 : Int), ((0 : Int), (⟨#[]⟩ : ByteArray))))))).1 ∧ (List.getD x0.2.1 (Int.toNat v96) ((0 : Int), ((0 : Int), ((0 : Int), ((0 : Int), ((0 : Int), (⟨#[]⟩ : ByteArray))))))).1 < (List.length v94 : Int)) then (if (0 ≤ (List.getD x0.2.1 (Int.toNat v96) ((0 : Int), ((0 : Int), ((0 : Int), ((0 : Int), ((0 : Int), (⟨#[]⟩ : ByteArray))))))).2.1 ∧ (List.getD x0.2.1 (Int.toNat v96) ((0 : Int), ((0 : Int), ((0 : Int), ((0 : Int), ((0 : Int), (⟨#[]⟩ : ByteArray))))))).2.1 < (List.length v95 : Int)) then (if ((List.length (List.getD v95 (Int.toNat (List.getD x0.2.1 (Int.toNat v96) ((0 : Int), ((0 : Int), ((0 : Int), ((0 : Int), ((0 : Int), (⟨#[]⟩ : ByteArray))))))).2.1) ([] : (List Int))) + List.length [v96]) * 8 ≤ 140737488355328) then (if (0 ≤ (List.getD x0.2.1 (Int.toNat v96) ((0 : Int), ((0 : Int), ((0 : Int), ((0 : Int), ((0 : Int), (⟨#[]⟩ : ByteArray))))))).2.1 ∧ (List.getD x0.2.1 (Int.toNat v96) ((0 : Int), ((0 : Int), ((0 : Int), ((0 : Int), ((0 : Int), (⟨#[]⟩ : ByteArray))))))).2.1 < (List.length v95 : Int)) then ((f64.l56 k x0) m56 ((List.set v94 (Int.toNat (List.getD x0.2.1 (Int.toNat v96) ((0 : Int), ((0 : Int), ((0 : Int), ((0 : Int), ((0 : Int), (⟨#[]⟩ : ByteArray))))))).1) (List.append (List.getD v94 (Int.toNat (List.getD x0.2.1 (Int.toNat v96) ((0 : Int), ((0 : Int), ((0 : Int), ((0 : Int), ((0 : Int), (⟨#[]⟩ : ByteArray))))))).1) ([] : (List Int))) [v96])), (List.set v95 (Int.toNat (List.getD x0.2.1 (Int.toNat v96) ((0 : Int), ((0 : Int), ((0 : Int), ((0 : Int), ((0 : Int), (⟨#[]⟩ : ByteArray))))))).2.1) (List.append (List.getD v95 (Int.toNat (List.getD x0.2.1 (Int.toNat v96) ((0 : Int), ((0 : Int), ((0 : Int), ((0 : Int), ((0 : Int), (⟨#[]⟩ : ByteArray))))))).2.1) ([] : (List Int))) [v96])), (IntKind.i64.wrap (v96 + (1 : Int))))) else none) else none) else none) else none) else none) else none) else none) else (f64.l126 k x0 v94 v95 k (([] : (List ((Int × Int) × Bool))), (0 : Int)))
def f64 (k : Nat) (x0 : ((List (Int × (Int × Int))) × ((List (Int × (Int × (Int × (Int × (Int × ByteArray)))))) × (List (Int × Int))))) : Option (((List (Int × (Int × Int))) × ((List (Int × (Int × (Int × (Int × (Int × ByteArray)))))) × (List (Int × Int)))) × ((List (List Int)) × ((List (List Int)) × (Option (List ((Int × Int) × Bool)))))) := if (0 ≤ (List.length x0.1 : Int) ∧ Int.toNat (List.length x0.1 : Int) * 24 ≤ 140737488355328) then (if (0 ≤ (List.length x0.1 : Int) ∧ Int.toNat (List.length x0.1 : Int) * 24 ≤ 140737488355328) then (f64.l56 k x0 k ((List.replicate (Int.toNat (List.length x0.1 : Int)) ([] : (List Int))), (List.replicate (Int.toNat (List.length x0.1 : Int)) ([] : (List Int))), (0 : Int))) else none) else none
set_option maxRecDepth 100000 in
/-- 'impl.myNetOf'. -/
theorem c64 (k : Nat) (x0 : ((List (Int × (Int × Int))) × ((List (Int × (Int × (Int × (Int × (Int × ByteArray)))))) × (List (Int × Int))))) (r : (((List (Int × (Int × Int))) × ((List (Int × (Int × (Int × (Int × (Int × ByteArray)))))) × (List (Int × Int)))) × ((List (List Int)) × ((List (List Int)) × (Option (List ((Int × Int) × Bool))))))) (hF : f64 k x0 = some r) : PCall Try.prog 64 [⟨sh12, x0⟩] [⟨sh18, some r⟩] := by
  refine pcall_intro Try.func64 rfl rfl (Nat.le_of_ble_eq_true rfl) ?_
  intro w0 Zi a w h
  rw [f64] at hF
  refine wp_reg_seq tok (orc := orcL []) (fz := []) (l := [1]) (c := _) (.inr fun i h => h) h (by kernel_rfl) (AllP.nil) ?_
  intro a w h
  obtain ⟨hc141, hF⟩ := of_if hF
  obtain ⟨hc142, hF⟩ := of_if hF
  refine wp_regy_seq tok (orc := orcL []) (fz := []) (l := [1, 3]) (c := _) ([], [], [], []) 10 (.inr fun i h => h) h (by kernel_rfl) (by kernel_rfl) (AllP.cons hc141 (AllP.cons hc142 AllP.nil)) ?_
  intro a w h
  refine wp_seq ?_
  refine wp_reg_seq tok (orc := orcL []) (fz := []) (l := [1, 3, 21, 22, 23]) (c := _) (.inr fun i h => h) h (by kernel_rfl) (AllP.nil) ?_
  intro a w h
  refine wp_block ?_
  refine wp_loop_fuel (f64.l56 k x0) (fun ((v94, v95, v96) : ((List (List Int)) × (List (List Int)) × Int)) => [(1, .val sh11 (some x0)), (3, .val sh18 (some (x0, (v94, (v95, (some ([] : (List ((Int × Int) × Bool))))))))), (21, .val sh16 x0.2.1), (22, .val (.int .i64) (List.length x0.2.1 : Int)), (23, .val (.int .i64) v96)]) (fun v h => by obtain ⟨v94, v95, v96⟩ := v; rw [f64.l56] at h; cases h) ?_ hF (h.arrive (fz := []) (l := [1, 3, 21, 22, 23]) (.inr fun i h => h) (by kernel_rfl))
  intro m56 v a w hF h
  obtain ⟨v94, v95, v96⟩ := v
  rw [f64.l56] at hF
  refine wp_reg_seq tok (orc := orcL []) (fz := []) (l := [1, 3, 21, 22, 23, 24]) (c := _) (.inr fun i h => h) h (by kernel_rfl) (AllP.nil) ?_
  intro a w h
  refine wp_seq <| wp_if h (b := (decide ((v96 : Int) < (List.length x0.2.1 : Int)))) (by kernel_rfl) (fun hb => ?_) (fun hb => ?_)
  · replace hF := of_t hb hF
    refine wp_skip ?_
    refine wp_seq <| wp_block ?_
    obtain ⟨hc110, hF⟩ := of_if hF
    refine wp_reg_seq tok (orc := orcL []) (fz := []) (l := [1, 3, 4, 5, 21, 22, 23]) (c := _) (.inr fun i h => h) h (by kernel_rfl) (AllP.cons hc110 AllP.nil) ?_
    intro a w h
    obtain ⟨hc107, hF⟩ := of_if hF
    obtain ⟨hc108, hF⟩ := of_if hF
    obtain ⟨hc109, hF⟩ := of_if hF
    refine wp_regy_seq tok (orc := orcL [(44, [⟨.pt false 4294967293 .unit, some ()⟩])]) (fz := []) (l := [1, 3, 4, 5, 21, 22, 23]) (c := _) ([], [], [], []) 18 (.inr fun i h => h) h (by kernel_rfl) (by kernel_rfl) (AllP.cons hc107 (AllP.cons (PrefL.mk (l := [[], [], [.der, .snd, .fst], [.der, .snd, .fst], [], [], [.der, .snd, .fst], [.der, .snd, .fst], [.der, .snd, .fst, .idx (Int.toNat (List.getD x0.2.1 (Int.toNat v96) ((0 : Int), ((0 : Int), ((0 : Int), ((0 : Int), ((0 : Int), (⟨#[]⟩ : ByteArray))))))).1)], [.der, .snd, .fst, .idx (Int.toNat (List.getD x0.2.1 (Int.toNat v96) ((0 : Int), ((0 : Int), ((0 : Int), ((0 : Int), ((0 : Int), (⟨#[]⟩ : ByteArray))))))).1)]]) (p := [.der, .snd, .fst, .idx (Int.toNat (List.getD x0.2.1 (Int.toNat v96) ((0 : Int), ((0 : Int), ((0 : Int), ((0 : Int), ((0 : Int), (⟨#[]⟩ : ByteArray))))))).1)]) rfl) (AllP.cons hc108 (AllP.cons hc109 (AllP.cons (show ([.der, .snd, .fst, .idx (Int.toNat (List.getD x0.2.1 (Int.toNat v96) ((0 : Int), ((0 : Int), ((0 : Int), ((0 : Int), ((0 : Int), (⟨#[]⟩ : ByteArray))))))).1)] : Path) = [.der, .snd, .fst, .idx (Int.toNat (List.getD x0.2.1 (Int.toNat v96) ((0 : Int), ((0 : Int), ((0 : Int), ((0 : Int), ((0 : Int), (⟨#[]⟩ : ByteArray))))))).1)] from rfl) AllP.nil))))) ?_
    intro a w h
    obtain ⟨hc104, hF⟩ := of_if hF
    obtain ⟨hc105, hF⟩ := of_if hF
    obtain ⟨hc106, hF⟩ := of_if hF
    refine wp_regy tok (orc := orcL [(62, [⟨.pt false 4294967293 .unit, some ()⟩])]) (fz := []) (l := [1, 3, 21, 22, 23]) (c := _) ([], [], [], []) 18 (.inr fun i h => h) h (by kernel_rfl) (by kernel_rfl) (AllP.cons hc104 (AllP.cons (PrefL.mk (l := [[], [], [.der, .snd, .snd, .fst], [.der, .snd, .snd, .fst], [], [], [.der, .snd, .snd, .fst], [.der, .snd, .snd, .fst], [.der, .snd, .snd, .fst, .idx (Int.toNat (List.getD x0.2.1 (Int.toNat v96) ((0 : Int), ((0 : Int), ((0 : Int), ((0 : Int), ((0 : Int), (⟨#[]⟩ : ByteArray))))))).2.1)], [.der, .snd, .snd, .fst, .idx (Int.toNat (List.getD x0.2.1 (Int.toNat v96) ((0 : Int), ((0 : Int), ((0 : Int), ((0 : Int), ((0 : Int), (⟨#[]⟩ : ByteArray))))))).2.1)]]) (p := [.der, .snd, .snd, .fst, .idx (Int.toNat (List.getD x0.2.1 (Int.toNat v96) ((0 : Int), ((0 : Int), ((0 : Int), ((0 : Int), ((0 : Int), (⟨#[]⟩ : ByteArray))))))).2.1)]) rfl) (AllP.cons hc105 (AllP.cons hc106 (AllP.cons (show ([.der, .snd, .snd, .fst, .idx (Int.toNat (List.getD x0.2.1 (Int.toNat v96) ((0 : Int), ((0 : Int), ((0 : Int), ((0 : Int), ((0 : Int), (⟨#[]⟩ : ByteArray))))))).2.1)] : Path) = [.der, .snd, .snd, .fst, .idx (Int.toNat (List.getD x0.2.1 (Int.toNat v96) ((0 : Int), ((0 : Int), ((0 : Int), ((0 : Int), ((0 : Int), (⟨#[]⟩ : ByteArray))))))).2.1)] from rfl) AllP.nil))))) ?_
    intro a w h
    refine wp_reg tok (orc := orcL []) (fz := []) (l := [1, 3, 21, 22, 23]) (c := _) (.inr fun i h => h) h (by kernel_rfl) (AllP.nil) ?_
    intro a w h
    exact ⟨((List.set v94 (Int.toNat (List.getD x0.2.1 (Int.toNat v96) ((0 : Int), ((0 : Int), ((0 : Int), ((0 : Int), ((0 : Int), (⟨#[]⟩ : ByteArray))))))).1) (List.append (List.getD v94 (Int.toNat (List.getD x0.2.1 (Int.toNat v96) ((0 : Int), ((0 : Int), ((0 : Int), ((0 : Int), ((0 : Int), (⟨#[]⟩ : ByteArray))))))).1) ([] : (List Int))) [v96])), (List.set v95 (Int.toNat (List.getD x0.2.1 (Int.toNat v96) ((0 : Int), ((0 : Int), ((0 : Int), ((0 : Int), ((0 : Int), (⟨#[]⟩ : ByteArray))))))).2.1) (List.append (List.getD v95 (Int.toNat (List.getD x0.2.1 (Int.toNat v96) ((0 : Int), ((0 : Int), ((0 : Int), ((0 : Int), ((0 : Int), (⟨#[]⟩ : ByteArray))))))).2.1) ([] : (List Int))) [v96])), (IntKind.i64.wrap (v96 + (1 : Int)))), hF, h.arrive (fz := []) (l := [1, 3, 21, 22, 23]) (.inr fun i h => h) (by kernel_rfl)⟩
  · replace hF := of_f hb hF
    refine wp_exit ?_
    refine wp_seq ?_
    refine wp_reg_seq tok (orc := orcL []) (fz := []) (l := [3, 66, 67, 68]) (c := _) (.inr fun i h => h) h (by kernel_rfl) (AllP.nil) ?_
    intro a w h
    refine wp_block ?_
    refine wp_loop_fuel (f64.l126 k x0 v94 v95) (fun ((v137, v138) : ((List ((Int × Int) × Bool)) × Int)) => [(3, .val sh18 (some (x0, (v94, (v95, (some v137)))))), (66, .val sh17 x0.2.2), (67, .val (.int .i64) (List.length x0.2.2 : Int)), (68, .val (.int .i64) v138)]) (fun v h => by obtain ⟨v137, v138⟩ := v; rw [f64.l126] at h; cases h) ?_ hF (h.arrive (fz := []) (l := [3, 66, 67, 68]) (.inr fun i h => h) (by kernel_rfl))
    intro m126 v a w hF h
    obtain ⟨v137, v138⟩ := v
    rw [f64.l126] at hF
    refine wp_reg_seq tok (orc := orcL []) (fz := []) (l := [3, 66, 67, 68, 69]) (c := _) (.inr fun i h => h) h (by kernel_rfl) (AllP.nil) ?_
    intro a w h
    refine wp_seq <| wp_if h (b := (decide ((v138 : Int) < (List.length x0.2.2 : Int)))) (by kernel_rfl) (fun hb => ?_) (fun hb => ?_)
    · replace hF := of_t hb hF
      refine wp_skip ?_
      refine wp_seq <| wp_block ?_
      obtain ⟨hc140, hF⟩ := of_if hF
      refine wp_reg_seq tok (orc := orcL []) (fz := []) (l := [3, 7, 66, 67, 68]) (c := _) (.inr fun i h => h) h (by kernel_rfl) (AllP.cons hc140 AllP.nil) ?_
      intro a w h
      refine wp_regy tok (orc := orcL []) (fz := []) (l := [3, 66, 67, 68]) (c := _) ([], [], [], []) 5 (.inr fun i h => h) h (by kernel_rfl) (by kernel_rfl) (AllP.cons (show eqTy Try.prog 9 82 (.st (.pair (.int .i64) (.int .i64))) = true from by kernel_rfl) AllP.nil) ?_
      intro a w h
      refine wp_reg tok (orc := orcL []) (fz := []) (l := [3, 66, 67, 68]) (c := _) (.inr fun i h => h) h (by kernel_rfl) (AllP.nil) ?_
      intro a w h
      exact ⟨((mput (Sh.beq sh5) (List.getD x0.2.2 (Int.toNat v138) ((0 : Int), (0 : Int))) true v137), (IntKind.i64.wrap (v138 + (1 : Int)))), hF, h.arrive (fz := []) (l := [3, 66, 67, 68]) (.inr fun i h => h) (by kernel_rfl)⟩
    · replace hF := of_f hb hF
      refine wp_exit ?_
      refine wp_reg_seq tok (orc := orcL []) (fz := []) (l := [2, 3]) (c := _) (.inr fun i h => h) h (by kernel_rfl) (AllP.nil) ?_
      intro a w h
      cases hF
      exact wp_ret (ret_okR tok h rfl (by kernel_rfl)).1

def f91 (k : Nat) (x0 : (((List (Int × (Int × Int))) × ((List (Int × (Int × (Int × (Int × (Int × ByteArray)))))) × (List (Int × Int)))) × ((List (List Int)) × ((List (List Int)) × (Option (List ((Int × Int) × Bool))))))) (x1 : Int) : Option Bool := some (bif (decide ((x1 : Int) ≥ (0 : Int))) then (decide ((x1 : Int) < (List.length x0.1.1 : Int))) else false)
set_option maxRecDepth 100000 in
/-- 'impl.myNet).place'. -/
theorem c91 (k : Nat) (x0 : (((List (Int × (Int × Int))) × ((List (Int × (Int × (Int × (Int × (Int × ByteArray)))))) × (List (Int × Int)))) × ((List (List Int)) × ((List (List Int)) × (Option (List ((Int × Int) × Bool))))))) (x1 : Int) (r : Bool) (hF : f91 k x0 x1 = some r) : PCall Try.prog 91 [⟨sh19, some x0⟩, ⟨(.int .i64), x1⟩] [⟨.bool, r⟩] := by
  refine pcall_intro Try.func91 rfl rfl (Nat.le_of_ble_eq_true rfl) ?_
  intro w0 Zi a w h
  rw [f91] at hF
  refine wp_reg_seq tok (orc := orcL []) (fz := []) (l := [0, 1]) (c := _) (.inr fun i h => h) h (by kernel_rfl) (AllP.nil) ?_
  intro a w h
  refine wp_reg_seq tok (orc := orcL []) (fz := []) (l := [4]) (c := _) (.inr fun i h => h) h (by kernel_rfl) (AllP.nil) ?_
  intro a w h
  cases hF
  exact wp_ret (ret_okR tok h rfl (by kernel_rfl)).1

def f131 (k : Nat) (x0 : (Int × (Int × Int))) (x1 : (Int × (Int × Int))) : Option Bool := if ((x0.1 : Int) != x1.1) then (some (decide ((x0.1 : Int) < x1.1))) else (if ((x0.2.1 : Int) != x1.2.1) then (some (decide ((x0.2.1 : Int) < x1.2.1))) else (some (decide ((x0.2.2 : Int) < x1.2.2))))
set_option maxRecDepth 100000 in
/-- 'impl.myLess'. -/
theorem c131 (k : Nat) (x0 : (Int × (Int × Int))) (x1 : (Int × (Int × Int))) (r : Bool) (hF : f131 k x0 x1 = some r) : PCall Try.prog 131 [⟨sh20, x0⟩, ⟨sh20, x1⟩] [⟨.bool, r⟩] := by
  refine pcall_intro Try.func131 rfl rfl (Nat.le_of_ble_eq_true rfl) ?_
  intro w0 Zi a w h
  rw [f131] at hF
  refine wp_reg_seq tok (orc := orcL []) (fz := []) (l := [2, 3]) (c := _) (.inr fun i h => h) h (by kernel_rfl) (AllP.nil) ?_
  intro a w h
  refine wp_seq ?_
  refine wp_reg_seq tok (orc := orcL []) (fz := []) (l := [2, 3, 9]) (c := _) (.inr fun i h => h) h (by kernel_rfl) (AllP.nil) ?_
  intro a w h
  refine wp_if h (b := ((x0.1 : Int) != x1.1)) (by kernel_rfl) (fun hb => ?_) (fun hb => ?_)
  · replace hF := of_t hb hF
    refine wp_reg_seq tok (orc := orcL []) (fz := []) (l := [4]) (c := _) (.inr fun i h => h) h (by kernel_rfl) (AllP.nil) ?_
    intro a w h
    cases hF
    exact wp_ret (ret_okR tok h rfl (by kernel_rfl)).1
  · replace hF := of_f hb hF
    refine wp_skip ?_
    refine wp_seq ?_
    refine wp_reg_seq tok (orc := orcL []) (fz := []) (l := [2, 3, 19]) (c := _) (.inr fun i h => h) h (by kernel_rfl) (AllP.nil) ?_
    intro a w h
    refine wp_if h (b := ((x0.2.1 : Int) != x1.2.1)) (by kernel_rfl) (fun hb => ?_) (fun hb => ?_)
    · replace hF := of_t hb hF
      refine wp_reg_seq tok (orc := orcL []) (fz := []) (l := [4]) (c := _) (.inr fun i h => h) h (by kernel_rfl) (AllP.nil) ?_
      intro a w h
      cases hF
      exact wp_ret (ret_okR tok h rfl (by kernel_rfl)).1
    · replace hF := of_f hb hF
      refine wp_skip ?_
      refine wp_reg_seq tok (orc := orcL []) (fz := []) (l := [4]) (c := _) (.inr fun i h => h) h (by kernel_rfl) (AllP.nil) ?_
      intro a w h
      cases hF
      exact wp_ret (ret_okR tok h rfl (by kernel_rfl)).1

def f121.l1 (k : Nat) (x0 : ((List (Int × (Int × Int))) × Unit)) : Nat → ((List (Int × (Int × Int))) × Int) → Option ((List (Int × (Int × Int))) × Unit)
  | 0, _ => none
  | m1 + 1, (v34, v35) => if (((decide ((v35 : Int) > (0 : Int))) = true) → (0 ≤ v35 ∧ v35 < (List.length v34 : Int))) then (if (((decide ((v35 : Int) > (0 : Int))) = true) → (((2 : Int) : Int) ≠ 0)) then (if (((decide ((v35 : Int) > (0 : Int))) = true) → (0 ≤ (IntKind.i64.wrap (Int.tdiv (IntKind.i64.wrap (v35 - (1 : Int))) (2 : Int))) ∧ (IntKind.i64.wrap (Int.tdiv (IntKind.i64.wrap (v35 - (1 : Int))) (2 : Int))) < (List.length v34 : Int))) then ((if ((decide ((v35 : Int) > (0 : Int))) = true) then f131 k (List.getD v34 (Int.toNat v35) ((0 : Int), ((0 : Int), (0 : Int)))) (List.getD v34 (Int.toNat (IntKind.i64.wrap (Int.tdiv (IntKind.i64.wrap (v35 - (1 : Int))) (2 : Int)))) ((0 : Int), ((0 : Int), (0 : Int)))) else some default).bind fun r36 => (if (bif (decide ((v35 : Int) > (0 : Int))) then r36 else false) then (if (((2 : Int) : Int) ≠ 0) then (if (((2 : Int) : Int) ≠ 0) then (if (0 ≤ (IntKind.i64.wrap (Int.tdiv (IntKind.i64.wrap (v35 - (1 : Int))) (2 : Int))) ∧ (IntKind.i64.wrap (Int.tdiv (IntKind.i64.wrap (v35 - (1 : Int))) (2 : Int))) < (List.length v34 : Int)) then (if (0 ≤ v35 ∧ v35 < (List.length v34 : Int)) then (if (0 ≤ v35 ∧ v35 < (List.length v34 : Int)) then (if (0 ≤ (IntKind.i64.wrap (Int.tdiv (IntKind.i64.wrap (v35 - (1 : Int))) (2 : Int))) ∧ (IntKind.i64.wrap (Int.tdiv (IntKind.i64.wrap (v35 - (1 : Int))) (2 : Int))) < (List.length (List.set v34 (Int.toNat v35) (List.getD v34 (Int.toNat (IntKind.i64.wrap (Int.tdiv (IntKind.i64.wrap (v35 - (1 : Int))) (2 : Int)))) ((0 : Int), ((0 : Int), (0 : Int))))) : Int)) then (if (((2 : Int) : Int) ≠ 0) then ((f121.l1 k x0) m1 ((List.set (List.set v34 (Int.toNat v35) (List.getD v34 (Int.toNat (IntKind.i64.wrap (Int.tdiv (IntKind.i64.wrap (v35 - (1 : Int))) (2 : Int)))) ((0 : Int), ((0 : Int), (0 : Int))))) (Int.toNat (IntKind.i64.wrap (Int.tdiv (IntKind.i64.wrap (v35 - (1 : Int))) (2 : Int)))) (List.getD v34 (Int.toNat v35) ((0 : Int), ((0 : Int), (0 : Int))))), (IntKind.i64.wrap (Int.tdiv (IntKind.i64.wrap (v35 - (1 : Int))) (2 : Int))))) else none) else none) else none) else none) else none) else none) else none) else (some (v34, x0.2)))) else none) else none) else none
def f121 (k : Nat) (x0 : ((List (Int × (Int × Int))) × Unit)) (x1 : (Int × (Int × Int))) : Option ((List (Int × (Int × Int))) × Unit) := if ((List.length x0.1 + List.length [x1]) * 24 ≤ 140737488355328) then (f121.l1 k x0 k ((List.append x0.1 [x1]), (IntKind.i64.wrap ((List.length (List.append x0.1 [x1]) : Int) - (1 : Int))))) else none
set_option maxRecDepth 100000 in
/-- 'impl.myHeap).push'. -/
theorem c121 (k : Nat) (x0 : ((List (Int × (Int × Int))) × Unit)) (x1 : (Int × (Int × Int))) (r : ((List (Int × (Int × Int))) × Unit)) (hF : f121 k x0 x1 = some r) : PMut Try.prog 121 [⟨sh21, some x0⟩, ⟨sh20, x1⟩] [] (List.set [⟨sh21, some x0⟩, ⟨sh20, x1⟩] 0 ⟨sh21, some r⟩) := by
  refine pmut_intro (j := 0) (fin := ⟨sh21, some r⟩) Try.func121 rfl rfl (Nat.le_of_ble_eq_true rfl) (Nat.le_of_ble_eq_true rfl) (by kernel_rfl) ?_
  intro w0 Zi f0 v0 a w h
  rw [f121] at hF
  refine wp_reg_seq tok (orc := orcL []) (fz := []) (l := [0, 3]) (c := _) (.inl rfl) h (by kernel_rfl) (AllP.nil) ?_
  intro a w h
  obtain ⟨hc48, hF⟩ := of_if hF
  refine wp_regy_seq tok (orc := orcL [(12, [⟨.pt false 4294967293 .unit, some ()⟩])]) (fz := []) (l := [0]) (c := _) ([], [], [], []) 10 (.inl rfl) h (by kernel_rfl) (by kernel_rfl) (AllP.cons (PrefL.mk (l := [[], [], [], [.der, .fst], [.der, .fst]]) (p := [.der, .fst]) rfl) (AllP.cons hc48 (AllP.cons (show ([.der, .fst] : Path) = [.der, .fst] from rfl) AllP.nil))) ?_
  intro a w h
  refine wp_reg_seq tok (orc := orcL []) (fz := []) (l := [0, 4]) (c := _) (.inl rfl) h (by kernel_rfl) (AllP.nil) ?_
  intro a w h
  refine wp_block ?_
  refine wp_loop_fuel (f121.l1 k x0) (fun ((v34, v35) : ((List (Int × (Int × Int))) × Int)) => [(0, .val sh21 (some (v34, x0.2))), (4, .val (.int .i64) v35)]) (fun v h => by obtain ⟨v34, v35⟩ := v; rw [f121.l1] at h; cases h) ?_ hF (h.arrive (fz := []) (l := [0, 4]) (.inl rfl) (by kernel_rfl))
  intro m1 v a w hF h
  obtain ⟨v34, v35⟩ := v
  rw [f121.l1] at hF
  refine wp_seq ?_
  obtain ⟨hc44, hF⟩ := of_if hF
  obtain ⟨hc45, hF⟩ := of_if hF
  obtain ⟨hc46, hF⟩ := of_if hF
  obtain ⟨r36, hr47, hF⟩ := of_bind hF
  refine wp_regy_seq tok (orc := orcL [(40, [⟨.bool, r36⟩])]) (fz := []) (l := [0, 4, 41]) (c := _) ([], [], [], []) 21 (.inl rfl) h (by kernel_rfl) (by kernel_rfl) (AllP.cons hc44 (AllP.cons hc45 (AllP.cons hc46 (AllP.cons (fun (hg : ((decide ((v35 : Int) > (0 : Int))) = true)) => c131 k (List.getD v34 (Int.toNat v35) ((0 : Int), ((0 : Int), (0 : Int)))) (List.getD v34 (Int.toNat (IntKind.i64.wrap (Int.tdiv (IntKind.i64.wrap (v35 - (1 : Int))) (2 : Int)))) ((0 : Int), ((0 : Int), (0 : Int)))) r36 (of_g hg hr47)) AllP.nil)))) ?_
  intro a w h
  refine wp_if h (b := (bif (decide ((v35 : Int) > (0 : Int))) then r36 else false)) (by kernel_rfl) (fun hb => ?_) (fun hb => ?_)
  · replace hF := of_t hb hF
    refine wp_skip ?_
    refine wp_block ?_
    obtain ⟨hc38, hF⟩ := of_if hF
    obtain ⟨hc39, hF⟩ := of_if hF
    obtain ⟨hc40, hF⟩ := of_if hF
    obtain ⟨hc41, hF⟩ := of_if hF
    obtain ⟨hc42, hF⟩ := of_if hF
    obtain ⟨hc43, hF⟩ := of_if hF
    refine wp_regy_seq tok (orc := orcL [(70, [⟨.pt false 4294967289 .unit, some ()⟩])]) (fz := []) (l := [0, 4]) (c := _) ([(29, 0)], [], [(29, [42, 43, 45, 47, 48, 50, 54, 55, 57, 63, 64, 66])], [(9, [4]), (10, [51]), (11, [52])]) 30 (.inl rfl) h (by kernel_rfl) (by kernel_rfl) (AllP.cons hc38 (AllP.cons hc39 (AllP.cons hc40 (AllP.cons hc41 (AllP.cons hc42 (AllP.cons hc43 AllP.nil)))))) ?_
    intro a w h
    obtain ⟨hc37, hF⟩ := of_if hF
    refine wp_reg tok (orc := orcL []) (fz := []) (l := [0, 4]) (c := _) (.inl rfl) h (by kernel_rfl) (AllP.cons hc37 AllP.nil) ?_
    intro a w h
    exact ⟨((List.set (List.set v34 (Int.toNat v35) (List.getD v34 (Int.toNat (IntKind.i64.wrap (Int.tdiv (IntKind.i64.wrap (v35 - (1 : Int))) (2 : Int)))) ((0 : Int), ((0 : Int), (0 : Int))))) (Int.toNat (IntKind.i64.wrap (Int.tdiv (IntKind.i64.wrap (v35 - (1 : Int))) (2 : Int)))) (List.getD v34 (Int.toNat v35) ((0 : Int), ((0 : Int), (0 : Int))))), (IntKind.i64.wrap (Int.tdiv (IntKind.i64.wrap (v35 - (1 : Int))) (2 : Int)))), hF, h.arrive (fz := []) (l := [0, 4]) (.inl rfl) (by kernel_rfl)⟩
  · replace hF := of_f hb hF
    refine wp_exit ?_
    cases hF
    exact (retM_ok tok h rfl (by kernel_rfl) (by kernel_rfl)).2

def f122.j55 (k : Nat) (x0 : ((List (Int × (Int × Int))) × Unit)) : (List (Int × (Int × Int))) → Option ((Int × (Int × Int)) × ((List (Int × (Int × Int))) × Unit))
  | v54 => some ((List.getD x0.1 (Int.toNat (0 : Int)) ((0 : Int), ((0 : Int), (0 : Int)))), (v54, x0.2))
def f122.j97 (k : Nat) (v93 : (List (Int × (Int × Int)))) (v94 : Int) (q55 : (List (Int × (Int × Int))) → Option ((Int × (Int × Int)) × ((List (Int × (Int × Int))) × Unit))) (q56 : ((List (Int × (Int × Int))) × Int) → Option ((Int × (Int × Int)) × ((List (Int × (Int × Int))) × Unit))) : Int → Option ((Int × (Int × Int)) × ((List (Int × (Int × Int))) × Unit))
  | v96 => if (0 ≤ v96 ∧ v96 < (List.length v93 : Int)) then (if (0 ≤ v94 ∧ v94 < (List.length v93 : Int)) then ((f131 k (List.getD v93 (Int.toNat v96) ((0 : Int), ((0 : Int), (0 : Int)))) (List.getD v93 (Int.toNat v94) ((0 : Int), ((0 : Int), (0 : Int))))).bind fun r98 => (if (!r98) then (q55 v93) else (if (0 ≤ v96 ∧ v96 < (List.length v93 : Int)) then (if (0 ≤ v94 ∧ v94 < (List.length v93 : Int)) then (if (0 ≤ v94 ∧ v94 < (List.length v93 : Int)) then (if (0 ≤ v96 ∧ v96 < (List.length (List.set v93 (Int.toNat v94) (List.getD v93 (Int.toNat v96) ((0 : Int), ((0 : Int), (0 : Int))))) : Int)) then (q56 ((List.set (List.set v93 (Int.toNat v94) (List.getD v93 (Int.toNat v96) ((0 : Int), ((0 : Int), (0 : Int))))) (Int.toNat v96) (List.getD v93 (Int.toNat v94) ((0 : Int), ((0 : Int), (0 : Int))))), v96)) else none) else none) else none) else none))) else none) else none
def f122.l56 (k : Nat) (x0 : ((List (Int × (Int × Int))) × Unit)) (q55 : (List (Int × (Int × Int))) → Option ((Int × (Int × Int)) × ((List (Int × (Int × Int))) × Unit))) : Nat → ((List (Int × (Int × Int))) × Int) → Option ((Int × (Int × Int)) × ((List (Int × (Int × Int))) × Unit))
  | 0, _ => none
  | m56 + 1, (v93, v94) => if (decide (((IntKind.i64.wrap ((IntKind.i64.wrap ((2 : Int) * v94)) + (1 : Int))) : Int) ≥ (IntKind.i64.wrap ((List.length x0.1 : Int) - (1 : Int))))) then (q55 v93) else (if (((decide (((IntKind.i64.wrap ((IntKind.i64.wrap ((IntKind.i64.wrap ((2 : Int) * v94)) + (1 : Int))) + (1 : Int))) : Int) < (IntKind.i64.wrap ((List.length x0.1 : Int) - (1 : Int))))) = true) → (0 ≤ (IntKind.i64.wrap ((IntKind.i64.wrap ((IntKind.i64.wrap ((2 : Int) * v94)) + (1 : Int))) + (1 : Int))) ∧ (IntKind.i64.wrap ((IntKind.i64.wrap ((IntKind.i64.wrap ((2 : Int) * v94)) + (1 : Int))) + (1 : Int))) < (List.length v93 : Int))) then (if (((decide (((IntKind.i64.wrap ((IntKind.i64.wrap ((IntKind.i64.wrap ((2 : Int) * v94)) + (1 : Int))) + (1 : Int))) : Int) < (IntKind.i64.wrap ((List.length x0.1 : Int) - (1 : Int))))) = true) → (0 ≤ (IntKind.i64.wrap ((IntKind.i64.wrap ((2 : Int) * v94)) + (1 : Int))) ∧ (IntKind.i64.wrap ((IntKind.i64.wrap ((2 : Int) * v94)) + (1 : Int))) < (List.length v93 : Int))) then ((if ((decide (((IntKind.i64.wrap ((IntKind.i64.wrap ((IntKind.i64.wrap ((2 : Int) * v94)) + (1 : Int))) + (1 : Int))) : Int) < (IntKind.i64.wrap ((List.length x0.1 : Int) - (1 : Int))))) = true) then f131 k (List.getD v93 (Int.toNat (IntKind.i64.wrap ((IntKind.i64.wrap ((IntKind.i64.wrap ((2 : Int) * v94)) + (1 : Int))) + (1 : Int)))) ((0 : Int), ((0 : Int), (0 : Int)))) (List.getD v93 (Int.toNat (IntKind.i64.wrap ((IntKind.i64.wrap ((2 : Int) * v94)) + (1 : Int)))) ((0 : Int), ((0 : Int), (0 : Int)))) else some default).bind fun r95 => (if (bif (decide (((IntKind.i64.wrap ((IntKind.i64.wrap ((IntKind.i64.wrap ((2 : Int) * v94)) + (1 : Int))) + (1 : Int))) : Int) < (IntKind.i64.wrap ((List.length x0.1 : Int) - (1 : Int))))) then r95 else false) then (f122.j97 k v93 v94 (q55) ((f122.l56 k x0 q55) m56) (IntKind.i64.wrap ((IntKind.i64.wrap ((IntKind.i64.wrap ((2 : Int) * v94)) + (1 : Int))) + (1 : Int)))) else (f122.j97 k v93 v94 (q55) ((f122.l56 k x0 q55) m56) (IntKind.i64.wrap ((IntKind.i64.wrap ((2 : Int) * v94)) + (1 : Int)))))) else none) else none)
def f122 (k : Nat) (x0 : ((List (Int × (Int × Int))) × Unit)) : Option ((Int × (Int × Int)) × ((List (Int × (Int × Int))) × Unit)) := if (0 ≤ (0 : Int) ∧ (0 : Int) < (List.length x0.1 : Int)) then (if (0 ≤ (IntKind.i64.wrap ((List.length x0.1 : Int) - (1 : Int))) ∧ (IntKind.i64.wrap ((List.length x0.1 : Int) - (1 : Int))) < (List.length x0.1 : Int)) then (if (0 ≤ (0 : Int) ∧ (0 : Int) < (List.length x0.1 : Int)) then (if ((0 : Int) ≤ (IntKind.i64.wrap ((List.length x0.1 : Int) - (1 : Int))) ∧ ((IntKind.i64.wrap ((List.length x0.1 : Int) - (1 : Int))) : Int) ≤ (List.length (List.set x0.1 (Int.toNat (0 : Int)) (List.getD x0.1 (Int.toNat (IntKind.i64.wrap ((List.length x0.1 : Int) - (1 : Int)))) ((0 : Int), ((0 : Int), (0 : Int))))) : Int)) then (f122.l56 k x0 (f122.j55 k x0) k ((List.take (Int.toNat (IntKind.i64.wrap ((List.length x0.1 : Int) - (1 : Int)))) (List.set x0.1 (Int.toNat (0 : Int)) (List.getD x0.1 (Int.toNat (IntKind.i64.wrap ((List.length x0.1 : Int) - (1 : Int)))) ((0 : Int), ((0 : Int), (0 : Int)))))), (0 : Int))) else none) else none) else none) else none
set_option maxRecDepth 100000 in
/-- 'impl.myHeap).pop'. -/
theorem c122 (k : Nat) (x0 : ((List (Int × (Int × Int))) × Unit)) (r : ((Int × (Int × Int)) × ((List (Int × (Int × Int))) × Unit))) (hF : f122 k x0 = some r) : PMut Try.prog 122 [⟨sh21, some x0⟩] [⟨sh20, r.1⟩] (List.set [⟨sh21, some x0⟩] 0 ⟨sh21, some r.2⟩) := by
  refine pmut_intro (j := 0) (fin := ⟨sh21, some r.2⟩) Try.func122 rfl rfl (Nat.le_of_ble_eq_true rfl) (Nat.le_of_ble_eq_true rfl) (by kernel_rfl) ?_
  intro w0 Zi f0 v0 a w h
  rw [f122] at hF
  refine wp_reg_seq tok (orc := orcL []) (fz := []) (l := [0, 2]) (c := _) (.inl rfl) h (by kernel_rfl) (AllP.nil) ?_
  intro a w h
  obtain ⟨hc112, hF⟩ := of_if hF
  refine wp_reg_seq tok (orc := orcL []) (fz := []) (l := [0, 2, 3]) (c := _) (.inl rfl) h (by kernel_rfl) (AllP.cons hc112 AllP.nil) ?_
  intro a w h
  refine wp_reg_seq tok (orc := orcL []) (fz := []) (l := [0, 2, 3, 4]) (c := _) (.inl rfl) h (by kernel_rfl) (AllP.nil) ?_
  intro a w h
  obtain ⟨hc110, hF⟩ := of_if hF
  obtain ⟨hc111, hF⟩ := of_if hF
  refine wp_regy_seq tok (orc := orcL []) (fz := []) (l := [0, 2, 3, 4]) (c := _) ([], [], [], []) 12 (.inl rfl) h (by kernel_rfl) (by kernel_rfl) (AllP.cons hc110 (AllP.cons hc111 AllP.nil)) ?_
  intro a w h
  obtain ⟨hc109, hF⟩ := of_if hF
  refine wp_reg_seq tok (orc := orcL [(37, [⟨.pt false 4294967293 .unit, some ()⟩])]) (fz := []) (l := [0, 2, 3, 4]) (c := _) (.inl rfl) h (by kernel_rfl) (AllP.cons hc109 (AllP.cons (show ([.der, .fst] : Path) = [.der, .fst] from rfl) AllP.nil)) ?_
  intro a w h
  refine wp_reg_seq tok (orc := orcL []) (fz := []) (l := [0, 2, 3, 4, 5]) (c := _) (.inl rfl) h (by kernel_rfl) (AllP.nil) ?_
  intro a w h
  refine wp_mid (fun a w => ∃ v : (List (Int × (Int × Int))), f122.j55 k x0 v = some r ∧ Rel w0 f0 Zi ⟨Try.f122.ntmps, [0], fun _ => v0⟩ ((fun (v54 : (List (Int × (Int × Int)))) => ([(0, .val sh21 (some (v54, x0.2))), (2, .val sh22 (some ((0 : Int), ((0 : Int), (0 : Int))))), (3, .val sh22 (some (List.getD x0.1 (Int.toNat (0 : Int)) ((0 : Int), ((0 : Int), (0 : Int))))))] : SS)) v) a w) ?_ ?_
  ·
    refine wp_block ?_
    refine wp_loop_fuel (f122.l56 k x0 (f122.j55 k x0)) (fun ((v93, v94) : ((List (Int × (Int × Int))) × Int)) => [(0, .val sh21 (some (v93, x0.2))), (2, .val sh22 (some ((0 : Int), ((0 : Int), (0 : Int))))), (3, .val sh22 (some (List.getD x0.1 (Int.toNat (0 : Int)) ((0 : Int), ((0 : Int), (0 : Int)))))), (4, .val (.int .i64) (IntKind.i64.wrap ((List.length x0.1 : Int) - (1 : Int)))), (5, .val (.int .i64) v94)]) (fun v h => by obtain ⟨v93, v94⟩ := v; rw [f122.l56] at h; cases h) ?_ hF (h.arrive (fz := []) (l := [0, 2, 3, 4, 5]) (.inl rfl) (by kernel_rfl))
    intro m56 v a w hF h
    obtain ⟨v93, v94⟩ := v
    rw [f122.l56] at hF
    refine wp_block ?_
    refine wp_reg_seq tok (orc := orcL []) (fz := []) (l := [0, 2, 3, 4, 5, 6]) (c := _) (.inl rfl) h (by kernel_rfl) (AllP.nil) ?_
    intro a w h
    refine wp_seq ?_
    refine wp_reg_seq tok (orc := orcL []) (fz := []) (l := [0, 2, 3, 4, 5, 6, 45]) (c := _) (.inl rfl) h (by kernel_rfl) (AllP.nil) ?_
    intro a w h
    refine wp_if h (b := (decide (((IntKind.i64.wrap ((IntKind.i64.wrap ((2 : Int) * v94)) + (1 : Int))) : Int) ≥ (IntKind.i64.wrap ((List.length x0.1 : Int) - (1 : Int)))))) (by kernel_rfl) (fun hb => ?_) (fun hb => ?_)
    · replace hF := of_t hb hF
      refine wp_exit ?_
      exact ⟨v93, hF, h.arrive (fz := []) (l := [0, 2, 3]) (.inl rfl) (by kernel_rfl)⟩
    · replace hF := of_f hb hF
      refine wp_skip ?_
      refine wp_seq ?_
      obtain ⟨hc106, hF⟩ := of_if hF
      obtain ⟨hc107, hF⟩ := of_if hF
      obtain ⟨r95, hr108, hF⟩ := of_bind hF
      refine wp_regy_seq tok (orc := orcL [(66, [⟨.bool, r95⟩])]) (fz := []) (l := [0, 2, 3, 4, 5, 6, 67]) (c := _) ([], [], [], []) 22 (.inl rfl) h (by kernel_rfl) (by kernel_rfl) (AllP.cons hc106 (AllP.cons hc107 (AllP.cons (fun (hg : ((decide (((IntKind.i64.wrap ((IntKind.i64.wrap ((IntKind.i64.wrap ((2 : Int) * v94)) + (1 : Int))) + (1 : Int))) : Int) < (IntKind.i64.wrap ((List.length x0.1 : Int) - (1 : Int))))) = true)) => c131 k (List.getD v93 (Int.toNat (IntKind.i64.wrap ((IntKind.i64.wrap ((IntKind.i64.wrap ((2 : Int) * v94)) + (1 : Int))) + (1 : Int)))) ((0 : Int), ((0 : Int), (0 : Int)))) (List.getD v93 (Int.toNat (IntKind.i64.wrap ((IntKind.i64.wrap ((2 : Int) * v94)) + (1 : Int)))) ((0 : Int), ((0 : Int), (0 : Int)))) r95 (of_g hg hr108)) AllP.nil))) ?_
      intro a w h
      refine wp_midT (fun a w => ∃ v : Int, f122.j97 k v93 v94 (f122.j55 k x0) ((f122.l56 k x0 (f122.j55 k x0)) m56) v = some r ∧ Rel w0 f0 Zi ⟨Try.f122.ntmps, [0], fun _ => v0⟩ ((fun (v96 : Int) => ([(0, .val sh21 (some (v93, x0.2))), (2, .val sh22 (some ((0 : Int), ((0 : Int), (0 : Int))))), (3, .val sh22 (some (List.getD x0.1 (Int.toNat (0 : Int)) ((0 : Int), ((0 : Int), (0 : Int)))))), (4, .val (.int .i64) (IntKind.i64.wrap ((List.length x0.1 : Int) - (1 : Int)))), (5, .val (.int .i64) v94), (6, .val (.int .i64) v96)] : SS)) v) a w) ?_ ?_
      ·
        refine wp_if h (b := (bif (decide (((IntKind.i64.wrap ((IntKind.i64.wrap ((IntKind.i64.wrap ((2 : Int) * v94)) + (1 : Int))) + (1 : Int))) : Int) < (IntKind.i64.wrap ((List.length x0.1 : Int) - (1 : Int))))) then r95 else false)) (by kernel_rfl) (fun hb => ?_) (fun hb => ?_)
        · replace hF := of_t hb hF
          refine wp_reg tok (orc := orcL []) (fz := []) (l := [0, 2, 3, 4, 5, 6]) (c := _) (.inl rfl) h (by kernel_rfl) (AllP.nil) ?_
          intro a w h
          exact ⟨(IntKind.i64.wrap ((IntKind.i64.wrap ((IntKind.i64.wrap ((2 : Int) * v94)) + (1 : Int))) + (1 : Int))), hF, h.arrive (fz := []) (l := [0, 2, 3, 4, 5, 6]) (.inl rfl) (by kernel_rfl)⟩
        · replace hF := of_f hb hF
          refine wp_skip ?_
          exact ⟨(IntKind.i64.wrap ((IntKind.i64.wrap ((2 : Int) * v94)) + (1 : Int))), hF, h.arrive (fz := []) (l := [0, 2, 3, 4, 5, 6]) (.inl rfl) (by kernel_rfl)⟩
      · rintro a w ⟨v96, hF, h⟩
        rw [f122.j97] at hF
        refine wp_seq ?_
        obtain ⟨hc103, hF⟩ := of_if hF
        obtain ⟨hc104, hF⟩ := of_if hF
        obtain ⟨r98, hr105, hF⟩ := of_bind hF
        refine wp_regy_seq tok (orc := orcL [(84, [⟨.bool, r98⟩])]) (fz := []) (l := [0, 2, 3, 4, 5, 6, 85]) (c := _) ([], [], [], []) 16 (.inl rfl) h (by kernel_rfl) (by kernel_rfl) (AllP.cons hc103 (AllP.cons hc104 (AllP.cons (c131 k (List.getD v93 (Int.toNat v96) ((0 : Int), ((0 : Int), (0 : Int)))) (List.getD v93 (Int.toNat v94) ((0 : Int), ((0 : Int), (0 : Int)))) r98 hr105) AllP.nil))) ?_
        intro a w h
        refine wp_if h (b := (!r98)) (by kernel_rfl) (fun hb => ?_) (fun hb => ?_)
        · replace hF := of_t hb hF
          refine wp_exit ?_
          exact ⟨v93, hF, h.arrive (fz := []) (l := [0, 2, 3]) (.inl rfl) (by kernel_rfl)⟩
        · replace hF := of_f hb hF
          refine wp_skip ?_
          obtain ⟨hc99, hF⟩ := of_if hF
          obtain ⟨hc100, hF⟩ := of_if hF
          obtain ⟨hc101, hF⟩ := of_if hF
          obtain ⟨hc102, hF⟩ := of_if hF
          refine wp_regy_seq tok (orc := orcL [(110, [⟨.pt false 4294967289 .unit, some ()⟩])]) (fz := []) (l := [0, 2, 3, 4, 6]) (c := _) ([(25, 0)], [], [(25, [86, 87, 89, 91, 92, 94, 96, 97, 99, 103, 104, 106])], [(9, [6])]) 26 (.inl rfl) h (by kernel_rfl) (by kernel_rfl) (AllP.cons hc99 (AllP.cons hc100 (AllP.cons hc101 (AllP.cons hc102 AllP.nil)))) ?_
          intro a w h
          refine wp_reg tok (orc := orcL []) (fz := []) (l := [0, 2, 3, 4, 5]) (c := _) (.inl rfl) h (by kernel_rfl) (AllP.nil) ?_
          intro a w h
          exact ⟨((List.set (List.set v93 (Int.toNat v94) (List.getD v93 (Int.toNat v96) ((0 : Int), ((0 : Int), (0 : Int))))) (Int.toNat v96) (List.getD v93 (Int.toNat v94) ((0 : Int), ((0 : Int), (0 : Int))))), v96), hF, h.arrive (fz := []) (l := [0, 2, 3, 4, 5]) (.inl rfl) (by kernel_rfl)⟩
  · rintro a w ⟨v54, hF, h⟩
    rw [f122.j55] at hF
    refine wp_reg_seq tok (orc := orcL []) (fz := []) (l := [0, 2]) (c := _) (.inl rfl) h (by kernel_rfl) (AllP.nil) ?_
    intro a w h
    cases hF
    exact wp_ret (retM_ok tok h rfl (by kernel_rfl) (by kernel_rfl)).1

def f132 (k : Nat) (x0 : Int) : Option Int := if (decide ((x0 : Int) < (0 : Int))) then (some (IntKind.i64.wrap (0 - x0))) else (some x0)
set_option maxRecDepth 100000 in
/-- 'impl.abs'. -/
theorem c132 (k : Nat) (x0 : Int) (r : Int) (hF : f132 k x0 = some r) : PCall Try.prog 132 [⟨(.int .i64), x0⟩] [⟨(.int .i64), r⟩] := by
  refine pcall_intro Try.func132 rfl rfl (Nat.le_of_ble_eq_true rfl) ?_
  intro w0 Zi a w h
  rw [f132] at hF
  refine wp_reg_seq tok (orc := orcL []) (fz := []) (l := [0]) (c := _) (.inr fun i h => h) h (by kernel_rfl) (AllP.nil) ?_
  intro a w h
  refine wp_seq ?_
  refine wp_reg_seq tok (orc := orcL []) (fz := []) (l := [0, 4]) (c := _) (.inr fun i h => h) h (by kernel_rfl) (AllP.nil) ?_
  intro a w h
  refine wp_if h (b := (decide ((x0 : Int) < (0 : Int)))) (by kernel_rfl) (fun hb => ?_) (fun hb => ?_)
  · replace hF := of_t hb hF
    refine wp_reg_seq tok (orc := orcL []) (fz := []) (l := [2]) (c := _) (.inr fun i h => h) h (by kernel_rfl) (AllP.nil) ?_
    intro a w h
    cases hF
    exact wp_ret (ret_okR tok h rfl (by kernel_rfl)).1
  · replace hF := of_f hb hF
    refine wp_skip ?_
    refine wp_reg_seq tok (orc := orcL []) (fz := []) (l := [2]) (c := _) (.inr fun i h => h) h (by kernel_rfl) (AllP.nil) ?_
    intro a w h
    cases hF
    exact wp_ret (ret_okR tok h rfl (by kernel_rfl)).1

def f130 (k : Nat) (x0 : (Int × Int)) (x1 : (Int × Int)) : Option Int := (if ((Sh.beq sh5 x0 x1) = false) then f109 k x0 else some default).bind fun r1 => ((if ((bif (Sh.beq sh5 x0 x1) then true else (!r1)) = false) then f109 k x1 else some default).bind fun r2 => (if (bif (bif (Sh.beq sh5 x0 x1) then true else (!r1)) then true else (!r2)) then (some (-1 : Int)) else ((f132 k (IntKind.i64.wrap (x1.1 - x0.1))).bind fun r3 => ((f132 k (IntKind.i64.wrap (x1.2 - x0.2))).bind fun r4 => ((f132 k (IntKind.i64.wrap (x1.1 - x0.1))).bind fun r5 => ((f132 k (IntKind.i64.wrap (x1.2 - x0.2))).bind fun r6 => (if (decide (((IntKind.i64.wrap ((5 : Int) * (if (r6 : Int) < r5 then r6 else r5))) : Int) < (IntKind.i64.wrap ((2 : Int) * (if (r4 : Int) > r3 then r4 else r3))))) then ((f132 k (IntKind.i64.wrap (x1.1 - x0.1))).bind fun r31 => ((f132 k (IntKind.i64.wrap (x1.2 - x0.2))).bind fun r32 => (if (bif (decide ((r31 : Int) > r32)) then (decide (((IntKind.i64.wrap (x1.1 - x0.1)) : Int) > (0 : Int))) else false) then (some (0 : Int)) else ((f132 k (IntKind.i64.wrap (x1.1 - x0.1))).bind fun r33 => ((f132 k (IntKind.i64.wrap (x1.2 - x0.2))).bind fun r34 => (if (decide ((r33 : Int) > r34)) then (some (4 : Int)) else (if (decide (((IntKind.i64.wrap (x1.2 - x0.2)) : Int) > (0 : Int))) then (some (2 : Int)) else (some (6 : Int))))))))) else (if (bif (decide (((IntKind.i64.wrap (x1.1 - x0.1)) : Int) > (0 : Int))) then (decide (((IntKind.i64.wrap (x1.2 - x0.2)) : Int) > (0 : Int))) else false) then (some (1 : Int)) else (if (bif (decide (((IntKind.i64.wrap (x1.1 - x0.1)) : Int) < (0 : Int))) then (decide (((IntKind.i64.wrap (x1.2 - x0.2)) : Int) > (0 : Int))) else false) then (some (3 : Int)) else (if (bif (decide (((IntKind.i64.wrap (x1.1 - x0.1)) : Int) < (0 : Int))) then (decide (((IntKind.i64.wrap (x1.2 - x0.2)) : Int) < (0 : Int))) else false) then (some (5 : Int)) else (some (7 : Int))))))))))))
set_option maxRecDepth 100000 in
/-- 'impl.Heading'. -/
theorem c130 (k : Nat) (x0 : (Int × Int)) (x1 : (Int × Int)) (r : Int) (hF : f130 k x0 x1 = some r) : PCall Try.prog 130 [⟨sh5, x0⟩, ⟨sh5, x1⟩] [⟨(.int .i64), r⟩] := by
  refine pcall_intro Try.func130 rfl rfl (Nat.le_of_ble_eq_true rfl) ?_
  intro w0 Zi a w h
  rw [f130] at hF
  refine wp_reg_seq tok (orc := orcL []) (fz := []) (l := [2, 3]) (c := _) (.inr fun i h => h) h (by kernel_rfl) (AllP.nil) ?_
  intro a w h
  refine wp_seq ?_
  obtain ⟨r1, hr43, hF⟩ := of_bind hF
  obtain ⟨r2, hr44, hF⟩ := of_bind hF
  refine wp_reg_seq tok (orc := orcL [(14, [⟨.bool, r1⟩]), (19, [⟨.bool, r2⟩])]) (fz := []) (l := [2, 3, 21]) (c := _) (.inr fun i h => h) h (by kernel_rfl) (AllP.cons (And.intro (show eqTy Try.prog 9 105 (.st (.pair (.int .i64) (.int .i64))) = true from by kernel_rfl) (show Try.prog.eqGuardType Try.prog.depth 105 = false from by kernel_rfl)) (AllP.cons (fun (hg : ((Sh.beq sh5 x0 x1) = false)) => c109 k x0 r1 (of_g hg hr43)) (AllP.cons (fun (hg : ((bif (Sh.beq sh5 x0 x1) then true else (!r1)) = false)) => c109 k x1 r2 (of_g hg hr44)) AllP.nil))) ?_
  intro a w h
  refine wp_if h (b := (bif (bif (Sh.beq sh5 x0 x1) then true else (!r1)) then true else (!r2))) (by kernel_rfl) (fun hb => ?_) (fun hb => ?_)
  · replace hF := of_t hb hF
    refine wp_reg_seq tok (orc := orcL []) (fz := []) (l := [4]) (c := _) (.inr fun i h => h) h (by kernel_rfl) (AllP.nil) ?_
    intro a w h
    cases hF
    exact wp_ret (ret_okR tok h rfl (by kernel_rfl)).1
  · replace hF := of_f hb hF
    refine wp_skip ?_
    refine wp_regy_seq tok (orc := orcL []) (fz := []) (l := [5, 6]) (c := _) ([], [], [], []) 12 (.inr fun i h => h) h (by kernel_rfl) (by kernel_rfl) (AllP.nil) ?_
    intro a w h
    obtain ⟨r3, hr39, hF⟩ := of_bind hF
    obtain ⟨r4, hr40, hF⟩ := of_bind hF
    obtain ⟨r5, hr41, hF⟩ := of_bind hF
    obtain ⟨r6, hr42, hF⟩ := of_bind hF
    refine wp_reg_seq tok (orc := orcL [(33, [⟨(.int .i64), r3⟩]), (35, [⟨(.int .i64), r4⟩]), (38, [⟨(.int .i64), r5⟩]), (40, [⟨(.int .i64), r6⟩])]) (fz := []) (l := [5, 6, 7, 8]) (c := _) (.inr fun i h => h) h (by kernel_rfl) (AllP.cons (c132 k (IntKind.i64.wrap (x1.1 - x0.1)) r3 hr39) (AllP.cons (c132 k (IntKind.i64.wrap (x1.2 - x0.2)) r4 hr40) (AllP.cons (c132 k (IntKind.i64.wrap (x1.1 - x0.1)) r5 hr41) (AllP.cons (c132 k (IntKind.i64.wrap (x1.2 - x0.2)) r6 hr42) AllP.nil)))) ?_
    intro a w h
    refine wp_seq ?_
    refine wp_reg_seq tok (orc := orcL []) (fz := []) (l := [5, 6, 46]) (c := _) (.inr fun i h => h) h (by kernel_rfl) (AllP.nil) ?_
    intro a w h
    refine wp_if h (b := (decide (((IntKind.i64.wrap ((5 : Int) * (if (r6 : Int) < r5 then r6 else r5))) : Int) < (IntKind.i64.wrap ((2 : Int) * (if (r4 : Int) > r3 then r4 else r3)))))) (by kernel_rfl) (fun hb => ?_) (fun hb => ?_)
    · replace hF := of_t hb hF
      refine wp_seq <| wp_block ?_
      obtain ⟨r31, hr37, hF⟩ := of_bind hF
      obtain ⟨r32, hr38, hF⟩ := of_bind hF
      refine wp_reg_seq tok (orc := orcL [(49, [⟨(.int .i64), r31⟩]), (51, [⟨(.int .i64), r32⟩])]) (fz := []) (l := [5, 6, 47]) (c := _) (.inr fun i h => h) h (by kernel_rfl) (AllP.cons (c132 k (IntKind.i64.wrap (x1.1 - x0.1)) r31 hr37) (AllP.cons (c132 k (IntKind.i64.wrap (x1.2 - x0.2)) r32 hr38) AllP.nil)) ?_
      intro a w h
      refine wp_if h (b := (bif (decide ((r31 : Int) > r32)) then (decide (((IntKind.i64.wrap (x1.1 - x0.1)) : Int) > (0 : Int))) else false)) (by kernel_rfl) (fun hb => ?_) (fun hb => ?_)
      · replace hF := of_t hb hF
        refine wp_reg_seq tok (orc := orcL []) (fz := []) (l := [4]) (c := _) (.inr fun i h => h) h (by kernel_rfl) (AllP.nil) ?_
        intro a w h
        cases hF
        exact wp_ret (ret_okR tok h rfl (by kernel_rfl)).1
      · replace hF := of_f hb hF
        obtain ⟨r33, hr35, hF⟩ := of_bind hF
        obtain ⟨r34, hr36, hF⟩ := of_bind hF
        refine wp_reg_seq tok (orc := orcL [(59, [⟨(.int .i64), r33⟩]), (61, [⟨(.int .i64), r34⟩])]) (fz := []) (l := [6, 57]) (c := _) (.inr fun i h => h) h (by kernel_rfl) (AllP.cons (c132 k (IntKind.i64.wrap (x1.1 - x0.1)) r33 hr35) (AllP.cons (c132 k (IntKind.i64.wrap (x1.2 - x0.2)) r34 hr36) AllP.nil)) ?_
        intro a w h
        refine wp_if h (b := (decide ((r33 : Int) > r34))) (by kernel_rfl) (fun hb => ?_) (fun hb => ?_)
        · replace hF := of_t hb hF
          refine wp_reg_seq tok (orc := orcL []) (fz := []) (l := [4]) (c := _) (.inr fun i h => h) h (by kernel_rfl) (AllP.nil) ?_
          intro a w h
          cases hF
          exact wp_ret (ret_okR tok h rfl (by kernel_rfl)).1
        · replace hF := of_f hb hF
          refine wp_reg_seq tok (orc := orcL []) (fz := []) (l := [63]) (c := _) (.inr fun i h => h) h (by kernel_rfl) (AllP.nil) ?_
          intro a w h
          refine wp_if h (b := (decide (((IntKind.i64.wrap (x1.2 - x0.2)) : Int) > (0 : Int)))) (by kernel_rfl) (fun hb => ?_) (fun hb => ?_)
          · replace hF := of_t hb hF
            refine wp_reg_seq tok (orc := orcL []) (fz := []) (l := [4]) (c := _) (.inr fun i h => h) h (by kernel_rfl) (AllP.nil) ?_
            intro a w h
            cases hF
            exact wp_ret (ret_okR tok h rfl (by kernel_rfl)).1
          · replace hF := of_f hb hF
            refine wp_skip ?_
            refine wp_reg_seq tok (orc := orcL []) (fz := []) (l := [4]) (c := _) (.inr fun i h => h) h (by kernel_rfl) (AllP.nil) ?_
            intro a w h
            cases hF
            exact wp_ret (ret_okR tok h rfl (by kernel_rfl)).1
    · replace hF := of_f hb hF
      refine wp_skip ?_
      refine wp_seq <| wp_block ?_
      refine wp_reg_seq tok (orc := orcL []) (fz := []) (l := [5, 6, 66]) (c := _) (.inr fun i h => h) h (by kernel_rfl) (AllP.nil) ?_
      intro a w h
      refine wp_if h (b := (bif (decide (((IntKind.i64.wrap (x1.1 - x0.1)) : Int) > (0 : Int))) then (decide (((IntKind.i64.wrap (x1.2 - x0.2)) : Int) > (0 : Int))) else false)) (by kernel_rfl) (fun hb => ?_) (fun hb => ?_)
      · replace hF := of_t hb hF
        refine wp_reg_seq tok (orc := orcL []) (fz := []) (l := [4]) (c := _) (.inr fun i h => h) h (by kernel_rfl) (AllP.nil) ?_
        intro a w h
        cases hF
        exact wp_ret (ret_okR tok h rfl (by kernel_rfl)).1
      · replace hF := of_f hb hF
        refine wp_reg_seq tok (orc := orcL []) (fz := []) (l := [5, 6, 73]) (c := _) (.inr fun i h => h) h (by kernel_rfl) (AllP.nil) ?_
        intro a w h
        refine wp_if h (b := (bif (decide (((IntKind.i64.wrap (x1.1 - x0.1)) : Int) < (0 : Int))) then (decide (((IntKind.i64.wrap (x1.2 - x0.2)) : Int) > (0 : Int))) else false)) (by kernel_rfl) (fun hb => ?_) (fun hb => ?_)
        · replace hF := of_t hb hF
          refine wp_reg_seq tok (orc := orcL []) (fz := []) (l := [4]) (c := _) (.inr fun i h => h) h (by kernel_rfl) (AllP.nil) ?_
          intro a w h
          cases hF
          exact wp_ret (ret_okR tok h rfl (by kernel_rfl)).1
        · replace hF := of_f hb hF
          refine wp_reg_seq tok (orc := orcL []) (fz := []) (l := [80]) (c := _) (.inr fun i h => h) h (by kernel_rfl) (AllP.nil) ?_
          intro a w h
          refine wp_if h (b := (bif (decide (((IntKind.i64.wrap (x1.1 - x0.1)) : Int) < (0 : Int))) then (decide (((IntKind.i64.wrap (x1.2 - x0.2)) : Int) < (0 : Int))) else false)) (by kernel_rfl) (fun hb => ?_) (fun hb => ?_)
          · replace hF := of_t hb hF
            refine wp_reg_seq tok (orc := orcL []) (fz := []) (l := [4]) (c := _) (.inr fun i h => h) h (by kernel_rfl) (AllP.nil) ?_
            intro a w h
            cases hF
            exact wp_ret (ret_okR tok h rfl (by kernel_rfl)).1
          · replace hF := of_f hb hF
            refine wp_skip ?_
            refine wp_reg_seq tok (orc := orcL []) (fz := []) (l := [4]) (c := _) (.inr fun i h => h) h (by kernel_rfl) (AllP.nil) ?_
            intro a w h
            cases hF
            exact wp_ret (ret_okR tok h rfl (by kernel_rfl)).1

def f115 (k : Nat) (x0 : (((List (Int × (Int × Int))) × ((List (Int × (Int × (Int × (Int × (Int × ByteArray)))))) × (List (Int × Int)))) × ((List (List Int)) × ((List (List Int)) × (Option (List ((Int × Int) × Bool))))))) (x1 : Int) (x2 : Int) : Option Int := if (0 ≤ x1 ∧ x1 < (List.length x0.1.2.1 : Int)) then (if (0 ≤ x2 ∧ x2 < (List.length x0.1.2.1 : Int)) then (if (0 ≤ (List.getD x0.1.2.1 (Int.toNat x1) ((0 : Int), ((0 : Int), ((0 : Int), ((0 : Int), ((0 : Int), (⟨#[]⟩ : ByteArray))))))).1 ∧ (List.getD x0.1.2.1 (Int.toNat x1) ((0 : Int), ((0 : Int), ((0 : Int), ((0 : Int), ((0 : Int), (⟨#[]⟩ : ByteArray))))))).1 < (List.length x0.1.1 : Int)) then (if (0 ≤ (List.getD x0.1.2.1 (Int.toNat x1) ((0 : Int), ((0 : Int), ((0 : Int), ((0 : Int), ((0 : Int), (⟨#[]⟩ : ByteArray))))))).2.1 ∧ (List.getD x0.1.2.1 (Int.toNat x1) ((0 : Int), ((0 : Int), ((0 : Int), ((0 : Int), ((0 : Int), (⟨#[]⟩ : ByteArray))))))).2.1 < (List.length x0.1.1 : Int)) then ((f130 k (List.getD x0.1.1 (Int.toNat (List.getD x0.1.2.1 (Int.toNat x1) ((0 : Int), ((0 : Int), ((0 : Int), ((0 : Int), ((0 : Int), (⟨#[]⟩ : ByteArray))))))).1) ((0 : Int), ((0 : Int), (0 : Int)))).2 (List.getD x0.1.1 (Int.toNat (List.getD x0.1.2.1 (Int.toNat x1) ((0 : Int), ((0 : Int), ((0 : Int), ((0 : Int), ((0 : Int), (⟨#[]⟩ : ByteArray))))))).2.1) ((0 : Int), ((0 : Int), (0 : Int)))).2).bind fun r1 => (if (0 ≤ (List.getD x0.1.2.1 (Int.toNat x2) ((0 : Int), ((0 : Int), ((0 : Int), ((0 : Int), ((0 : Int), (⟨#[]⟩ : ByteArray))))))).1 ∧ (List.getD x0.1.2.1 (Int.toNat x2) ((0 : Int), ((0 : Int), ((0 : Int), ((0 : Int), ((0 : Int), (⟨#[]⟩ : ByteArray))))))).1 < (List.length x0.1.1 : Int)) then (if (0 ≤ (List.getD x0.1.2.1 (Int.toNat x2) ((0 : Int), ((0 : Int), ((0 : Int), ((0 : Int), ((0 : Int), (⟨#[]⟩ : ByteArray))))))).2.1 ∧ (List.getD x0.1.2.1 (Int.toNat x2) ((0 : Int), ((0 : Int), ((0 : Int), ((0 : Int), ((0 : Int), (⟨#[]⟩ : ByteArray))))))).2.1 < (List.length x0.1.1 : Int)) then ((f130 k (List.getD x0.1.1 (Int.toNat (List.getD x0.1.2.1 (Int.toNat x2) ((0 : Int), ((0 : Int), ((0 : Int), ((0 : Int), ((0 : Int), (⟨#[]⟩ : ByteArray))))))).1) ((0 : Int), ((0 : Int), (0 : Int)))).2 (List.getD x0.1.1 (Int.toNat (List.getD x0.1.2.1 (Int.toNat x2) ((0 : Int), ((0 : Int), ((0 : Int), ((0 : Int), ((0 : Int), (⟨#[]⟩ : ByteArray))))))).2.1) ((0 : Int), ((0 : Int), (0 : Int)))).2).bind fun r2 => (if (bif (decide ((r1 : Int) < (0 : Int))) then true else (decide ((r2 : Int) < (0 : Int)))) then (some (-1 : Int)) else (if (((8 : Int) : Int) ≠ 0) then (some (Int.tmod (IntKind.i64.wrap ((IntKind.i64.wrap (r2 - r1)) + (8 : Int))) (8 : Int))) else none))) else none) else none)) else none) else none) else none) else none
set_option maxRecDepth 100000 in
/-- 'impl.myNet).winds'. -/
theorem c115 (k : Nat) (x0 : (((List (Int × (Int × Int))) × ((List (Int × (Int × (Int × (Int × (Int × ByteArray)))))) × (List (Int × Int)))) × ((List (List Int)) × ((List (List Int)) × (Option (List ((Int × Int) × Bool))))))) (x1 : Int) (x2 : Int) (r : Int) (hF : f115 k x0 x1 x2 = some r) : PCall Try.prog 115 [⟨sh19, some x0⟩, ⟨(.int .i64), x1⟩, ⟨(.int .i64), x2⟩] [⟨(.int .i64), r⟩] := by
  refine pcall_intro Try.func115 rfl rfl (Nat.le_of_ble_eq_true rfl) ?_
  intro w0 Zi a w h
  rw [f115] at hF
  refine wp_reg_seq tok (orc := orcL []) (fz := []) (l := [0, 1, 2]) (c := _) (.inr fun i h => h) h (by kernel_rfl) (AllP.nil) ?_
  intro a w h
  obtain ⟨hc10, hF⟩ := of_if hF
  obtain ⟨hc11, hF⟩ := of_if hF
  refine wp_regy_seq tok (orc := orcL []) (fz := []) (l := [0, 7, 8]) (c := _) ([(18, 7)], [], [], [(8, [0]), (9, [19]), (10, [20]), (11, [21]), (12, [22]), (13, [2]), (14, [23, 24]), (15, [25])]) 19 (.inr fun i h => h) h (by kernel_rfl) (by kernel_rfl) (AllP.cons hc10 (AllP.cons hc11 AllP.nil)) ?_
  intro a w h
  obtain ⟨hc7, hF⟩ := of_if hF
  obtain ⟨hc8, hF⟩ := of_if hF
  obtain ⟨r1, hr9, hF⟩ := of_bind hF
  refine wp_regy_seq tok (orc := orcL [(47, [⟨(.int .i64), r1⟩])]) (fz := []) (l := [0, 8, 9]) (c := _) ([], [], [], []) 22 (.inr fun i h => h) h (by kernel_rfl) (by kernel_rfl) (AllP.cons hc7 (AllP.cons hc8 (AllP.cons (c130 k (List.getD x0.1.1 (Int.toNat (List.getD x0.1.2.1 (Int.toNat x1) ((0 : Int), ((0 : Int), ((0 : Int), ((0 : Int), ((0 : Int), (⟨#[]⟩ : ByteArray))))))).1) ((0 : Int), ((0 : Int), (0 : Int)))).2 (List.getD x0.1.1 (Int.toNat (List.getD x0.1.2.1 (Int.toNat x1) ((0 : Int), ((0 : Int), ((0 : Int), ((0 : Int), ((0 : Int), (⟨#[]⟩ : ByteArray))))))).2.1) ((0 : Int), ((0 : Int), (0 : Int)))).2 r1 hr9) AllP.nil))) ?_
  intro a w h
  obtain ⟨hc4, hF⟩ := of_if hF
  obtain ⟨hc5, hF⟩ := of_if hF
  obtain ⟨r2, hr6, hF⟩ := of_bind hF
  refine wp_regy_seq tok (orc := orcL [(68, [⟨(.int .i64), r2⟩])]) (fz := []) (l := [9, 10]) (c := _) ([], [], [], []) 22 (.inr fun i h => h) h (by kernel_rfl) (by kernel_rfl) (AllP.cons hc4 (AllP.cons hc5 (AllP.cons (c130 k (List.getD x0.1.1 (Int.toNat (List.getD x0.1.2.1 (Int.toNat x2) ((0 : Int), ((0 : Int), ((0 : Int), ((0 : Int), ((0 : Int), (⟨#[]⟩ : ByteArray))))))).1) ((0 : Int), ((0 : Int), (0 : Int)))).2 (List.getD x0.1.1 (Int.toNat (List.getD x0.1.2.1 (Int.toNat x2) ((0 : Int), ((0 : Int), ((0 : Int), ((0 : Int), ((0 : Int), (⟨#[]⟩ : ByteArray))))))).2.1) ((0 : Int), ((0 : Int), (0 : Int)))).2 r2 hr6) AllP.nil))) ?_
  intro a w h
  refine wp_seq ?_
  refine wp_reg_seq tok (orc := orcL []) (fz := []) (l := [9, 10, 74]) (c := _) (.inr fun i h => h) h (by kernel_rfl) (AllP.nil) ?_
  intro a w h
  refine wp_if h (b := (bif (decide ((r1 : Int) < (0 : Int))) then true else (decide ((r2 : Int) < (0 : Int))))) (by kernel_rfl) (fun hb => ?_) (fun hb => ?_)
  · replace hF := of_t hb hF
    refine wp_reg_seq tok (orc := orcL []) (fz := []) (l := [6]) (c := _) (.inr fun i h => h) h (by kernel_rfl) (AllP.nil) ?_
    intro a w h
    cases hF
    exact wp_ret (ret_okR tok h rfl (by kernel_rfl)).1
  · replace hF := of_f hb hF
    refine wp_skip ?_
    obtain ⟨hc3, hF⟩ := of_if hF
    refine wp_reg_seq tok (orc := orcL []) (fz := []) (l := [6]) (c := _) (.inr fun i h => h) h (by kernel_rfl) (AllP.cons hc3 AllP.nil) ?_
    intro a w h
    cases hF
    exact wp_ret (ret_okR tok h rfl (by kernel_rfl)).1

def f77.j9 (k : Nat) : Bool → Option Int
  | v8 => if v8 then (some (3 : Int)) else (some (0 : Int))
def f77.j7 (k : Nat) (r1 : Int) : Bool → Option Int
  | v6 => if v6 then (some (5 : Int)) else (if ((r1 : Int) == (5 : Int)) then (f77.j9 k ((r1 : Int) == (5 : Int))) else (f77.j9 k ((r1 : Int) == (6 : Int))))
def f77 (k : Nat) (x0 : (((List (Int × (Int × Int))) × ((List (Int × (Int × (Int × (Int × (Int × ByteArray)))))) × (List (Int × Int)))) × ((List (List Int)) × ((List (List Int)) × (Option (List ((Int × Int) × Bool))))))) (x1 : Int) (x2 : Int) : Option Int := if (0 ≤ x1 ∧ x1 < (List.length x0.1.2.1 : Int)) then (if (0 ≤ x2 ∧ x2 < (List.length x0.1.2.1 : Int)) then (if (bif (((List.getD x0.1.2.1 (Int.toNat x1) ((0 : Int), ((0 : Int), ((0 : Int), ((0 : Int), ((0 : Int), (⟨#[]⟩ : ByteArray))))))).2.1 : Int) != (List.getD x0.1.2.1 (Int.toNat x2) ((0 : Int), ((0 : Int), ((0 : Int), ((0 : Int), ((0 : Int), (⟨#[]⟩ : ByteArray))))))).1) then true else (mget (Sh.beq sh5) x0.2.2.2 (x1, x2) false)) then (some (-1 : Int)) else (if (((List.getD x0.1.2.1 (Int.toNat x2) ((0 : Int), ((0 : Int), ((0 : Int), ((0 : Int), ((0 : Int), (⟨#[]⟩ : ByteArray))))))).2.1 : Int) == (List.getD x0.1.2.1 (Int.toNat x1) ((0 : Int), ((0 : Int), ((0 : Int), ((0 : Int), ((0 : Int), (⟨#[]⟩ : ByteArray))))))).1) then (some (20 : Int)) else ((f115 k x0 x1 x2).bind fun r1 => (if ((r1 : Int) == (2 : Int)) then (f77.j7 k r1 ((r1 : Int) == (2 : Int))) else (if ((r1 : Int) == (3 : Int)) then (f77.j7 k r1 ((r1 : Int) == (3 : Int))) else (f77.j7 k r1 ((r1 : Int) == (4 : Int)))))))) else none) else none
set_option maxRecDepth 100000 in
/-- 'impl.myNet).turn'. -/
theorem c77 (k : Nat) (x0 : (((List (Int × (Int × Int))) × ((List (Int × (Int × (Int × (Int × (Int × ByteArray)))))) × (List (Int × Int)))) × ((List (List Int)) × ((List (List Int)) × (Option (List ((Int × Int) × Bool))))))) (x1 : Int) (x2 : Int) (r : Int) (hF : f77 k x0 x1 x2 = some r) : PCall Try.prog 77 [⟨sh19, some x0⟩, ⟨(.int .i64), x1⟩, ⟨(.int .i64), x2⟩] [⟨(.int .i64), r⟩] := by
  refine pcall_intro Try.func77 rfl rfl (Nat.le_of_ble_eq_true rfl) ?_
  intro w0 Zi a w h
  rw [f77] at hF
  refine wp_reg_seq tok (orc := orcL []) (fz := []) (l := [0, 1, 2]) (c := _) (.inr fun i h => h) h (by kernel_rfl) (AllP.nil) ?_
  intro a w h
  obtain ⟨hc11, hF⟩ := of_if hF
  obtain ⟨hc12, hF⟩ := of_if hF
  refine wp_regy_seq tok (orc := orcL []) (fz := []) (l := [0, 1, 2, 7, 8]) (c := _) ([(18, 7)], [], [], [(8, [0]), (9, [17]), (10, [18]), (11, [19]), (12, [20]), (13, [2]), (14, [21, 22]), (15, [23])]) 19 (.inr fun i h => h) h (by kernel_rfl) (by kernel_rfl) (AllP.cons hc11 (AllP.cons hc12 AllP.nil)) ?_
  intro a w h
  refine wp_seq ?_
  refine wp_reg_seq tok (orc := orcL []) (fz := []) (l := [0, 1, 2, 7, 8, 39]) (c := _) (.inr fun i h => h) h (by kernel_rfl) (AllP.cons (fun (_ : ((((List.getD x0.1.2.1 (Int.toNat x1) ((0 : Int), ((0 : Int), ((0 : Int), ((0 : Int), ((0 : Int), (⟨#[]⟩ : ByteArray))))))).2.1 : Int) != (List.getD x0.1.2.1 (Int.toNat x2) ((0 : Int), ((0 : Int), ((0 : Int), ((0 : Int), ((0 : Int), (⟨#[]⟩ : ByteArray))))))).1) = false)) => (show eqTy Try.prog 9 82 (.st (.pair (.int .i64) (.int .i64))) = true from by kernel_rfl)) AllP.nil) ?_
  intro a w h
  refine wp_if h (b := (bif (((List.getD x0.1.2.1 (Int.toNat x1) ((0 : Int), ((0 : Int), ((0 : Int), ((0 : Int), ((0 : Int), (⟨#[]⟩ : ByteArray))))))).2.1 : Int) != (List.getD x0.1.2.1 (Int.toNat x2) ((0 : Int), ((0 : Int), ((0 : Int), ((0 : Int), ((0 : Int), (⟨#[]⟩ : ByteArray))))))).1) then true else (mget (Sh.beq sh5) x0.2.2.2 (x1, x2) false))) (by kernel_rfl) (fun hb => ?_) (fun hb => ?_)
  · replace hF := of_t hb hF
    refine wp_reg_seq tok (orc := orcL []) (fz := []) (l := [6]) (c := _) (.inr fun i h => h) h (by kernel_rfl) (AllP.nil) ?_
    intro a w h
    cases hF
    exact wp_ret (ret_okR tok h rfl (by kernel_rfl)).1
  · replace hF := of_f hb hF
    refine wp_skip ?_
    refine wp_seq ?_
    refine wp_reg_seq tok (orc := orcL []) (fz := []) (l := [0, 1, 2, 44]) (c := _) (.inr fun i h => h) h (by kernel_rfl) (AllP.nil) ?_
    intro a w h
    refine wp_if h (b := (((List.getD x0.1.2.1 (Int.toNat x2) ((0 : Int), ((0 : Int), ((0 : Int), ((0 : Int), ((0 : Int), (⟨#[]⟩ : ByteArray))))))).2.1 : Int) == (List.getD x0.1.2.1 (Int.toNat x1) ((0 : Int), ((0 : Int), ((0 : Int), ((0 : Int), ((0 : Int), (⟨#[]⟩ : ByteArray))))))).1)) (by kernel_rfl) (fun hb => ?_) (fun hb => ?_)
    · replace hF := of_t hb hF
      refine wp_reg_seq tok (orc := orcL []) (fz := []) (l := [6]) (c := _) (.inr fun i h => h) h (by kernel_rfl) (AllP.nil) ?_
      intro a w h
      cases hF
      exact wp_ret (ret_okR tok h rfl (by kernel_rfl)).1
    · replace hF := of_f hb hF
      refine wp_skip ?_
      refine wp_seq ?_
      obtain ⟨r1, hr10, hF⟩ := of_bind hF
      refine wp_reg_seq tok (orc := orcL [(48, [⟨(.int .i64), r1⟩])]) (fz := []) (l := [48]) (c := _) (.inr fun i h => h) h (by kernel_rfl) (AllP.cons (c115 k x0 x1 x2 r1 hr10) AllP.nil) ?_
      intro a w h
      refine wp_block ?_
      refine wp_seq ?_
      refine wp_reg_seq tok (orc := orcL []) (fz := []) (l := [48, 49]) (c := _) (.inr fun i h => h) h (by kernel_rfl) (AllP.nil) ?_
      intro a w h
      refine wp_midT (fun a w => ∃ v : Bool, f77.j7 k r1 v = some r ∧ Rel w0 (fun _ => False) Zi Try.f77.ntmps ((fun (v6 : Bool) => ([(48, .val (.int .i64) r1), (49, .val .bool v6)] : SS)) v) a w) ?_ ?_
      ·
        refine wp_if h (b := ((r1 : Int) == (2 : Int))) (by kernel_rfl) (fun hb => ?_) (fun hb => ?_)
        · replace hF := of_t hb hF
          refine wp_skip ?_
          exact ⟨((r1 : Int) == (2 : Int)), hF, h.arrive (fz := []) (l := [48, 49]) (.inr fun i h => h) (by kernel_rfl)⟩
        · replace hF := of_f hb hF
          refine wp_reg_seq tok (orc := orcL []) (fz := []) (l := [48, 49]) (c := _) (.inr fun i h => h) h (by kernel_rfl) (AllP.nil) ?_
          intro a w h
          refine wp_if h (b := ((r1 : Int) == (3 : Int))) (by kernel_rfl) (fun hb => ?_) (fun hb => ?_)
          · replace hF := of_t hb hF
            refine wp_skip ?_
            exact ⟨((r1 : Int) == (3 : Int)), hF, h.arrive (fz := []) (l := [48, 49]) (.inr fun i h => h) (by kernel_rfl)⟩
          · replace hF := of_f hb hF
            refine wp_reg tok (orc := orcL []) (fz := []) (l := [48, 49]) (c := _) (.inr fun i h => h) h (by kernel_rfl) (AllP.nil) ?_
            intro a w h
            exact ⟨((r1 : Int) == (4 : Int)), hF, h.arrive (fz := []) (l := [48, 49]) (.inr fun i h => h) (by kernel_rfl)⟩
      · rintro a w ⟨v6, hF, h⟩
        rw [f77.j7] at hF
        refine wp_if h (b := v6) (by kernel_rfl) (fun hb => ?_) (fun hb => ?_)
        · replace hF := of_t hb hF
          refine wp_reg_seq tok (orc := orcL []) (fz := []) (l := [6]) (c := _) (.inr fun i h => h) h (by kernel_rfl) (AllP.nil) ?_
          intro a w h
          cases hF
          exact wp_ret (ret_okR tok h rfl (by kernel_rfl)).1
        · replace hF := of_f hb hF
          refine wp_seq ?_
          refine wp_reg_seq tok (orc := orcL []) (fz := []) (l := [48, 53]) (c := _) (.inr fun i h => h) h (by kernel_rfl) (AllP.nil) ?_
          intro a w h
          refine wp_midT (fun a w => ∃ v : Bool, f77.j9 k v = some r ∧ Rel w0 (fun _ => False) Zi Try.f77.ntmps ((fun (v8 : Bool) => ([(53, .val .bool v8)] : SS)) v) a w) ?_ ?_
          ·
            refine wp_if h (b := ((r1 : Int) == (5 : Int))) (by kernel_rfl) (fun hb => ?_) (fun hb => ?_)
            · replace hF := of_t hb hF
              refine wp_skip ?_
              exact ⟨((r1 : Int) == (5 : Int)), hF, h.arrive (fz := []) (l := [53]) (.inr fun i h => h) (by kernel_rfl)⟩
            · replace hF := of_f hb hF
              refine wp_reg tok (orc := orcL []) (fz := []) (l := [53]) (c := _) (.inr fun i h => h) h (by kernel_rfl) (AllP.nil) ?_
              intro a w h
              exact ⟨((r1 : Int) == (6 : Int)), hF, h.arrive (fz := []) (l := [53]) (.inr fun i h => h) (by kernel_rfl)⟩
          · rintro a w ⟨v8, hF, h⟩
            rw [f77.j9] at hF
            refine wp_if h (b := v8) (by kernel_rfl) (fun hb => ?_) (fun hb => ?_)
            · replace hF := of_t hb hF
              refine wp_reg_seq tok (orc := orcL []) (fz := []) (l := [6]) (c := _) (.inr fun i h => h) h (by kernel_rfl) (AllP.nil) ?_
              intro a w h
              cases hF
              exact wp_ret (ret_okR tok h rfl (by kernel_rfl)).1
            · replace hF := of_f hb hF
              refine wp_skip ?_
              refine wp_reg_seq tok (orc := orcL []) (fz := []) (l := [6]) (c := _) (.inr fun i h => h) h (by kernel_rfl) (AllP.nil) ?_
              intro a w h
              cases hF
              exact wp_ret (ret_okR tok h rfl (by kernel_rfl)).1

def f120.j807 (k : Nat) (v790 : Int) (q716 : ((List Int) × ((List (Int × (Int × Int))) × Unit) × Int) → Option (List Int)) : ((List Int) × ((List (Int × (Int × Int))) × Unit)) → Option (List Int)
  | (v805, v806) => q716 (v805, v806, (IntKind.i64.wrap (v790 + (1 : Int))))
def f120.l716 (k : Nat) (x0 : (((List (Int × (Int × Int))) × ((List (Int × (Int × (Int × (Int × (Int × ByteArray)))))) × (List (Int × Int)))) × ((List (List Int)) × ((List (List Int)) × (Option (List ((Int × Int) × Bool))))))) (r715 : ((Int × (Int × Int)) × ((List (Int × (Int × Int))) × Unit))) (v713 : (List Bool)) (q478 : ((List Int) × (List Bool) × ((List (Int × (Int × Int))) × Unit)) → Option (List Int)) : Nat → ((List Int) × ((List (Int × (Int × Int))) × Unit) × Int) → Option (List Int)
  | 0, _ => none
  | m716 + 1, (v788, v789, v790) => if (decide ((v790 : Int) < (List.length (List.getD x0.2.1 (Int.toNat (List.getD x0.1.2.1 (Int.toNat r715.1.2.2) ((0 : Int), ((0 : Int), ((0 : Int), ((0 : Int), ((0 : Int), (⟨#[]⟩ : ByteArray))))))).2.1) ([] : (List Int))) : Int))) then (if (0 ≤ v790 ∧ v790 < (List.length (List.getD x0.2.1 (Int.toNat (List.getD x0.1.2.1 (Int.toNat r715.1.2.2) ((0 : Int), ((0 : Int), ((0 : Int), ((0 : Int), ((0 : Int), (⟨#[]⟩ : ByteArray))))))).2.1) ([] : (List Int))) : Int)) then (if (0 ≤ (List.getD (List.getD x0.2.1 (Int.toNat (List.getD x0.1.2.1 (Int.toNat r715.1.2.2) ((0 : Int), ((0 : Int), ((0 : Int), ((0 : Int), ((0 : Int), (⟨#[]⟩ : ByteArray))))))).2.1) ([] : (List Int))) (Int.toNat v790) (0 : Int)) ∧ (List.getD (List.getD x0.2.1 (Int.toNat (List.getD x0.1.2.1 (Int.toNat r715.1.2.2) ((0 : Int), ((0 : Int), ((0 : Int), ((0 : Int), ((0 : Int), (⟨#[]⟩ : ByteArray))))))).2.1) ([] : (List Int))) (Int.toNat v790) (0 : Int)) < (List.length (List.set v713 (Int.toNat r715.1.2.2) true) : Int)) then (if (List.getD (List.set v713 (Int.toNat r715.1.2.2) true) (Int.toNat (List.getD (List.getD x0.2.1 (Int.toNat (List.getD x0.1.2.1 (Int.toNat r715.1.2.2) ((0 : Int), ((0 : Int), ((0 : Int), ((0 : Int), ((0 : Int), (⟨#[]⟩ : ByteArray))))))).2.1) ([] : (List Int))) (Int.toNat v790) (0 : Int))) false) then (f120.j807 k v790 ((f120.l716 k x0 r715 v713 q478) m716) (v788, v789)) else ((f77 k x0 r715.1.2.2 (List.getD (List.getD x0.2.1 (Int.toNat (List.getD x0.1.2.1 (Int.toNat r715.1.2.2) ((0 : Int), ((0 : Int), ((0 : Int), ((0 : Int), ((0 : Int), (⟨#[]⟩ : ByteArray))))))).2.1) ([] : (List Int))) (Int.toNat v790) (0 : Int))).bind fun r808 => (if (decide ((r808 : Int) < (0 : Int))) then (f120.j807 k v790 ((f120.l716 k x0 r715 v713 q478) m716) (v788, v789)) else (if (0 ≤ (List.getD (List.getD x0.2.1 (Int.toNat (List.getD x0.1.2.1 (Int.toNat r715.1.2.2) ((0 : Int), ((0 : Int), ((0 : Int), ((0 : Int), ((0 : Int), (⟨#[]⟩ : ByteArray))))))).2.1) ([] : (List Int))) (Int.toNat v790) (0 : Int)) ∧ (List.getD (List.getD x0.2.1 (Int.toNat (List.getD x0.1.2.1 (Int.toNat r715.1.2.2) ((0 : Int), ((0 : Int), ((0 : Int), ((0 : Int), ((0 : Int), (⟨#[]⟩ : ByteArray))))))).2.1) ([] : (List Int))) (Int.toNat v790) (0 : Int)) < (List.length x0.1.2.1 : Int)) then (if (0 ≤ (List.getD (List.getD x0.2.1 (Int.toNat (List.getD x0.1.2.1 (Int.toNat r715.1.2.2) ((0 : Int), ((0 : Int), ((0 : Int), ((0 : Int), ((0 : Int), (⟨#[]⟩ : ByteArray))))))).2.1) ([] : (List Int))) (Int.toNat v790) (0 : Int)) ∧ (List.getD (List.getD x0.2.1 (Int.toNat (List.getD x0.1.2.1 (Int.toNat r715.1.2.2) ((0 : Int), ((0 : Int), ((0 : Int), ((0 : Int), ((0 : Int), (⟨#[]⟩ : ByteArray))))))).2.1) ([] : (List Int))) (Int.toNat v790) (0 : Int)) < (List.length v788 : Int)) then (if (((decide (((List.getD v788 (Int.toNat (List.getD (List.getD x0.2.1 (Int.toNat (List.getD x0.1.2.1 (Int.toNat r715.1.2.2) ((0 : Int), ((0 : Int), ((0 : Int), ((0 : Int), ((0 : Int), (⟨#[]⟩ : ByteArray))))))).2.1) ([] : (List Int))) (Int.toNat v790) (0 : Int))) (0 : Int)) : Int) < (0 : Int))) = false) → (0 ≤ (List.getD (List.getD x0.2.1 (Int.toNat (List.getD x0.1.2.1 (Int.toNat r715.1.2.2) ((0 : Int), ((0 : Int), ((0 : Int), ((0 : Int), ((0 : Int), (⟨#[]⟩ : ByteArray))))))).2.1) ([] : (List Int))) (Int.toNat v790) (0 : Int)) ∧ (List.getD (List.getD x0.2.1 (Int.toNat (List.getD x0.1.2.1 (Int.toNat r715.1.2.2) ((0 : Int), ((0 : Int), ((0 : Int), ((0 : Int), ((0 : Int), (⟨#[]⟩ : ByteArray))))))).2.1) ([] : (List Int))) (Int.toNat v790) (0 : Int)) < (List.length v788 : Int))) then ((some ((bif (decide (((List.getD v788 (Int.toNat (List.getD (List.getD x0.2.1 (Int.toNat (List.getD x0.1.2.1 (Int.toNat r715.1.2.2) ((0 : Int), ((0 : Int), ((0 : Int), ((0 : Int), ((0 : Int), (⟨#[]⟩ : ByteArray))))))).2.1) ([] : (List Int))) (Int.toNat v790) (0 : Int))) (0 : Int)) : Int) < (0 : Int))) then true else (decide (((IntKind.i64.wrap ((IntKind.i64.wrap (r715.1.1 + r808)) + (List.getD x0.1.2.1 (Int.toNat (List.getD (List.getD x0.2.1 (Int.toNat (List.getD x0.1.2.1 (Int.toNat r715.1.2.2) ((0 : Int), ((0 : Int), ((0 : Int), ((0 : Int), ((0 : Int), (⟨#[]⟩ : ByteArray))))))).2.1) ([] : (List Int))) (Int.toNat v790) (0 : Int))) ((0 : Int), ((0 : Int), ((0 : Int), ((0 : Int), ((0 : Int), (⟨#[]⟩ : ByteArray))))))).2.2.2.1)) : Int) < (List.getD v788 (Int.toNat (List.getD (List.getD x0.2.1 (Int.toNat (List.getD x0.1.2.1 (Int.toNat r715.1.2.2) ((0 : Int), ((0 : Int), ((0 : Int), ((0 : Int), ((0 : Int), (⟨#[]⟩ : ByteArray))))))).2.1) ([] : (List Int))) (Int.toNat v790) (0 : Int))) (0 : Int))))) : Bool)).bind fun v809 => (if v809 then (if (0 ≤ (List.getD (List.getD x0.2.1 (Int.toNat (List.getD x0.1.2.1 (Int.toNat r715.1.2.2) ((0 : Int), ((0 : Int), ((0 : Int), ((0 : Int), ((0 : Int), (⟨#[]⟩ : ByteArray))))))).2.1) ([] : (List Int))) (Int.toNat v790) (0 : Int)) ∧ (List.getD (List.getD x0.2.1 (Int.toNat (List.getD x0.1.2.1 (Int.toNat r715.1.2.2) ((0 : Int), ((0 : Int), ((0 : Int), ((0 : Int), ((0 : Int), (⟨#[]⟩ : ByteArray))))))).2.1) ([] : (List Int))) (Int.toNat v790) (0 : Int)) < (List.length v788 : Int)) then ((some ((List.set v788 (Int.toNat (List.getD (List.getD x0.2.1 (Int.toNat (List.getD x0.1.2.1 (Int.toNat r715.1.2.2) ((0 : Int), ((0 : Int), ((0 : Int), ((0 : Int), ((0 : Int), (⟨#[]⟩ : ByteArray))))))).2.1) ([] : (List Int))) (Int.toNat v790) (0 : Int))) (IntKind.i64.wrap ((IntKind.i64.wrap (r715.1.1 + r808)) + (List.getD x0.1.2.1 (Int.toNat (List.getD (List.getD x0.2.1 (Int.toNat (List.getD x0.1.2.1 (Int.toNat r715.1.2.2) ((0 : Int), ((0 : Int), ((0 : Int), ((0 : Int), ((0 : Int), (⟨#[]⟩ : ByteArray))))))).2.1) ([] : (List Int))) (Int.toNat v790) (0 : Int))) ((0 : Int), ((0 : Int), ((0 : Int), ((0 : Int), ((0 : Int), (⟨#[]⟩ : ByteArray))))))).2.2.2.1))) : (List Int))).bind fun v810 => ((f121 k v789 ((IntKind.i64.wrap ((IntKind.i64.wrap (r715.1.1 + r808)) + (List.getD x0.1.2.1 (Int.toNat (List.getD (List.getD x0.2.1 (Int.toNat (List.getD x0.1.2.1 (Int.toNat r715.1.2.2) ((0 : Int), ((0 : Int), ((0 : Int), ((0 : Int), ((0 : Int), (⟨#[]⟩ : ByteArray))))))).2.1) ([] : (List Int))) (Int.toNat v790) (0 : Int))) ((0 : Int), ((0 : Int), ((0 : Int), ((0 : Int), ((0 : Int), (⟨#[]⟩ : ByteArray))))))).2.2.2.1)), ((0 : Int), (List.getD (List.getD x0.2.1 (Int.toNat (List.getD x0.1.2.1 (Int.toNat r715.1.2.2) ((0 : Int), ((0 : Int), ((0 : Int), ((0 : Int), ((0 : Int), (⟨#[]⟩ : ByteArray))))))).2.1) ([] : (List Int))) (Int.toNat v790) (0 : Int))))).bind fun r811 => (f120.j807 k v790 ((f120.l716 k x0 r715 v713 q478) m716) (v810, r811)))) else none) else (f120.j807 k v790 ((f120.l716 k x0 r715 v713 q478) m716) (v788, v789)))) else none) else none) else none)))) else none) else none) else (q478 (v788, (List.set v713 (Int.toNat r715.1.2.2) true), v789))
def f120.l478 (k : Nat) (x0 : (((List (Int × (Int × Int))) × ((List (Int × (Int × (Int × (Int × (Int × ByteArray)))))) × (List (Int × Int)))) × ((List (List Int)) × ((List (List Int)) × (Option (List ((Int × Int) × Bool))))))) : Nat → ((List Int) × (List Bool) × ((List (Int × (Int × Int))) × Unit)) → Option (List Int)
  | 0, _ => none
  | m478 + 1, (v712, v713, v714) => if (decide (((List.length v714.1 : Int) : Int) > (0 : Int))) then ((f122 k v714).bind fun r715 => (if (0 ≤ r715.1.2.2 ∧ r715.1.2.2 < (List.length v713 : Int)) then (if (List.getD v713 (Int.toNat r715.1.2.2) false) then ((f120.l478 k x0) m478 (v712, v713, r715.2)) else (if (0 ≤ r715.1.2.2 ∧ r715.1.2.2 < (List.length v713 : Int)) then (if (0 ≤ r715.1.2.2 ∧ r715.1.2.2 < (List.length x0.1.2.1 : Int)) then (if (0 ≤ (List.getD x0.1.2.1 (Int.toNat r715.1.2.2) ((0 : Int), ((0 : Int), ((0 : Int), ((0 : Int), ((0 : Int), (⟨#[]⟩ : ByteArray))))))).2.1 ∧ (List.getD x0.1.2.1 (Int.toNat r715.1.2.2) ((0 : Int), ((0 : Int), ((0 : Int), ((0 : Int), ((0 : Int), (⟨#[]⟩ : ByteArray))))))).2.1 < (List.length x0.2.1 : Int)) then (f120.l716 k x0 r715 v713 ((f120.l478 k x0) m478) k (v712, r715.2, (0 : Int))) else none) else none) else none)) else none)) else (some v712)
def f120.l80 (k : Nat) (x0 : (((List (Int × (Int × Int))) × ((List (Int × (Int × (Int × (Int × (Int × ByteArray)))))) × (List (Int × Int)))) × ((List (List Int)) × ((List (List Int)) × (Option (List ((Int × Int) × Bool))))))) (x1 : Int) : Nat → ((List Int) × ((List (Int × (Int × Int))) × Unit) × Int) → Option (List Int)
  | 0, _ => none
  | m80 + 1, (v114, v115, v116) => if (decide ((v116 : Int) < (List.length (List.getD x0.2.1 (Int.toNat x1) ([] : (List Int))) : Int))) then (if (0 ≤ v116 ∧ v116 < (List.length (List.getD x0.2.1 (Int.toNat x1) ([] : (List Int))) : Int)) then (if (0 ≤ (List.getD (List.getD x0.2.1 (Int.toNat x1) ([] : (List Int))) (Int.toNat v116) (0 : Int)) ∧ (List.getD (List.getD x0.2.1 (Int.toNat x1) ([] : (List Int))) (Int.toNat v116) (0 : Int)) < (List.length x0.1.2.1 : Int)) then (if (0 ≤ (List.getD (List.getD x0.2.1 (Int.toNat x1) ([] : (List Int))) (Int.toNat v116) (0 : Int)) ∧ (List.getD (List.getD x0.2.1 (Int.toNat x1) ([] : (List Int))) (Int.toNat v116) (0 : Int)) < (List.length v114 : Int)) then (if (0 ≤ (List.getD (List.getD x0.2.1 (Int.toNat x1) ([] : (List Int))) (Int.toNat v116) (0 : Int)) ∧ (List.getD (List.getD x0.2.1 (Int.toNat x1) ([] : (List Int))) (Int.toNat v116) (0 : Int)) < (List.length (List.set v114 (Int.toNat (List.getD (List.getD x0.2.1 (Int.toNat x1) ([] : (List Int))) (Int.toNat v116) (0 : Int))) (List.getD x0.1.2.1 (Int.toNat (List.getD (List.getD x0.2.1 (Int.toNat x1) ([] : (List Int))) (Int.toNat v116) (0 : Int))) ((0 : Int), ((0 : Int), ((0 : Int), ((0 : Int), ((0 : Int), (⟨#[]⟩ : ByteArray))))))).2.2.2.1) : Int)) then ((f121 k v115 ((List.getD (List.set v114 (Int.toNat (List.getD (List.getD x0.2.1 (Int.toNat x1) ([] : (List Int))) (Int.toNat v116) (0 : Int))) (List.getD x0.1.2.1 (Int.toNat (List.getD (List.getD x0.2.1 (Int.toNat x1) ([] : (List Int))) (Int.toNat v116) (0 : Int))) ((0 : Int), ((0 : Int), ((0 : Int), ((0 : Int), ((0 : Int), (⟨#[]⟩ : ByteArray))))))).2.2.2.1) (Int.toNat (List.getD (List.getD x0.2.1 (Int.toNat x1) ([] : (List Int))) (Int.toNat v116) (0 : Int))) (0 : Int)), ((0 : Int), (List.getD (List.getD x0.2.1 (Int.toNat x1) ([] : (List Int))) (Int.toNat v116) (0 : Int))))).bind fun r123 => ((f120.l80 k x0 x1) m80 ((List.set v114 (Int.toNat (List.getD (List.getD x0.2.1 (Int.toNat x1) ([] : (List Int))) (Int.toNat v116) (0 : Int))) (List.getD x0.1.2.1 (Int.toNat (List.getD (List.getD x0.2.1 (Int.toNat x1) ([] : (List Int))) (Int.toNat v116) (0 : Int))) ((0 : Int), ((0 : Int), ((0 : Int), ((0 : Int), ((0 : Int), (⟨#[]⟩ : ByteArray))))))).2.2.2.1), r123, (IntKind.i64.wrap (v116 + (1 : Int)))))) else none) else none) else none) else none) else (f120.l478 k x0 k (v114, (List.replicate (Int.toNat (List.length x0.1.2.1 : Int)) false), v115))
def f120.l16 (k : Nat) (x0 : (((List (Int × (Int × Int))) × ((List (Int × (Int × (Int × (Int × (Int × ByteArray)))))) × (List (Int × Int)))) × ((List (List Int)) × ((List (List Int)) × (Option (List ((Int × Int) × Bool))))))) (x1 : Int) : Nat → ((List Int) × Int) → Option (List Int)
  | 0, _ => none
  | m16 + 1, (v27, v28) => if (decide ((v28 : Int) < (List.length (List.replicate (Int.toNat (List.length x0.1.2.1 : Int)) (0 : Int)) : Int))) then (if (0 ≤ v28 ∧ v28 < (List.length v27 : Int)) then ((f120.l16 k x0 x1) m16 ((List.set v27 (Int.toNat v28) (-1 : Int)), (IntKind.i64.wrap (v28 + (1 : Int))))) else none) else (if (0 ≤ x1 ∧ x1 < (List.length x0.2.1 : Int)) then (f120.l80 k x0 x1 k (v27, (([] : (List (Int × (Int × Int)))), ()), (0 : Int))) else none)
def f120 (k : Nat) (x0 : (((List (Int × (Int × Int))) × ((List (Int × (Int × (Int × (Int × (Int × ByteArray)))))) × (List (Int × Int)))) × ((List (List Int)) × ((List (List Int)) × (Option (List ((Int × Int) × Bool))))))) (x1 : Int) : Option (List Int) := if (0 ≤ (List.length x0.1.2.1 : Int) ∧ Int.toNat (List.length x0.1.2.1 : Int) * 8 ≤ 140737488355328) then (if (0 ≤ (List.length x0.1.2.1 : Int) ∧ Int.toNat (List.length x0.1.2.1 : Int) * 1 ≤ 140737488355328) then (f120.l16 k x0 x1 k ((List.replicate (Int.toNat (List.length x0.1.2.1 : Int)) (0 : Int)), (0 : Int))) else none) else none
set_option maxRecDepth 100000 in
/-- 'impl.myNet).forth'. -/
theorem c120 (k : Nat) (x0 : (((List (Int × (Int × Int))) × ((List (Int × (Int × (Int × (Int × (Int × ByteArray)))))) × (List (Int × Int)))) × ((List (List Int)) × ((List (List Int)) × (Option (List ((Int × Int) × Bool))))))) (x1 : Int) (r : (List Int)) (hF : f120 k x0 x1 = some r) : PCall Try.prog 120 [⟨sh19, some x0⟩, ⟨(.int .i64), x1⟩] [⟨(.sl true 2 (.int .i64)), r⟩] := by
  refine pcall_intro Try.func120 rfl rfl (Nat.le_of_ble_eq_true rfl) ?_
  intro w0 Zi a w h
  rw [f120] at hF
  refine wp_reg_seq tok (orc := orcL []) (fz := []) (l := [0, 1]) (c := _) (.inr fun i h => h) h (by kernel_rfl) (AllP.nil) ?_
  intro a w h
  refine wp_reg_seq tok (orc := orcL []) (fz := []) (l := [0, 1, 5]) (c := _) (.inr fun i h => h) h (by kernel_rfl) (AllP.nil) ?_
  intro a w h
  obtain ⟨hc828, hF⟩ := of_if hF
  obtain ⟨hc829, hF⟩ := of_if hF
  refine wp_regy_seq tok (orc := orcL []) (fz := []) (l := [0, 1, 6, 7]) (c := _) ([], [(4, [24])], [], [(2, [5]), (3, [25])]) 5 (.inr fun i h => h) h (by kernel_rfl) (by kernel_rfl) (AllP.cons hc828 (AllP.cons hc829 AllP.nil)) ?_
  intro a w h
  refine wp_seq ?_
  refine wp_reg_seq tok (orc := orcL []) (fz := []) (l := [0, 1, 6, 7, 28, 29]) (c := _) (.inr fun i h => h) h (by kernel_rfl) (AllP.nil) ?_
  intro a w h
  refine wp_block ?_
  refine wp_loop_fuel (f120.l16 k x0 x1) (fun ((v27, v28) : ((List Int) × Int)) => [(0, .val sh19 (some x0)), (1, .val (.int .i64) x1), (6, .val (.sl true 2 (.int .i64)) v27), (7, .val (.sl true 4 .bool) (List.replicate (Int.toNat (List.length x0.1.2.1 : Int)) false)), (28, .val (.int .i64) (List.length (List.replicate (Int.toNat (List.length x0.1.2.1 : Int)) (0 : Int)) : Int)), (29, .val (.int .i64) v28)]) (fun v h => by obtain ⟨v27, v28⟩ := v; rw [f120.l16] at h; cases h) ?_ hF (h.arrive (fz := []) (l := [0, 1, 6, 7, 28, 29]) (.inr fun i h => h) (by kernel_rfl))
  intro m16 v a w hF h
  obtain ⟨v27, v28⟩ := v
  rw [f120.l16] at hF
  refine wp_reg_seq tok (orc := orcL []) (fz := []) (l := [0, 1, 6, 7, 28, 29, 30]) (c := _) (.inr fun i h => h) h (by kernel_rfl) (AllP.nil) ?_
  intro a w h
  refine wp_seq <| wp_if h (b := (decide ((v28 : Int) < (List.length (List.replicate (Int.toNat (List.length x0.1.2.1 : Int)) (0 : Int)) : Int)))) (by kernel_rfl) (fun hb => ?_) (fun hb => ?_)
  · replace hF := of_t hb hF
    refine wp_skip ?_
    refine wp_seq <| wp_block ?_
    refine wp_reg_seq tok (orc := orcL []) (fz := []) (l := [0, 1, 6, 7, 8, 28, 29]) (c := _) (.inr fun i h => h) h (by kernel_rfl) (AllP.nil) ?_
    intro a w h
    obtain ⟨hc30, hF⟩ := of_if hF
    refine wp_reg tok (orc := orcL []) (fz := []) (l := [0, 1, 6, 7, 28, 29]) (c := _) (.inr fun i h => h) h (by kernel_rfl) (AllP.cons hc30 AllP.nil) ?_
    intro a w h
    refine wp_reg tok (orc := orcL []) (fz := []) (l := [0, 1, 6, 7, 28, 29]) (c := _) (.inr fun i h => h) h (by kernel_rfl) (AllP.nil) ?_
    intro a w h
    exact ⟨((List.set v27 (Int.toNat v28) (-1 : Int)), (IntKind.i64.wrap (v28 + (1 : Int)))), hF, h.arrive (fz := []) (l := [0, 1, 6, 7, 28, 29]) (.inr fun i h => h) (by kernel_rfl)⟩
  · replace hF := of_f hb hF
    refine wp_exit ?_
    refine wp_reg_seq tok (orc := orcL []) (fz := []) (l := [0, 1, 6, 7, 9]) (c := _) (.inr fun i h => h) h (by kernel_rfl) (AllP.nil) ?_
    intro a w h
    refine wp_seq ?_
    obtain ⟨hc827, hF⟩ := of_if hF
    refine wp_reg_seq tok (orc := orcL []) (fz := []) (l := [0, 6, 7, 9, 44, 45, 46]) (c := _) (.inr fun i h => h) h (by kernel_rfl) (AllP.cons hc827 AllP.nil) ?_
    intro a w h
    refine wp_block ?_
    refine wp_loop_fuel (f120.l80 k x0 x1) (fun ((v114, v115, v116) : ((List Int) × ((List (Int × (Int × Int))) × Unit) × Int)) => [(0, .val sh19 (some x0)), (6, .val (.sl true 2 (.int .i64)) v114), (7, .val (.sl true 4 .bool) (List.replicate (Int.toNat (List.length x0.1.2.1 : Int)) false)), (9, .val sh21 (some v115)), (44, .val (.sl false 2 (.int .i64)) (List.getD x0.2.1 (Int.toNat x1) ([] : (List Int)))), (45, .val (.int .i64) (List.length (List.getD x0.2.1 (Int.toNat x1) ([] : (List Int))) : Int)), (46, .val (.int .i64) v116)]) (fun v h => by obtain ⟨v114, v115, v116⟩ := v; rw [f120.l80] at h; cases h) ?_ hF (h.arrive (fz := []) (l := [0, 6, 7, 9, 44, 45, 46]) (.inr fun i h => h) (by kernel_rfl))
    intro m80 v a w hF h
    obtain ⟨v114, v115, v116⟩ := v
    rw [f120.l80] at hF
    refine wp_reg_seq tok (orc := orcL []) (fz := []) (l := [0, 6, 7, 9, 44, 45, 46, 47]) (c := _) (.inr fun i h => h) h (by kernel_rfl) (AllP.nil) ?_
    intro a w h
    refine wp_seq <| wp_if h (b := (decide ((v116 : Int) < (List.length (List.getD x0.2.1 (Int.toNat x1) ([] : (List Int))) : Int)))) (by kernel_rfl) (fun hb => ?_) (fun hb => ?_)
    · replace hF := of_t hb hF
      refine wp_skip ?_
      refine wp_seq <| wp_block ?_
      obtain ⟨hc128, hF⟩ := of_if hF
      refine wp_reg_seq tok (orc := orcL []) (fz := []) (l := [0, 6, 7, 9, 11, 44, 45, 46]) (c := _) (.inr fun i h => h) h (by kernel_rfl) (AllP.cons hc128 AllP.nil) ?_
      intro a w h
      obtain ⟨hc126, hF⟩ := of_if hF
      obtain ⟨hc127, hF⟩ := of_if hF
      refine wp_reg_seq tok (orc := orcL []) (fz := []) (l := [0, 6, 7, 9, 11, 44, 45, 46]) (c := _) (.inr fun i h => h) h (by kernel_rfl) (AllP.cons hc126 (AllP.cons hc127 AllP.nil)) ?_
      intro a w h
      obtain ⟨hc124, hF⟩ := of_if hF
      obtain ⟨r123, hr125, hF⟩ := of_bind hF
      refine wp_reg tok (orc := orcL [(69, [⟨.pt false 4294967295 (.pt true 129 (.st (.pair (.sl true 132 (.st (.pair (.int .i64) (.pair (.int .i64) (.int .i64))))) .unit))), some (some r123)⟩])]) (fz := []) (l := [0, 6, 7, 9, 44, 45, 46]) (c := _) (.inr fun i h => h) h (by kernel_rfl) (AllP.cons hc124 (AllP.cons (c121 k v115 ((List.getD (List.set v114 (Int.toNat (List.getD (List.getD x0.2.1 (Int.toNat x1) ([] : (List Int))) (Int.toNat v116) (0 : Int))) (List.getD x0.1.2.1 (Int.toNat (List.getD (List.getD x0.2.1 (Int.toNat x1) ([] : (List Int))) (Int.toNat v116) (0 : Int))) ((0 : Int), ((0 : Int), ((0 : Int), ((0 : Int), ((0 : Int), (⟨#[]⟩ : ByteArray))))))).2.2.2.1) (Int.toNat (List.getD (List.getD x0.2.1 (Int.toNat x1) ([] : (List Int))) (Int.toNat v116) (0 : Int))) (0 : Int)), ((0 : Int), (List.getD (List.getD x0.2.1 (Int.toNat x1) ([] : (List Int))) (Int.toNat v116) (0 : Int)))) r123 hr125) AllP.nil)) ?_
      intro a w h
      refine wp_reg tok (orc := orcL []) (fz := []) (l := [0, 6, 7, 9, 44, 45, 46]) (c := _) (.inr fun i h => h) h (by kernel_rfl) (AllP.nil) ?_
      intro a w h
      exact ⟨((List.set v114 (Int.toNat (List.getD (List.getD x0.2.1 (Int.toNat x1) ([] : (List Int))) (Int.toNat v116) (0 : Int))) (List.getD x0.1.2.1 (Int.toNat (List.getD (List.getD x0.2.1 (Int.toNat x1) ([] : (List Int))) (Int.toNat v116) (0 : Int))) ((0 : Int), ((0 : Int), ((0 : Int), ((0 : Int), ((0 : Int), (⟨#[]⟩ : ByteArray))))))).2.2.2.1), r123, (IntKind.i64.wrap (v116 + (1 : Int)))), hF, h.arrive (fz := []) (l := [0, 6, 7, 9, 44, 45, 46]) (.inr fun i h => h) (by kernel_rfl)⟩
    · replace hF := of_f hb hF
      refine wp_exit ?_
      refine wp_seq <| wp_block ?_
      refine wp_loop_fuel (f120.l478 k x0) (fun ((v712, v713, v714) : ((List Int) × (List Bool) × ((List (Int × (Int × Int))) × Unit))) => [(0, .val sh19 (some x0)), (6, .val (.sl true 2 (.int .i64)) v712), (7, .val (.sl true 4 .bool) v713), (9, .val sh21 (some v714))]) (fun v h => by obtain ⟨v712, v713, v714⟩ := v; rw [f120.l478] at h; cases h) ?_ hF (h.arrive (fz := []) (l := [0, 6, 7, 9]) (.inr fun i h => h) (by kernel_rfl))
      intro m478 v a w hF h
      obtain ⟨v712, v713, v714⟩ := v
      rw [f120.l478] at hF
      refine wp_seq ?_
      refine wp_reg_seq tok (orc := orcL []) (fz := []) (l := [0, 6, 7, 9, 76]) (c := _) (.inr fun i h => h) h (by kernel_rfl) (AllP.nil) ?_
      intro a w h
      refine wp_if h (b := (decide (((List.length v714.1 : Int) : Int) > (0 : Int)))) (by kernel_rfl) (fun hb => ?_) (fun hb => ?_)
      · replace hF := of_t hb hF
        refine wp_skip ?_
        refine wp_block ?_
        obtain ⟨r715, hr826, hF⟩ := of_bind hF
        refine wp_reg_seq tok (orc := orcL [(78, [⟨.pt false 4294967295 (.pt true 129 (.st (.pair (.sl true 132 (.st (.pair (.int .i64) (.pair (.int .i64) (.int .i64))))) .unit))), some (some r715.2)⟩, ⟨sh20, r715.1⟩])]) (fz := []) (l := [0, 6, 7, 9, 12]) (c := _) (.inr fun i h => h) h (by kernel_rfl) (AllP.cons (c122 k v714 r715 hr826) AllP.nil) ?_
        intro a w h
        refine wp_seq ?_
        obtain ⟨hc825, hF⟩ := of_if hF
        refine wp_reg_seq tok (orc := orcL []) (fz := []) (l := [0, 6, 7, 9, 12, 83]) (c := _) (.inr fun i h => h) h (by kernel_rfl) (AllP.cons hc825 AllP.nil) ?_
        intro a w h
        refine wp_if h (b := (List.getD v713 (Int.toNat r715.1.2.2) false)) (by kernel_rfl) (fun hb => ?_) (fun hb => ?_)
        · replace hF := of_t hb hF
          refine wp_exit ?_
          exact ⟨(v712, v713, r715.2), hF, h.arrive (fz := []) (l := [0, 6, 7, 9]) (.inr fun i h => h) (by kernel_rfl)⟩
        · replace hF := of_f hb hF
          refine wp_skip ?_
          obtain ⟨hc824, hF⟩ := of_if hF
          refine wp_reg_seq tok (orc := orcL []) (fz := []) (l := [0, 6, 7, 9, 12]) (c := _) (.inr fun i h => h) h (by kernel_rfl) (AllP.cons hc824 AllP.nil) ?_
          intro a w h
          obtain ⟨hc822, hF⟩ := of_if hF
          obtain ⟨hc823, hF⟩ := of_if hF
          refine wp_regy_seq tok (orc := orcL []) (fz := []) (l := [0, 6, 7, 9, 12, 103, 104, 105]) (c := _) ([], [], [], []) 18 (.inr fun i h => h) h (by kernel_rfl) (by kernel_rfl) (AllP.cons hc822 (AllP.cons hc823 AllP.nil)) ?_
          intro a w h
          refine wp_block ?_
          refine wp_loop_fuel (f120.l716 k x0 r715 v713 ((f120.l478 k x0) m478)) (fun ((v788, v789, v790) : ((List Int) × ((List (Int × (Int × Int))) × Unit) × Int)) => [(0, .val sh19 (some x0)), (6, .val (.sl true 2 (.int .i64)) v788), (7, .val (.sl true 4 .bool) (List.set v713 (Int.toNat r715.1.2.2) true)), (9, .val sh21 (some v789)), (12, .val sh22 (some r715.1)), (103, .val (.sl false 2 (.int .i64)) (List.getD x0.2.1 (Int.toNat (List.getD x0.1.2.1 (Int.toNat r715.1.2.2) ((0 : Int), ((0 : Int), ((0 : Int), ((0 : Int), ((0 : Int), (⟨#[]⟩ : ByteArray))))))).2.1) ([] : (List Int)))), (104, .val (.int .i64) (List.length (List.getD x0.2.1 (Int.toNat (List.getD x0.1.2.1 (Int.toNat r715.1.2.2) ((0 : Int), ((0 : Int), ((0 : Int), ((0 : Int), ((0 : Int), (⟨#[]⟩ : ByteArray))))))).2.1) ([] : (List Int))) : Int)), (105, .val (.int .i64) v790)]) (fun v h => by obtain ⟨v788, v789, v790⟩ := v; rw [f120.l716] at h; cases h) ?_ hF (h.arrive (fz := []) (l := [0, 6, 7, 9, 12, 103, 104, 105]) (.inr fun i h => h) (by kernel_rfl))
          intro m716 v a w hF h
          obtain ⟨v788, v789, v790⟩ := v
          rw [f120.l716] at hF
          refine wp_reg_seq tok (orc := orcL []) (fz := []) (l := [0, 6, 7, 9, 12, 103, 104, 105, 106]) (c := _) (.inr fun i h => h) h (by kernel_rfl) (AllP.nil) ?_
          intro a w h
          refine wp_seq <| wp_if h (b := (decide ((v790 : Int) < (List.length (List.getD x0.2.1 (Int.toNat (List.getD x0.1.2.1 (Int.toNat r715.1.2.2) ((0 : Int), ((0 : Int), ((0 : Int), ((0 : Int), ((0 : Int), (⟨#[]⟩ : ByteArray))))))).2.1) ([] : (List Int))) : Int)))) (by kernel_rfl) (fun hb => ?_) (fun hb => ?_)
          · replace hF := of_t hb hF
            refine wp_skip ?_
            refine wp_mid (fun a w => ∃ v : ((List Int) × ((List (Int × (Int × Int))) × Unit)), f120.j807 k v790 ((f120.l716 k x0 r715 v713 ((f120.l478 k x0) m478)) m716) v = some r ∧ Rel w0 (fun _ => False) Zi Try.f120.ntmps ((fun ((v805, v806) : ((List Int) × ((List (Int × (Int × Int))) × Unit))) => ([(0, .val sh19 (some x0)), (6, .val (.sl true 2 (.int .i64)) v805), (7, .val (.sl true 4 .bool) (List.set v713 (Int.toNat r715.1.2.2) true)), (9, .val sh21 (some v806)), (12, .val sh22 (some r715.1)), (103, .val (.sl false 2 (.int .i64)) (List.getD x0.2.1 (Int.toNat (List.getD x0.1.2.1 (Int.toNat r715.1.2.2) ((0 : Int), ((0 : Int), ((0 : Int), ((0 : Int), ((0 : Int), (⟨#[]⟩ : ByteArray))))))).2.1) ([] : (List Int)))), (104, .val (.int .i64) (List.length (List.getD x0.2.1 (Int.toNat (List.getD x0.1.2.1 (Int.toNat r715.1.2.2) ((0 : Int), ((0 : Int), ((0 : Int), ((0 : Int), ((0 : Int), (⟨#[]⟩ : ByteArray))))))).2.1) ([] : (List Int))) : Int)), (105, .val (.int .i64) v790)] : SS)) v) a w) ?_ ?_
            ·
              refine wp_block ?_
              obtain ⟨hc821, hF⟩ := of_if hF
              refine wp_reg_seq tok (orc := orcL []) (fz := []) (l := [0, 6, 7, 9, 12, 14, 103, 104, 105]) (c := _) (.inr fun i h => h) h (by kernel_rfl) (AllP.cons hc821 AllP.nil) ?_
              intro a w h
              refine wp_seq ?_
              obtain ⟨hc820, hF⟩ := of_if hF
              refine wp_reg_seq tok (orc := orcL []) (fz := []) (l := [0, 6, 7, 9, 12, 14, 103, 104, 105, 112]) (c := _) (.inr fun i h => h) h (by kernel_rfl) (AllP.cons hc820 AllP.nil) ?_
              intro a w h
              refine wp_if h (b := (List.getD (List.set v713 (Int.toNat r715.1.2.2) true) (Int.toNat (List.getD (List.getD x0.2.1 (Int.toNat (List.getD x0.1.2.1 (Int.toNat r715.1.2.2) ((0 : Int), ((0 : Int), ((0 : Int), ((0 : Int), ((0 : Int), (⟨#[]⟩ : ByteArray))))))).2.1) ([] : (List Int))) (Int.toNat v790) (0 : Int))) false)) (by kernel_rfl) (fun hb => ?_) (fun hb => ?_)
              · replace hF := of_t hb hF
                refine wp_exit ?_
                exact ⟨(v788, v789), hF, h.arrive (fz := []) (l := [0, 6, 7, 9, 12, 103, 104, 105]) (.inr fun i h => h) (by kernel_rfl)⟩
              · replace hF := of_f hb hF
                refine wp_skip ?_
                obtain ⟨r808, hr819, hF⟩ := of_bind hF
                refine wp_reg_seq tok (orc := orcL [(117, [⟨(.int .i64), r808⟩])]) (fz := []) (l := [0, 6, 7, 9, 12, 14, 15, 103, 104, 105]) (c := _) (.inr fun i h => h) h (by kernel_rfl) (AllP.cons (c77 k x0 r715.1.2.2 (List.getD (List.getD x0.2.1 (Int.toNat (List.getD x0.1.2.1 (Int.toNat r715.1.2.2) ((0 : Int), ((0 : Int), ((0 : Int), ((0 : Int), ((0 : Int), (⟨#[]⟩ : ByteArray))))))).2.1) ([] : (List Int))) (Int.toNat v790) (0 : Int)) r808 hr819) AllP.nil) ?_
                intro a w h
                refine wp_seq ?_
                refine wp_reg_seq tok (orc := orcL []) (fz := []) (l := [0, 6, 7, 9, 12, 14, 15, 103, 104, 105, 119]) (c := _) (.inr fun i h => h) h (by kernel_rfl) (AllP.nil) ?_
                intro a w h
                refine wp_if h (b := (decide ((r808 : Int) < (0 : Int)))) (by kernel_rfl) (fun hb => ?_) (fun hb => ?_)
                · replace hF := of_t hb hF
                  refine wp_exit ?_
                  exact ⟨(v788, v789), hF, h.arrive (fz := []) (l := [0, 6, 7, 9, 12, 103, 104, 105]) (.inr fun i h => h) (by kernel_rfl)⟩
                · replace hF := of_f hb hF
                  refine wp_skip ?_
                  obtain ⟨hc818, hF⟩ := of_if hF
                  refine wp_regy_seq tok (orc := orcL []) (fz := []) (l := [0, 6, 7, 9, 12, 14, 16, 103, 104, 105]) (c := _) ([], [], [], []) 15 (.inr fun i h => h) h (by kernel_rfl) (by kernel_rfl) (AllP.cons hc818 AllP.nil) ?_
                  intro a w h
                  obtain ⟨hc816, hF⟩ := of_if hF
                  obtain ⟨hc817, hF⟩ := of_if hF
                  refine wp_reg_seq tok (orc := orcL []) (fz := []) (l := [0, 6, 7, 9, 12, 14, 16, 103, 104, 105, 146]) (c := _) (.inr fun i h => h) h (by kernel_rfl) (AllP.cons hc816 (AllP.cons hc817 AllP.nil)) ?_
                  intro a w h
                  obtain ⟨v809, hv815, hF⟩ := of_bind hF
                  replace h := h.cast (S' := [(0, .val sh19 (some x0)), (6, .val (.sl true 2 (.int .i64)) v788), (7, .val (.sl true 4 .bool) (List.set v713 (Int.toNat r715.1.2.2) true)), (9, .val sh21 (some v789)), (12, .val sh22 (some r715.1)), (14, .val (.int .i64) (List.getD (List.getD x0.2.1 (Int.toNat (List.getD x0.1.2.1 (Int.toNat r715.1.2.2) ((0 : Int), ((0 : Int), ((0 : Int), ((0 : Int), ((0 : Int), (⟨#[]⟩ : ByteArray))))))).2.1) ([] : (List Int))) (Int.toNat v790) (0 : Int))), (16, .val (.int .i64) (IntKind.i64.wrap ((IntKind.i64.wrap (r715.1.1 + r808)) + (List.getD x0.1.2.1 (Int.toNat (List.getD (List.getD x0.2.1 (Int.toNat (List.getD x0.1.2.1 (Int.toNat r715.1.2.2) ((0 : Int), ((0 : Int), ((0 : Int), ((0 : Int), ((0 : Int), (⟨#[]⟩ : ByteArray))))))).2.1) ([] : (List Int))) (Int.toNat v790) (0 : Int))) ((0 : Int), ((0 : Int), ((0 : Int), ((0 : Int), ((0 : Int), (⟨#[]⟩ : ByteArray))))))).2.2.2.1))), (103, .val (.sl false 2 (.int .i64)) (List.getD x0.2.1 (Int.toNat (List.getD x0.1.2.1 (Int.toNat r715.1.2.2) ((0 : Int), ((0 : Int), ((0 : Int), ((0 : Int), ((0 : Int), (⟨#[]⟩ : ByteArray))))))).2.1) ([] : (List Int)))), (104, .val (.int .i64) (List.length (List.getD x0.2.1 (Int.toNat (List.getD x0.1.2.1 (Int.toNat r715.1.2.2) ((0 : Int), ((0 : Int), ((0 : Int), ((0 : Int), ((0 : Int), (⟨#[]⟩ : ByteArray))))))).2.1) ([] : (List Int))) : Int)), (105, .val (.int .i64) v790), (146, .val .bool v809)]) (by cases hv815; kernel_rfl)
                  refine wp_if h (b := v809) (by kernel_rfl) (fun hb => ?_) (fun hb => ?_)
                  · replace hF := of_t hb hF
                    obtain ⟨hc814, hF⟩ := of_if hF
                    refine wp_reg_seq tok (orc := orcL []) (fz := []) (l := [0, 6, 7, 9, 12, 14, 16, 103, 104, 105]) (c := _) (.inr fun i h => h) h (by kernel_rfl) (AllP.cons hc814 AllP.nil) ?_
                    intro a w h
                    obtain ⟨v810, hv813, hF⟩ := of_bind hF
                    replace h := h.cast (S' := [(0, .val sh19 (some x0)), (6, .val (.sl true 2 (.int .i64)) v810), (7, .val (.sl true 4 .bool) (List.set v713 (Int.toNat r715.1.2.2) true)), (9, .val sh21 (some v789)), (12, .val sh22 (some r715.1)), (14, .val (.int .i64) (List.getD (List.getD x0.2.1 (Int.toNat (List.getD x0.1.2.1 (Int.toNat r715.1.2.2) ((0 : Int), ((0 : Int), ((0 : Int), ((0 : Int), ((0 : Int), (⟨#[]⟩ : ByteArray))))))).2.1) ([] : (List Int))) (Int.toNat v790) (0 : Int))), (16, .val (.int .i64) (IntKind.i64.wrap ((IntKind.i64.wrap (r715.1.1 + r808)) + (List.getD x0.1.2.1 (Int.toNat (List.getD (List.getD x0.2.1 (Int.toNat (List.getD x0.1.2.1 (Int.toNat r715.1.2.2) ((0 : Int), ((0 : Int), ((0 : Int), ((0 : Int), ((0 : Int), (⟨#[]⟩ : ByteArray))))))).2.1) ([] : (List Int))) (Int.toNat v790) (0 : Int))) ((0 : Int), ((0 : Int), ((0 : Int), ((0 : Int), ((0 : Int), (⟨#[]⟩ : ByteArray))))))).2.2.2.1))), (103, .val (.sl false 2 (.int .i64)) (List.getD x0.2.1 (Int.toNat (List.getD x0.1.2.1 (Int.toNat r715.1.2.2) ((0 : Int), ((0 : Int), ((0 : Int), ((0 : Int), ((0 : Int), (⟨#[]⟩ : ByteArray))))))).2.1) ([] : (List Int)))), (104, .val (.int .i64) (List.length (List.getD x0.2.1 (Int.toNat (List.getD x0.1.2.1 (Int.toNat r715.1.2.2) ((0 : Int), ((0 : Int), ((0 : Int), ((0 : Int), ((0 : Int), (⟨#[]⟩ : ByteArray))))))).2.1) ([] : (List Int))) : Int)), (105, .val (.int .i64) v790)]) (by cases hv813; kernel_rfl)
                    obtain ⟨r811, hr812, hF⟩ := of_bind hF
                    refine wp_reg tok (orc := orcL [(155, [⟨.pt false 4294967295 (.pt true 129 (.st (.pair (.sl true 132 (.st (.pair (.int .i64) (.pair (.int .i64) (.int .i64))))) .unit))), some (some r811)⟩])]) (fz := []) (l := [0, 6, 7, 9, 12, 103, 104, 105]) (c := _) (.inr fun i h => h) h (by kernel_rfl) (AllP.cons (c121 k v789 ((IntKind.i64.wrap ((IntKind.i64.wrap (r715.1.1 + r808)) + (List.getD x0.1.2.1 (Int.toNat (List.getD (List.getD x0.2.1 (Int.toNat (List.getD x0.1.2.1 (Int.toNat r715.1.2.2) ((0 : Int), ((0 : Int), ((0 : Int), ((0 : Int), ((0 : Int), (⟨#[]⟩ : ByteArray))))))).2.1) ([] : (List Int))) (Int.toNat v790) (0 : Int))) ((0 : Int), ((0 : Int), ((0 : Int), ((0 : Int), ((0 : Int), (⟨#[]⟩ : ByteArray))))))).2.2.2.1)), ((0 : Int), (List.getD (List.getD x0.2.1 (Int.toNat (List.getD x0.1.2.1 (Int.toNat r715.1.2.2) ((0 : Int), ((0 : Int), ((0 : Int), ((0 : Int), ((0 : Int), (⟨#[]⟩ : ByteArray))))))).2.1) ([] : (List Int))) (Int.toNat v790) (0 : Int)))) r811 hr812) AllP.nil) ?_
                    intro a w h
                    exact ⟨(v810, r811), hF, h.arrive (fz := []) (l := [0, 6, 7, 9, 12, 103, 104, 105]) (.inr fun i h => h) (by kernel_rfl)⟩
                  · replace hF := of_f hb hF
                    refine wp_skip ?_
                    exact ⟨(v788, v789), hF, h.arrive (fz := []) (l := [0, 6, 7, 9, 12, 103, 104, 105]) (.inr fun i h => h) (by kernel_rfl)⟩
            · rintro a w ⟨v, hF, h⟩
              obtain ⟨v805, v806⟩ := v
              rw [f120.j807] at hF
              refine wp_reg tok (orc := orcL []) (fz := []) (l := [0, 6, 7, 9, 12, 103, 104, 105]) (c := _) (.inr fun i h => h) h (by kernel_rfl) (AllP.nil) ?_
              intro a w h
              exact ⟨(v805, v806, (IntKind.i64.wrap (v790 + (1 : Int)))), hF, h.arrive (fz := []) (l := [0, 6, 7, 9, 12, 103, 104, 105]) (.inr fun i h => h) (by kernel_rfl)⟩
          · replace hF := of_f hb hF
            refine wp_exit ?_
            exact ⟨(v788, (List.set v713 (Int.toNat r715.1.2.2) true), v789), hF, h.arrive (fz := []) (l := [0, 6, 7, 9]) (.inr fun i h => h) (by kernel_rfl)⟩
      · replace hF := of_f hb hF
        refine wp_exit ?_
        refine wp_reg_seq tok (orc := orcL []) (fz := []) (l := [4, 6]) (c := _) (.inr fun i h => h) h (by kernel_rfl) (AllP.nil) ?_
        intro a w h
        cases hF
        exact wp_ret (ret_okR tok h rfl (by kernel_rfl)).1

def f95.j160 (k : Nat) (v149 : Int) (q101 : ((List Int) × Int) → Option (List Int)) : (List Int) → Option (List Int)
  | v159 => q101 (v159, (IntKind.i64.wrap (v149 + (1 : Int))))
def f95.l101 (k : Nat) (x0 : (((List (Int × (Int × Int))) × ((List (Int × (Int × (Int × (Int × (Int × ByteArray)))))) × (List (Int × Int)))) × ((List (List Int)) × ((List (List Int)) × (Option (List ((Int × Int) × Bool))))))) (r1 : (List Int)) (x1 : Int) : Nat → ((List Int) × Int) → Option (List Int)
  | 0, _ => none
  | m101 + 1, (v148, v149) => if (decide ((v149 : Int) < (List.length x0.1.2.1 : Int))) then (if (0 ≤ v149 ∧ v149 < (List.length x0.1.2.1 : Int)) then (if (0 ≤ v149 ∧ v149 < (List.length r1 : Int)) then (if (((decide (((List.getD r1 (Int.toNat v149) (0 : Int)) : Int) ≥ (0 : Int))) = true) → (0 ≤ (List.getD x0.1.2.1 (Int.toNat v149) ((0 : Int), ((0 : Int), ((0 : Int), ((0 : Int), ((0 : Int), (⟨#[]⟩ : ByteArray))))))).2.1 ∧ (List.getD x0.1.2.1 (Int.toNat v149) ((0 : Int), ((0 : Int), ((0 : Int), ((0 : Int), ((0 : Int), (⟨#[]⟩ : ByteArray))))))).2.1 < (List.length v148 : Int))) then (if ((((decide (((List.getD r1 (Int.toNat v149) (0 : Int)) : Int) ≥ (0 : Int))) = true) ∧ ((decide (((List.getD v148 (Int.toNat (List.getD x0.1.2.1 (Int.toNat v149) ((0 : Int), ((0 : Int), ((0 : Int), ((0 : Int), ((0 : Int), (⟨#[]⟩ : ByteArray))))))).2.1) (0 : Int)) : Int) < (0 : Int))) = false)) → (0 ≤ v149 ∧ v149 < (List.length r1 : Int))) then (if ((((decide (((List.getD r1 (Int.toNat v149) (0 : Int)) : Int) ≥ (0 : Int))) = true) ∧ ((decide (((List.getD v148 (Int.toNat (List.getD x0.1.2.1 (Int.toNat v149) ((0 : Int), ((0 : Int), ((0 : Int), ((0 : Int), ((0 : Int), (⟨#[]⟩ : ByteArray))))))).2.1) (0 : Int)) : Int) < (0 : Int))) = false)) → (0 ≤ (List.getD x0.1.2.1 (Int.toNat v149) ((0 : Int), ((0 : Int), ((0 : Int), ((0 : Int), ((0 : Int), (⟨#[]⟩ : ByteArray))))))).2.1 ∧ (List.getD x0.1.2.1 (Int.toNat v149) ((0 : Int), ((0 : Int), ((0 : Int), ((0 : Int), ((0 : Int), (⟨#[]⟩ : ByteArray))))))).2.1 < (List.length v148 : Int))) then ((some ((bif (decide (((List.getD r1 (Int.toNat v149) (0 : Int)) : Int) ≥ (0 : Int))) then (bif (decide (((List.getD v148 (Int.toNat (List.getD x0.1.2.1 (Int.toNat v149) ((0 : Int), ((0 : Int), ((0 : Int), ((0 : Int), ((0 : Int), (⟨#[]⟩ : ByteArray))))))).2.1) (0 : Int)) : Int) < (0 : Int))) then true else (decide (((List.getD r1 (Int.toNat v149) (0 : Int)) : Int) < (List.getD v148 (Int.toNat (List.getD x0.1.2.1 (Int.toNat v149) ((0 : Int), ((0 : Int), ((0 : Int), ((0 : Int), ((0 : Int), (⟨#[]⟩ : ByteArray))))))).2.1) (0 : Int))))) else false) : Bool)).bind fun v161 => (if v161 then (if (0 ≤ v149 ∧ v149 < (List.length r1 : Int)) then (if (0 ≤ (List.getD x0.1.2.1 (Int.toNat v149) ((0 : Int), ((0 : Int), ((0 : Int), ((0 : Int), ((0 : Int), (⟨#[]⟩ : ByteArray))))))).2.1 ∧ (List.getD x0.1.2.1 (Int.toNat v149) ((0 : Int), ((0 : Int), ((0 : Int), ((0 : Int), ((0 : Int), (⟨#[]⟩ : ByteArray))))))).2.1 < (List.length v148 : Int)) then (f95.j160 k v149 ((f95.l101 k x0 r1 x1) m101) (List.set v148 (Int.toNat (List.getD x0.1.2.1 (Int.toNat v149) ((0 : Int), ((0 : Int), ((0 : Int), ((0 : Int), ((0 : Int), (⟨#[]⟩ : ByteArray))))))).2.1) (List.getD r1 (Int.toNat v149) (0 : Int)))) else none) else none) else (f95.j160 k v149 ((f95.l101 k x0 r1 x1) m101) v148))) else none) else none) else none) else none) else none) else (if (0 ≤ x1 ∧ x1 < (List.length v148 : Int)) then (some (List.set v148 (Int.toNat x1) (0 : Int))) else none)
def f95.l17 (k : Nat) (x0 : (((List (Int × (Int × Int))) × ((List (Int × (Int × (Int × (Int × (Int × ByteArray)))))) × (List (Int × Int)))) × ((List (List Int)) × ((List (List Int)) × (Option (List ((Int × Int) × Bool))))))) (r1 : (List Int)) (x1 : Int) : Nat → ((List Int) × Int) → Option (List Int)
  | 0, _ => none
  | m17 + 1, (v28, v29) => if (decide ((v29 : Int) < (List.length (List.replicate (Int.toNat (List.length x0.1.1 : Int)) (0 : Int)) : Int))) then (if (0 ≤ v29 ∧ v29 < (List.length v28 : Int)) then ((f95.l17 k x0 r1 x1) m17 ((List.set v28 (Int.toNat v29) (-1 : Int)), (IntKind.i64.wrap (v29 + (1 : Int))))) else none) else (f95.l101 k x0 r1 x1 k (v28, (0 : Int)))
def f95 (k : Nat) (x0 : (((List (Int × (Int × Int))) × ((List (Int × (Int × (Int × (Int × (Int × ByteArray)))))) × (List (Int × Int)))) × ((List (List Int)) × ((List (List Int)) × (Option (List ((Int × Int) × Bool))))))) (x1 : Int) : Option (List Int) := (f120 k x0 x1).bind fun r1 => (if (0 ≤ (List.length x0.1.1 : Int) ∧ Int.toNat (List.length x0.1.1 : Int) * 8 ≤ 140737488355328) then (f95.l17 k x0 r1 x1 k ((List.replicate (Int.toNat (List.length x0.1.1 : Int)) (0 : Int)), (0 : Int))) else none)
set_option maxRecDepth 100000 in
/-- 'impl.myNet).reach'. -/
theorem c95 (k : Nat) (x0 : (((List (Int × (Int × Int))) × ((List (Int × (Int × (Int × (Int × (Int × ByteArray)))))) × (List (Int × Int)))) × ((List (List Int)) × ((List (List Int)) × (Option (List ((Int × Int) × Bool))))))) (x1 : Int) (r : (List Int)) (hF : f95 k x0 x1 = some r) : PCall Try.prog 95 [⟨sh19, some x0⟩, ⟨(.int .i64), x1⟩] [⟨(.sl true 2 (.int .i64)), r⟩] := by
  refine pcall_intro Try.func95 rfl rfl (Nat.le_of_ble_eq_true rfl) ?_
  intro w0 Zi a w h
  rw [f95] at hF
  refine wp_reg_seq tok (orc := orcL []) (fz := []) (l := [0, 1]) (c := _) (.inr fun i h => h) h (by kernel_rfl) (AllP.nil) ?_
  intro a w h
  obtain ⟨r1, hr172, hF⟩ := of_bind hF
  refine wp_reg_seq tok (orc := orcL [(12, [⟨(.sl true 2 (.int .i64)), r1⟩])]) (fz := []) (l := [0, 1, 5]) (c := _) (.inr fun i h => h) h (by kernel_rfl) (AllP.cons (c120 k x0 x1 r1 hr172) AllP.nil) ?_
  intro a w h
  obtain ⟨hc171, hF⟩ := of_if hF
  refine wp_reg_seq tok (orc := orcL []) (fz := []) (l := [0, 1, 5, 6]) (c := _) (.inr fun i h => h) h (by kernel_rfl) (AllP.cons hc171 AllP.nil) ?_
  intro a w h
  refine wp_seq ?_
  refine wp_reg_seq tok (orc := orcL []) (fz := []) (l := [0, 1, 5, 6, 21, 22]) (c := _) (.inr fun i h => h) h (by kernel_rfl) (AllP.nil) ?_
  intro a w h
  refine wp_block ?_
  refine wp_loop_fuel (f95.l17 k x0 r1 x1) (fun ((v28, v29) : ((List Int) × Int)) => [(0, .val sh19 (some x0)), (1, .val (.int .i64) x1), (5, .val (.sl true 2 (.int .i64)) r1), (6, .val (.sl true 2 (.int .i64)) v28), (21, .val (.int .i64) (List.length (List.replicate (Int.toNat (List.length x0.1.1 : Int)) (0 : Int)) : Int)), (22, .val (.int .i64) v29)]) (fun v h => by obtain ⟨v28, v29⟩ := v; rw [f95.l17] at h; cases h) ?_ hF (h.arrive (fz := []) (l := [0, 1, 5, 6, 21, 22]) (.inr fun i h => h) (by kernel_rfl))
  intro m17 v a w hF h
  obtain ⟨v28, v29⟩ := v
  rw [f95.l17] at hF
  refine wp_reg_seq tok (orc := orcL []) (fz := []) (l := [0, 1, 5, 6, 21, 22, 23]) (c := _) (.inr fun i h => h) h (by kernel_rfl) (AllP.nil) ?_
  intro a w h
  refine wp_seq <| wp_if h (b := (decide ((v29 : Int) < (List.length (List.replicate (Int.toNat (List.length x0.1.1 : Int)) (0 : Int)) : Int)))) (by kernel_rfl) (fun hb => ?_) (fun hb => ?_)
  · replace hF := of_t hb hF
    refine wp_skip ?_
    refine wp_seq <| wp_block ?_
    refine wp_reg_seq tok (orc := orcL []) (fz := []) (l := [0, 1, 5, 6, 7, 21, 22]) (c := _) (.inr fun i h => h) h (by kernel_rfl) (AllP.nil) ?_
    intro a w h
    obtain ⟨hc31, hF⟩ := of_if hF
    refine wp_reg tok (orc := orcL []) (fz := []) (l := [0, 1, 5, 6, 21, 22]) (c := _) (.inr fun i h => h) h (by kernel_rfl) (AllP.cons hc31 AllP.nil) ?_
    intro a w h
    refine wp_reg tok (orc := orcL []) (fz := []) (l := [0, 1, 5, 6, 21, 22]) (c := _) (.inr fun i h => h) h (by kernel_rfl) (AllP.nil) ?_
    intro a w h
    exact ⟨((List.set v28 (Int.toNat v29) (-1 : Int)), (IntKind.i64.wrap (v29 + (1 : Int)))), hF, h.arrive (fz := []) (l := [0, 1, 5, 6, 21, 22]) (.inr fun i h => h) (by kernel_rfl)⟩
  · replace hF := of_f hb hF
    refine wp_exit ?_
    refine wp_seq ?_
    refine wp_reg_seq tok (orc := orcL []) (fz := []) (l := [1, 5, 6, 33, 34, 35]) (c := _) (.inr fun i h => h) h (by kernel_rfl) (AllP.nil) ?_
    intro a w h
    refine wp_block ?_
    refine wp_loop_fuel (f95.l101 k x0 r1 x1) (fun ((v148, v149) : ((List Int) × Int)) => [(1, .val (.int .i64) x1), (5, .val (.sl true 2 (.int .i64)) r1), (6, .val (.sl true 2 (.int .i64)) v148), (33, .val sh16 x0.1.2.1), (34, .val (.int .i64) (List.length x0.1.2.1 : Int)), (35, .val (.int .i64) v149)]) (fun v h => by obtain ⟨v148, v149⟩ := v; rw [f95.l101] at h; cases h) ?_ hF (h.arrive (fz := []) (l := [1, 5, 6, 33, 34, 35]) (.inr fun i h => h) (by kernel_rfl))
    intro m101 v a w hF h
    obtain ⟨v148, v149⟩ := v
    rw [f95.l101] at hF
    refine wp_reg_seq tok (orc := orcL []) (fz := []) (l := [1, 5, 6, 33, 34, 35, 36]) (c := _) (.inr fun i h => h) h (by kernel_rfl) (AllP.nil) ?_
    intro a w h
    refine wp_seq <| wp_if h (b := (decide ((v149 : Int) < (List.length x0.1.2.1 : Int)))) (by kernel_rfl) (fun hb => ?_) (fun hb => ?_)
    · replace hF := of_t hb hF
      refine wp_skip ?_
      refine wp_mid (fun a w => ∃ v : (List Int), f95.j160 k v149 ((f95.l101 k x0 r1 x1) m101) v = some r ∧ Rel w0 (fun _ => False) Zi Try.f95.ntmps ((fun (v159 : (List Int)) => ([(1, .val (.int .i64) x1), (5, .val (.sl true 2 (.int .i64)) r1), (6, .val (.sl true 2 (.int .i64)) v159), (33, .val sh16 x0.1.2.1), (34, .val (.int .i64) (List.length x0.1.2.1 : Int)), (35, .val (.int .i64) v149)] : SS)) v) a w) ?_ ?_
      ·
        refine wp_block ?_
        obtain ⟨hc169, hF⟩ := of_if hF
        refine wp_reg_seq tok (orc := orcL []) (fz := []) (l := [1, 5, 6, 8, 9, 33, 34, 35]) (c := _) (.inr fun i h => h) h (by kernel_rfl) (AllP.cons hc169 AllP.nil) ?_
        intro a w h
        obtain ⟨hc165, hF⟩ := of_if hF
        obtain ⟨hc166, hF⟩ := of_if hF
        obtain ⟨hc167, hF⟩ := of_if hF
        obtain ⟨hc168, hF⟩ := of_if hF
        refine wp_regy_seq tok (orc := orcL []) (fz := []) (l := [1, 5, 6, 8, 9, 33, 34, 35, 64]) (c := _) ([], [], [], []) 25 (.inr fun i h => h) h (by kernel_rfl) (by kernel_rfl) (AllP.cons hc165 (AllP.cons hc166 (AllP.cons hc167 (AllP.cons hc168 AllP.nil)))) ?_
        intro a w h
        obtain ⟨v161, hv164, hF⟩ := of_bind hF
        replace h := h.cast (S' := [(1, .val (.int .i64) x1), (5, .val (.sl true 2 (.int .i64)) r1), (6, .val (.sl true 2 (.int .i64)) v148), (8, .val (.int .i64) v149), (9, .val sh23 (some (List.getD x0.1.2.1 (Int.toNat v149) ((0 : Int), ((0 : Int), ((0 : Int), ((0 : Int), ((0 : Int), (⟨#[]⟩ : ByteArray))))))))), (33, .val sh16 x0.1.2.1), (34, .val (.int .i64) (List.length x0.1.2.1 : Int)), (35, .val (.int .i64) v149), (64, .val .bool v161)]) (by cases hv164; kernel_rfl)
        refine wp_if h (b := v161) (by kernel_rfl) (fun hb => ?_) (fun hb => ?_)
        · replace hF := of_t hb hF
          obtain ⟨hc162, hF⟩ := of_if hF
          obtain ⟨hc163, hF⟩ := of_if hF
          refine wp_regy tok (orc := orcL []) (fz := []) (l := [1, 5, 6, 33, 34, 35]) (c := _) ([], [], [], []) 8 (.inr fun i h => h) h (by kernel_rfl) (by kernel_rfl) (AllP.cons hc162 (AllP.cons hc163 AllP.nil)) ?_
          intro a w h
          exact ⟨(List.set v148 (Int.toNat (List.getD x0.1.2.1 (Int.toNat v149) ((0 : Int), ((0 : Int), ((0 : Int), ((0 : Int), ((0 : Int), (⟨#[]⟩ : ByteArray))))))).2.1) (List.getD r1 (Int.toNat v149) (0 : Int))), hF, h.arrive (fz := []) (l := [1, 5, 6, 33, 34, 35]) (.inr fun i h => h) (by kernel_rfl)⟩
        · replace hF := of_f hb hF
          refine wp_skip ?_
          exact ⟨v148, hF, h.arrive (fz := []) (l := [1, 5, 6, 33, 34, 35]) (.inr fun i h => h) (by kernel_rfl)⟩
      · rintro a w ⟨v159, hF, h⟩
        rw [f95.j160] at hF
        refine wp_reg tok (orc := orcL []) (fz := []) (l := [1, 5, 6, 33, 34, 35]) (c := _) (.inr fun i h => h) h (by kernel_rfl) (AllP.nil) ?_
        intro a w h
        exact ⟨(v159, (IntKind.i64.wrap (v149 + (1 : Int)))), hF, h.arrive (fz := []) (l := [1, 5, 6, 33, 34, 35]) (.inr fun i h => h) (by kernel_rfl)⟩
    · replace hF := of_f hb hF
      refine wp_exit ?_
      obtain ⟨hc170, hF⟩ := of_if hF
      refine wp_reg_seq tok (orc := orcL []) (fz := []) (l := [6]) (c := _) (.inr fun i h => h) h (by kernel_rfl) (AllP.cons hc170 AllP.nil) ?_
      intro a w h
      refine wp_reg_seq tok (orc := orcL []) (fz := []) (l := [4, 6]) (c := _) (.inr fun i h => h) h (by kernel_rfl) (AllP.nil) ?_
      intro a w h
      cases hF
      exact wp_ret (ret_okR tok h rfl (by kernel_rfl)).1

def f39.j1005 (k : Nat) (v919 : Int) (q569 : (Int × Int × Int) → Option Int) : (Int × Int) → Option Int
  | (v1003, v1004) => q569 (v1003, v1004, (IntKind.i64.wrap (v919 + (1 : Int))))
def f39.j1083 (k : Nat) (v1077 : Int) (q1047 : (Int × Bool × Int) → Option Int) : (Int × Bool) → Option Int
  | (v1081, v1082) => q1047 (v1081, v1082, (IntKind.i64.wrap (v1077 + (1 : Int))))
def f39.l1047 (k : Nat) (x1 : (List Int)) (r1006 : (List Int)) (v917 : Int) (v918 : Int) (v919 : Int) (q1005 : (Int × Int) → Option Int) : Nat → (Int × Bool × Int) → Option Int
  | 0, _ => none
  | m1047 + 1, (v1075, v1076, v1077) => if (decide ((v1077 : Int) < (List.length x1 : Int))) then (if (0 ≤ v1077 ∧ v1077 < (List.length x1 : Int)) then (if (0 ≤ (List.getD x1 (Int.toNat v1077) (0 : Int)) ∧ (List.getD x1 (Int.toNat v1077) (0 : Int)) < (List.length r1006 : Int)) then (if (decide (((List.getD r1006 (Int.toNat (List.getD x1 (Int.toNat v1077) (0 : Int))) (0 : Int)) : Int) < (0 : Int))) then (f39.j1083 k v1077 ((f39.l1047 k x1 r1006 v917 v918 v919 q1005) m1047) (v1075, false)) else (if (0 ≤ (List.getD x1 (Int.toNat v1077) (0 : Int)) ∧ (List.getD x1 (Int.toNat v1077) (0 : Int)) < (List.length r1006 : Int)) then (f39.j1083 k v1077 ((f39.l1047 k x1 r1006 v917 v918 v919 q1005) m1047) ((IntKind.i64.wrap (v1075 + (List.getD r1006 (Int.toNat (List.getD x1 (Int.toNat v1077) (0 : Int))) (0 : Int)))), v1076)) else none)) else none) else none) else (if (bif v1076 then (bif (decide ((v917 : Int) < (0 : Int))) then true else (decide ((v1075 : Int) < v918))) else false) then (q1005 ((List.getD x1 (Int.toNat v919) (0 : Int)), v1075)) else (q1005 (v917, v918)))
def f39.l569 (k : Nat) (x1 : (List Int)) (r2 : (((List (Int × (Int × Int))) × ((List (Int × (Int × (Int × (Int × (Int × ByteArray)))))) × (List (Int × Int)))) × ((List (List Int)) × ((List (List Int)) × (Option (List ((Int × Int) × Bool))))))) : Nat → (Int × Int × Int) → Option Int
  | 0, _ => none
  | m569 + 1, (v917, v918, v919) => if (decide ((v919 : Int) < (List.length x1 : Int))) then (if (0 ≤ v919 ∧ v919 < (List.length x1 : Int)) then ((f95 k r2 (List.getD x1 (Int.toNat v919) (0 : Int))).bind fun r1006 => (f39.l1047 k x1 r1006 v917 v918 v919 (f39.j1005 k v919 ((f39.l569 k x1 r2) m569)) k ((0 : Int), true, (0 : Int)))) else none) else (some v917)
def f39.l26 (k : Nat) (x1 : (List Int)) (r2 : (((List (Int × (Int × Int))) × ((List (Int × (Int × (Int × (Int × (Int × ByteArray)))))) × (List (Int × Int)))) × ((List (List Int)) × ((List (List Int)) × (Option (List ((Int × Int) × Bool))))))) : Nat → Int → Option Int
  | 0, _ => none
  | m26 + 1, v42 => if (decide ((v42 : Int) < (List.length x1 : Int))) then (if (0 ≤ v42 ∧ v42 < (List.length x1 : Int)) then ((f91 k r2 (List.getD x1 (Int.toNat v42) (0 : Int))).bind fun r46 => (if (!r46) then (some (-1 : Int)) else ((f39.l26 k x1 r2) m26 (IntKind.i64.wrap (v42 + (1 : Int)))))) else none) else (f39.l569 k x1 r2 k ((-1 : Int), (0 : Int), (0 : Int)))
def f39 (k : Nat) (x0 : ((List (Int × (Int × Int))) × ((List (Int × (Int × (Int × (Int × (Int × ByteArray)))))) × (List (Int × Int))))) (x1 : (List Int)) : Option Int := (f63 k x0).bind fun r1 => (if (bif (!r1) then true else (decide (((List.length x1 : Int) : Int) > (100 : Int)))) then (some (-1 : Int)) else ((f64 k x0).bind fun r2 => (f39.l26 k x1 r2 k (0 : Int))))
set_option maxRecDepth 100000 in
/-- 'impl.Center'. -/
theorem c39 (k : Nat) (x0 : ((List (Int × (Int × Int))) × ((List (Int × (Int × (Int × (Int × (Int × ByteArray)))))) × (List (Int × Int))))) (x1 : (List Int)) (r : Int) (hF : f39 k x0 x1 = some r) : PCall Try.prog 39 [⟨sh12, x0⟩, ⟨(.sl false 2 (.int .i64)), x1⟩] [⟨(.int .i64), r⟩] := by
  refine pcall_intro Try.func39 rfl rfl (Nat.le_of_ble_eq_true rfl) ?_
  intro w0 Zi a w h
  rw [f39] at hF
  refine wp_reg_seq tok (orc := orcL []) (fz := []) (l := [1, 2]) (c := _) (.inr fun i h => h) h (by kernel_rfl) (AllP.nil) ?_
  intro a w h
  refine wp_seq ?_
  obtain ⟨r1, hr1090, hF⟩ := of_bind hF
  refine wp_reg_seq tok (orc := orcL [(18, [⟨.bool, r1⟩])]) (fz := []) (l := [1, 2, 24]) (c := _) (.inr fun i h => h) h (by kernel_rfl) (AllP.cons (c63 k x0 r1 hr1090) AllP.nil) ?_
  intro a w h
  refine wp_if h (b := (bif (!r1) then true else (decide (((List.length x1 : Int) : Int) > (100 : Int))))) (by kernel_rfl) (fun hb => ?_) (fun hb => ?_)
  · replace hF := of_t hb hF
    refine wp_reg_seq tok (orc := orcL []) (fz := []) (l := [4]) (c := _) (.inr fun i h => h) h (by kernel_rfl) (AllP.nil) ?_
    intro a w h
    cases hF
    exact wp_ret (ret_okR tok h rfl (by kernel_rfl)).1
  · replace hF := of_f hb hF
    refine wp_skip ?_
    obtain ⟨r2, hr1089, hF⟩ := of_bind hF
    refine wp_reg_seq tok (orc := orcL [(26, [⟨sh18, some r2⟩])]) (fz := []) (l := [1, 5]) (c := _) (.inr fun i h => h) h (by kernel_rfl) (AllP.cons (c64 k x0 r2 hr1089) AllP.nil) ?_
    intro a w h
    refine wp_seq ?_
    refine wp_reg_seq tok (orc := orcL []) (fz := []) (l := [1, 5, 27, 28, 29]) (c := _) (.inr fun i h => h) h (by kernel_rfl) (AllP.nil) ?_
    intro a w h
    refine wp_block ?_
    refine wp_loop_fuel (f39.l26 k x1 r2) (fun (v42 : Int) => [(1, .val (.sl false 2 (.int .i64)) x1), (5, .val sh18 (some r2)), (27, .val (.sl false 2 (.int .i64)) x1), (28, .val (.int .i64) (List.length x1 : Int)), (29, .val (.int .i64) v42)]) (fun v h => by rw [f39.l26] at h; cases h) ?_ hF (h.arrive (fz := []) (l := [1, 5, 27, 28, 29]) (.inr fun i h => h) (by kernel_rfl))
    intro m26 v42 a w hF h
    rw [f39.l26] at hF
    refine wp_reg_seq tok (orc := orcL []) (fz := []) (l := [1, 5, 27, 28, 29, 30]) (c := _) (.inr fun i h => h) h (by kernel_rfl) (AllP.nil) ?_
    intro a w h
    refine wp_seq <| wp_if h (b := (decide ((v42 : Int) < (List.length x1 : Int)))) (by kernel_rfl) (fun hb => ?_) (fun hb => ?_)
    · replace hF := of_t hb hF
      refine wp_skip ?_
      refine wp_seq <| wp_block ?_
      obtain ⟨hc48, hF⟩ := of_if hF
      refine wp_reg_seq tok (orc := orcL []) (fz := []) (l := [1, 5, 7, 27, 28, 29]) (c := _) (.inr fun i h => h) h (by kernel_rfl) (AllP.cons hc48 AllP.nil) ?_
      intro a w h
      obtain ⟨r46, hr47, hF⟩ := of_bind hF
      refine wp_reg_seq tok (orc := orcL [(35, [⟨.bool, r46⟩])]) (fz := []) (l := [1, 5, 27, 28, 29, 36]) (c := _) (.inr fun i h => h) h (by kernel_rfl) (AllP.cons (c91 k r2 (List.getD x1 (Int.toNat v42) (0 : Int)) r46 hr47) AllP.nil) ?_
      intro a w h
      refine wp_if h (b := (!r46)) (by kernel_rfl) (fun hb => ?_) (fun hb => ?_)
      · replace hF := of_t hb hF
        refine wp_reg_seq tok (orc := orcL []) (fz := []) (l := [4]) (c := _) (.inr fun i h => h) h (by kernel_rfl) (AllP.nil) ?_
        intro a w h
        cases hF
        exact wp_ret (ret_okR tok h rfl (by kernel_rfl)).1
      · replace hF := of_f hb hF
        refine wp_skip ?_
        refine wp_reg tok (orc := orcL []) (fz := []) (l := [1, 5, 27, 28, 29]) (c := _) (.inr fun i h => h) h (by kernel_rfl) (AllP.nil) ?_
        intro a w h
        exact ⟨(IntKind.i64.wrap (v42 + (1 : Int))), hF, h.arrive (fz := []) (l := [1, 5, 27, 28, 29]) (.inr fun i h => h) (by kernel_rfl)⟩
    · replace hF := of_f hb hF
      refine wp_exit ?_
      refine wp_reg_seq tok (orc := orcL []) (fz := []) (l := [1, 5, 8, 9]) (c := _) (.inr fun i h => h) h (by kernel_rfl) (AllP.nil) ?_
      intro a w h
      refine wp_seq ?_
      refine wp_reg_seq tok (orc := orcL []) (fz := []) (l := [1, 5, 8, 9, 38, 39, 40]) (c := _) (.inr fun i h => h) h (by kernel_rfl) (AllP.nil) ?_
      intro a w h
      refine wp_block ?_
      refine wp_loop_fuel (f39.l569 k x1 r2) (fun ((v917, v918, v919) : (Int × Int × Int)) => [(1, .val (.sl false 2 (.int .i64)) x1), (5, .val sh18 (some r2)), (8, .val (.int .i64) v917), (9, .val (.int .i64) v918), (38, .val (.sl false 2 (.int .i64)) x1), (39, .val (.int .i64) (List.length x1 : Int)), (40, .val (.int .i64) v919)]) (fun v h => by obtain ⟨v917, v918, v919⟩ := v; rw [f39.l569] at h; cases h) ?_ hF (h.arrive (fz := []) (l := [1, 5, 8, 9, 38, 39, 40]) (.inr fun i h => h) (by kernel_rfl))
      intro m569 v a w hF h
      obtain ⟨v917, v918, v919⟩ := v
      rw [f39.l569] at hF
      refine wp_reg_seq tok (orc := orcL []) (fz := []) (l := [1, 5, 8, 9, 38, 39, 40, 41]) (c := _) (.inr fun i h => h) h (by kernel_rfl) (AllP.nil) ?_
      intro a w h
      refine wp_seq <| wp_if h (b := (decide ((v919 : Int) < (List.length x1 : Int)))) (by kernel_rfl) (fun hb => ?_) (fun hb => ?_)
      · replace hF := of_t hb hF
        refine wp_skip ?_
        refine wp_mid (fun a w => ∃ v : (Int × Int), f39.j1005 k v919 ((f39.l569 k x1 r2) m569) v = some r ∧ Rel w0 (fun _ => False) Zi Try.f39.ntmps ((fun ((v1003, v1004) : (Int × Int)) => ([(1, .val (.sl false 2 (.int .i64)) x1), (5, .val sh18 (some r2)), (8, .val (.int .i64) v1003), (9, .val (.int .i64) v1004), (38, .val (.sl false 2 (.int .i64)) x1), (39, .val (.int .i64) (List.length x1 : Int)), (40, .val (.int .i64) v919)] : SS)) v) a w) ?_ ?_
        ·
          refine wp_block ?_
          obtain ⟨hc1088, hF⟩ := of_if hF
          refine wp_reg_seq tok (orc := orcL []) (fz := []) (l := [1, 5, 8, 9, 11, 38, 39, 40]) (c := _) (.inr fun i h => h) h (by kernel_rfl) (AllP.cons hc1088 AllP.nil) ?_
          intro a w h
          obtain ⟨r1006, hr1087, hF⟩ := of_bind hF
          refine wp_reg_seq tok (orc := orcL [(46, [⟨(.sl true 2 (.int .i64)), r1006⟩])]) (fz := []) (l := [1, 5, 8, 9, 11, 12, 38, 39, 40]) (c := _) (.inr fun i h => h) h (by kernel_rfl) (AllP.cons (c95 k r2 (List.getD x1 (Int.toNat v919) (0 : Int)) r1006 hr1087) AllP.nil) ?_
          intro a w h
          refine wp_reg_seq tok (orc := orcL []) (fz := []) (l := [1, 5, 8, 9, 11, 12, 13, 14, 38, 39, 40]) (c := _) (.inr fun i h => h) h (by kernel_rfl) (AllP.nil) ?_
          intro a w h
          refine wp_seq ?_
          refine wp_reg_seq tok (orc := orcL []) (fz := []) (l := [1, 5, 8, 9, 11, 12, 13, 14, 38, 39, 40, 47, 48, 49]) (c := _) (.inr fun i h => h) h (by kernel_rfl) (AllP.nil) ?_
          intro a w h
          refine wp_block ?_
          refine wp_loop_fuel (f39.l1047 k x1 r1006 v917 v918 v919 (f39.j1005 k v919 ((f39.l569 k x1 r2) m569))) (fun ((v1075, v1076, v1077) : (Int × Bool × Int)) => [(1, .val (.sl false 2 (.int .i64)) x1), (5, .val sh18 (some r2)), (8, .val (.int .i64) v917), (9, .val (.int .i64) v918), (11, .val (.int .i64) (List.getD x1 (Int.toNat v919) (0 : Int))), (12, .val (.sl true 2 (.int .i64)) r1006), (13, .val (.int .i64) v1075), (14, .val .bool v1076), (38, .val (.sl false 2 (.int .i64)) x1), (39, .val (.int .i64) (List.length x1 : Int)), (40, .val (.int .i64) v919), (47, .val (.sl false 2 (.int .i64)) x1), (48, .val (.int .i64) (List.length x1 : Int)), (49, .val (.int .i64) v1077)]) (fun v h => by obtain ⟨v1075, v1076, v1077⟩ := v; rw [f39.l1047] at h; cases h) ?_ hF (h.arrive (fz := []) (l := [1, 5, 8, 9, 11, 12, 13, 14, 38, 39, 40, 47, 48, 49]) (.inr fun i h => h) (by kernel_rfl))
          intro m1047 v a w hF h
          obtain ⟨v1075, v1076, v1077⟩ := v
          rw [f39.l1047] at hF
          refine wp_reg_seq tok (orc := orcL []) (fz := []) (l := [1, 5, 8, 9, 11, 12, 13, 14, 38, 39, 40, 47, 48, 49, 50]) (c := _) (.inr fun i h => h) h (by kernel_rfl) (AllP.nil) ?_
          intro a w h
          refine wp_seq <| wp_if h (b := (decide ((v1077 : Int) < (List.length x1 : Int)))) (by kernel_rfl) (fun hb => ?_) (fun hb => ?_)
          · replace hF := of_t hb hF
            refine wp_skip ?_
            refine wp_mid (fun a w => ∃ v : (Int × Bool), f39.j1083 k v1077 ((f39.l1047 k x1 r1006 v917 v918 v919 (f39.j1005 k v919 ((f39.l569 k x1 r2) m569))) m1047) v = some r ∧ Rel w0 (fun _ => False) Zi Try.f39.ntmps ((fun ((v1081, v1082) : (Int × Bool)) => ([(1, .val (.sl false 2 (.int .i64)) x1), (5, .val sh18 (some r2)), (8, .val (.int .i64) v917), (9, .val (.int .i64) v918), (11, .val (.int .i64) (List.getD x1 (Int.toNat v919) (0 : Int))), (12, .val (.sl true 2 (.int .i64)) r1006), (13, .val (.int .i64) v1081), (14, .val .bool v1082), (38, .val (.sl false 2 (.int .i64)) x1), (39, .val (.int .i64) (List.length x1 : Int)), (40, .val (.int .i64) v919), (47, .val (.sl false 2 (.int .i64)) x1), (48, .val (.int .i64) (List.length x1 : Int)), (49, .val (.int .i64) v1077)] : SS)) v) a w) ?_ ?_
            ·
              refine wp_block ?_
              obtain ⟨hc1086, hF⟩ := of_if hF
              refine wp_reg_seq tok (orc := orcL []) (fz := []) (l := [1, 5, 8, 9, 11, 12, 13, 14, 16, 38, 39, 40, 47, 48, 49]) (c := _) (.inr fun i h => h) h (by kernel_rfl) (AllP.cons hc1086 AllP.nil) ?_
              intro a w h
              obtain ⟨hc1085, hF⟩ := of_if hF
              refine wp_reg_seq tok (orc := orcL []) (fz := []) (l := [1, 5, 8, 9, 11, 12, 13, 14, 16, 38, 39, 40, 47, 48, 49, 57]) (c := _) (.inr fun i h => h) h (by kernel_rfl) (AllP.cons hc1085 AllP.nil) ?_
              intro a w h
              refine wp_if h (b := (decide (((List.getD r1006 (Int.toNat (List.getD x1 (Int.toNat v1077) (0 : Int))) (0 : Int)) : Int) < (0 : Int)))) (by kernel_rfl) (fun hb => ?_) (fun hb => ?_)
              · replace hF := of_t hb hF
                refine wp_reg tok (orc := orcL []) (fz := []) (l := [1, 5, 8, 9, 11, 12, 13, 14, 38, 39, 40, 47, 48, 49]) (c := _) (.inr fun i h => h) h (by kernel_rfl) (AllP.nil) ?_
                intro a w h
                exact ⟨(v1075, false), hF, h.arrive (fz := []) (l := [1, 5, 8, 9, 11, 12, 13, 14, 38, 39, 40, 47, 48, 49]) (.inr fun i h => h) (by kernel_rfl)⟩
              · replace hF := of_f hb hF
                obtain ⟨hc1084, hF⟩ := of_if hF
                refine wp_reg tok (orc := orcL []) (fz := []) (l := [1, 5, 8, 9, 11, 12, 13, 14, 38, 39, 40, 47, 48, 49]) (c := _) (.inr fun i h => h) h (by kernel_rfl) (AllP.cons hc1084 AllP.nil) ?_
                intro a w h
                exact ⟨((IntKind.i64.wrap (v1075 + (List.getD r1006 (Int.toNat (List.getD x1 (Int.toNat v1077) (0 : Int))) (0 : Int)))), v1076), hF, h.arrive (fz := []) (l := [1, 5, 8, 9, 11, 12, 13, 14, 38, 39, 40, 47, 48, 49]) (.inr fun i h => h) (by kernel_rfl)⟩
            · rintro a w ⟨v, hF, h⟩
              obtain ⟨v1081, v1082⟩ := v
              rw [f39.j1083] at hF
              refine wp_reg tok (orc := orcL []) (fz := []) (l := [1, 5, 8, 9, 11, 12, 13, 14, 38, 39, 40, 47, 48, 49]) (c := _) (.inr fun i h => h) h (by kernel_rfl) (AllP.nil) ?_
              intro a w h
              exact ⟨(v1081, v1082, (IntKind.i64.wrap (v1077 + (1 : Int)))), hF, h.arrive (fz := []) (l := [1, 5, 8, 9, 11, 12, 13, 14, 38, 39, 40, 47, 48, 49]) (.inr fun i h => h) (by kernel_rfl)⟩
          · replace hF := of_f hb hF
            refine wp_exit ?_
            refine wp_reg_seq tok (orc := orcL []) (fz := []) (l := [1, 5, 8, 9, 11, 13, 38, 39, 40, 74]) (c := _) (.inr fun i h => h) h (by kernel_rfl) (AllP.nil) ?_
            intro a w h
            refine wp_if h (b := (bif v1076 then (bif (decide ((v917 : Int) < (0 : Int))) then true else (decide ((v1075 : Int) < v918))) else false)) (by kernel_rfl) (fun hb => ?_) (fun hb => ?_)
            · replace hF := of_t hb hF
              refine wp_reg tok (orc := orcL []) (fz := []) (l := [1, 5, 8, 9, 38, 39, 40]) (c := _) (.inr fun i h => h) h (by kernel_rfl) (AllP.nil) ?_
              intro a w h
              exact ⟨((List.getD x1 (Int.toNat v919) (0 : Int)), v1075), hF, h.arrive (fz := []) (l := [1, 5, 8, 9, 38, 39, 40]) (.inr fun i h => h) (by kernel_rfl)⟩
            · replace hF := of_f hb hF
              refine wp_skip ?_
              exact ⟨(v917, v918), hF, h.arrive (fz := []) (l := [1, 5, 8, 9, 38, 39, 40]) (.inr fun i h => h) (by kernel_rfl)⟩
        · rintro a w ⟨v, hF, h⟩
          obtain ⟨v1003, v1004⟩ := v
          rw [f39.j1005] at hF
          refine wp_reg tok (orc := orcL []) (fz := []) (l := [1, 5, 8, 9, 38, 39, 40]) (c := _) (.inr fun i h => h) h (by kernel_rfl) (AllP.nil) ?_
          intro a w h
          exact ⟨(v1003, v1004, (IntKind.i64.wrap (v919 + (1 : Int)))), hF, h.arrive (fz := []) (l := [1, 5, 8, 9, 38, 39, 40]) (.inr fun i h => h) (by kernel_rfl)⟩
      · replace hF := of_f hb hF
        refine wp_exit ?_
        refine wp_reg_seq tok (orc := orcL []) (fz := []) (l := [4]) (c := _) (.inr fun i h => h) h (by kernel_rfl) (AllP.nil) ?_
        intro a w h
        cases hF
        exact wp_ret (ret_okR tok h rfl (by kernel_rfl)).1

def f128 (k : Nat) (x0 : (Int × Int)) (x1 : (Int × Int)) : Option Bool := if ((x0.1 : Int) != x1.1) then (some false) else (if ((x0.2 : Int) != x1.2) then (some false) else (some true))
set_option maxRecDepth 100000 in
/-- 'laws.eqPoint'. -/
theorem c128 (k : Nat) (x0 : (Int × Int)) (x1 : (Int × Int)) (r : Bool) (hF : f128 k x0 x1 = some r) : PCall Try.prog 128 [⟨sh5, x0⟩, ⟨sh5, x1⟩] [⟨.bool, r⟩] := by
  refine pcall_intro Try.func128 rfl rfl (Nat.le_of_ble_eq_true rfl) ?_
  intro w0 Zi a w h
  rw [f128] at hF
  refine wp_reg_seq tok (orc := orcL []) (fz := []) (l := [2, 3]) (c := _) (.inr fun i h => h) h (by kernel_rfl) (AllP.nil) ?_
  intro a w h
  refine wp_seq ?_
  refine wp_reg_seq tok (orc := orcL []) (fz := []) (l := [2, 3, 9]) (c := _) (.inr fun i h => h) h (by kernel_rfl) (AllP.nil) ?_
  intro a w h
  refine wp_if h (b := ((x0.1 : Int) != x1.1)) (by kernel_rfl) (fun hb => ?_) (fun hb => ?_)
  · replace hF := of_t hb hF
    refine wp_reg_seq tok (orc := orcL []) (fz := []) (l := [4]) (c := _) (.inr fun i h => h) h (by kernel_rfl) (AllP.nil) ?_
    intro a w h
    cases hF
    exact wp_ret (ret_okR tok h rfl (by kernel_rfl)).1
  · replace hF := of_f hb hF
    refine wp_skip ?_
    refine wp_seq ?_
    refine wp_reg_seq tok (orc := orcL []) (fz := []) (l := [14]) (c := _) (.inr fun i h => h) h (by kernel_rfl) (AllP.nil) ?_
    intro a w h
    refine wp_if h (b := ((x0.2 : Int) != x1.2)) (by kernel_rfl) (fun hb => ?_) (fun hb => ?_)
    · replace hF := of_t hb hF
      refine wp_reg_seq tok (orc := orcL []) (fz := []) (l := [4]) (c := _) (.inr fun i h => h) h (by kernel_rfl) (AllP.nil) ?_
      intro a w h
      cases hF
      exact wp_ret (ret_okR tok h rfl (by kernel_rfl)).1
    · replace hF := of_f hb hF
      refine wp_skip ?_
      refine wp_reg_seq tok (orc := orcL []) (fz := []) (l := [4]) (c := _) (.inr fun i h => h) h (by kernel_rfl) (AllP.nil) ?_
      intro a w h
      cases hF
      exact wp_ret (ret_okR tok h rfl (by kernel_rfl)).1

def f110 (k : Nat) (x0 : (Int × (Int × Int))) (x1 : (Int × (Int × Int))) : Option Bool := if ((x0.1 : Int) != x1.1) then (some false) else ((f128 k x0.2 x1.2).bind fun r1 => (if (!r1) then (some false) else (some true)))
set_option maxRecDepth 100000 in
/-- 'laws.eqSpot'. -/
theorem c110 (k : Nat) (x0 : (Int × (Int × Int))) (x1 : (Int × (Int × Int))) (r : Bool) (hF : f110 k x0 x1 = some r) : PCall Try.prog 110 [⟨sh6, x0⟩, ⟨sh6, x1⟩] [⟨.bool, r⟩] := by
  refine pcall_intro Try.func110 rfl rfl (Nat.le_of_ble_eq_true rfl) ?_
  intro w0 Zi a w h
  rw [f110] at hF
  refine wp_reg_seq tok (orc := orcL []) (fz := []) (l := [2, 3]) (c := _) (.inr fun i h => h) h (by kernel_rfl) (AllP.nil) ?_
  intro a w h
  refine wp_seq ?_
  refine wp_reg_seq tok (orc := orcL []) (fz := []) (l := [2, 3, 9]) (c := _) (.inr fun i h => h) h (by kernel_rfl) (AllP.nil) ?_
  intro a w h
  refine wp_if h (b := ((x0.1 : Int) != x1.1)) (by kernel_rfl) (fun hb => ?_) (fun hb => ?_)
  · replace hF := of_t hb hF
    refine wp_reg_seq tok (orc := orcL []) (fz := []) (l := [4]) (c := _) (.inr fun i h => h) h (by kernel_rfl) (AllP.nil) ?_
    intro a w h
    cases hF
    exact wp_ret (ret_okR tok h rfl (by kernel_rfl)).1
  · replace hF := of_f hb hF
    refine wp_skip ?_
    refine wp_seq ?_
    obtain ⟨r1, hr2, hF⟩ := of_bind hF
    refine wp_reg_seq tok (orc := orcL [(14, [⟨.bool, r1⟩])]) (fz := []) (l := [15]) (c := _) (.inr fun i h => h) h (by kernel_rfl) (AllP.cons (c128 k x0.2 x1.2 r1 hr2) AllP.nil) ?_
    intro a w h
    refine wp_if h (b := (!r1)) (by kernel_rfl) (fun hb => ?_) (fun hb => ?_)
    · replace hF := of_t hb hF
      refine wp_reg_seq tok (orc := orcL []) (fz := []) (l := [4]) (c := _) (.inr fun i h => h) h (by kernel_rfl) (AllP.nil) ?_
      intro a w h
      cases hF
      exact wp_ret (ret_okR tok h rfl (by kernel_rfl)).1
    · replace hF := of_f hb hF
      refine wp_skip ?_
      refine wp_reg_seq tok (orc := orcL []) (fz := []) (l := [4]) (c := _) (.inr fun i h => h) h (by kernel_rfl) (AllP.nil) ?_
      intro a w h
      cases hF
      exact wp_ret (ret_okR tok h rfl (by kernel_rfl)).1

def f67.l30 (k : Nat) (x0 : (List (Int × (Int × Int)))) (x1 : (List (Int × (Int × Int)))) : Nat → Int → Option Bool
  | 0, _ => none
  | m30 + 1, v50 => if (decide ((v50 : Int) < (List.length x0 : Int))) then (if (0 ≤ v50 ∧ v50 < (List.length x0 : Int)) then (if (0 ≤ v50 ∧ v50 < (List.length x1 : Int)) then ((f110 k (List.getD x0 (Int.toNat v50) ((0 : Int), ((0 : Int), (0 : Int)))) (List.getD x1 (Int.toNat v50) ((0 : Int), ((0 : Int), (0 : Int))))).bind fun r55 => (if (!r55) then (some false) else ((f67.l30 k x0 x1) m30 (IntKind.i64.wrap (v50 + (1 : Int)))))) else none) else none) else (some true)
def f67 (k : Nat) (x0 : (List (Int × (Int × Int)))) (x1 : (List (Int × (Int × Int)))) : Option Bool := if (((List.length x0 : Int) : Int) != (List.length x1 : Int)) then (some false) else (f67.l30 k x0 x1 k (0 : Int))
set_option maxRecDepth 100000 in
/-- 'laws.eqSpotS'. -/
theorem c67 (k : Nat) (x0 : (List (Int × (Int × Int)))) (x1 : (List (Int × (Int × Int)))) (r : Bool) (hF : f67 k x0 x1 = some r) : PCall Try.prog 67 [⟨sh15, x0⟩, ⟨sh15, x1⟩] [⟨.bool, r⟩] := by
  refine pcall_intro Try.func67 rfl rfl (Nat.le_of_ble_eq_true rfl) ?_
  intro w0 Zi a w h
  rw [f67] at hF
  refine wp_reg_seq tok (orc := orcL []) (fz := []) (l := [0, 1]) (c := _) (.inr fun i h => h) h (by kernel_rfl) (AllP.nil) ?_
  intro a w h
  refine wp_seq ?_
  refine wp_reg_seq tok (orc := orcL []) (fz := []) (l := [0, 1, 10]) (c := _) (.inr fun i h => h) h (by kernel_rfl) (AllP.nil) ?_
  intro a w h
  refine wp_if h (b := (((List.length x0 : Int) : Int) != (List.length x1 : Int))) (by kernel_rfl) (fun hb => ?_) (fun hb => ?_)
  · replace hF := of_t hb hF
    refine wp_reg_seq tok (orc := orcL []) (fz := []) (l := [4]) (c := _) (.inr fun i h => h) h (by kernel_rfl) (AllP.nil) ?_
    intro a w h
    cases hF
    exact wp_ret (ret_okR tok h rfl (by kernel_rfl)).1
  · replace hF := of_f hb hF
    refine wp_skip ?_
    refine wp_seq ?_
    refine wp_reg_seq tok (orc := orcL []) (fz := []) (l := [0, 1, 5]) (c := _) (.inr fun i h => h) h (by kernel_rfl) (AllP.nil) ?_
    intro a w h
    refine wp_block ?_
    refine wp_loop_fuel (f67.l30 k x0 x1) (fun (v50 : Int) => [(0, .val sh15 x0), (1, .val sh15 x1), (5, .val (.int .i64) v50)]) (fun v h => by rw [f67.l30] at h; cases h) ?_ hF (h.arrive (fz := []) (l := [0, 1, 5]) (.inr fun i h => h) (by kernel_rfl))
    intro m30 v50 a w hF h
    rw [f67.l30] at hF
    refine wp_seq ?_
    refine wp_reg_seq tok (orc := orcL []) (fz := []) (l := [0, 1, 5, 14]) (c := _) (.inr fun i h => h) h (by kernel_rfl) (AllP.nil) ?_
    intro a w h
    refine wp_if h (b := (decide ((v50 : Int) < (List.length x0 : Int)))) (by kernel_rfl) (fun hb => ?_) (fun hb => ?_)
    · replace hF := of_t hb hF
      refine wp_skip ?_
      refine wp_seq <| wp_block ?_
      obtain ⟨hc56, hF⟩ := of_if hF
      obtain ⟨hc57, hF⟩ := of_if hF
      obtain ⟨r55, hr58, hF⟩ := of_bind hF
      refine wp_regy_seq tok (orc := orcL [(25, [⟨.bool, r55⟩])]) (fz := []) (l := [0, 1, 5, 26]) (c := _) ([], [], [], []) 10 (.inr fun i h => h) h (by kernel_rfl) (by kernel_rfl) (AllP.cons hc56 (AllP.cons hc57 (AllP.cons (c110 k (List.getD x0 (Int.toNat v50) ((0 : Int), ((0 : Int), (0 : Int)))) (List.getD x1 (Int.toNat v50) ((0 : Int), ((0 : Int), (0 : Int)))) r55 hr58) AllP.nil))) ?_
      intro a w h
      refine wp_if h (b := (!r55)) (by kernel_rfl) (fun hb => ?_) (fun hb => ?_)
      · replace hF := of_t hb hF
        refine wp_reg_seq tok (orc := orcL []) (fz := []) (l := [4]) (c := _) (.inr fun i h => h) h (by kernel_rfl) (AllP.nil) ?_
        intro a w h
        cases hF
        exact wp_ret (ret_okR tok h rfl (by kernel_rfl)).1
      · replace hF := of_f hb hF
        refine wp_skip ?_
        refine wp_reg tok (orc := orcL []) (fz := []) (l := [0, 1, 5]) (c := _) (.inr fun i h => h) h (by kernel_rfl) (AllP.nil) ?_
        intro a w h
        exact ⟨(IntKind.i64.wrap (v50 + (1 : Int))), hF, h.arrive (fz := []) (l := [0, 1, 5]) (.inr fun i h => h) (by kernel_rfl)⟩
    · replace hF := of_f hb hF
      refine wp_exit ?_
      refine wp_reg_seq tok (orc := orcL []) (fz := []) (l := [4]) (c := _) (.inr fun i h => h) h (by kernel_rfl) (AllP.nil) ?_
      intro a w h
      cases hF
      exact wp_ret (ret_okR tok h rfl (by kernel_rfl)).1

def f111 (k : Nat) (x0 : (Int × (Int × (Int × (Int × (Int × ByteArray)))))) (x1 : (Int × (Int × (Int × (Int × (Int × ByteArray)))))) : Option Bool := if ((x0.1 : Int) != x1.1) then (some false) else (if ((x0.2.1 : Int) != x1.2.1) then (some false) else (if ((x0.2.2.1 : Int) != x1.2.2.1) then (some false) else (if ((x0.2.2.2.1 : Int) != x1.2.2.2.1) then (some false) else (if ((x0.2.2.2.2.1 : Int) != x1.2.2.2.2.1) then (some false) else (if (!(ByteArray.toList x0.2.2.2.2.2 == ByteArray.toList x1.2.2.2.2.2)) then (some false) else (some true))))))
set_option maxRecDepth 100000 in
/-- 'laws.eqRoad'. -/
theorem c111 (k : Nat) (x0 : (Int × (Int × (Int × (Int × (Int × ByteArray)))))) (x1 : (Int × (Int × (Int × (Int × (Int × ByteArray)))))) (r : Bool) (hF : f111 k x0 x1 = some r) : PCall Try.prog 111 [⟨sh1, x0⟩, ⟨sh1, x1⟩] [⟨.bool, r⟩] := by
  refine pcall_intro Try.func111 rfl rfl (Nat.le_of_ble_eq_true rfl) ?_
  intro w0 Zi a w h
  rw [f111] at hF
  refine wp_reg_seq tok (orc := orcL []) (fz := []) (l := [2, 3]) (c := _) (.inr fun i h => h) h (by kernel_rfl) (AllP.nil) ?_
  intro a w h
  refine wp_seq ?_
  refine wp_reg_seq tok (orc := orcL []) (fz := []) (l := [2, 3, 9]) (c := _) (.inr fun i h => h) h (by kernel_rfl) (AllP.nil) ?_
  intro a w h
  refine wp_if h (b := ((x0.1 : Int) != x1.1)) (by kernel_rfl) (fun hb => ?_) (fun hb => ?_)
  · replace hF := of_t hb hF
    refine wp_reg_seq tok (orc := orcL []) (fz := []) (l := [4]) (c := _) (.inr fun i h => h) h (by kernel_rfl) (AllP.nil) ?_
    intro a w h
    cases hF
    exact wp_ret (ret_okR tok h rfl (by kernel_rfl)).1
  · replace hF := of_f hb hF
    refine wp_skip ?_
    refine wp_seq ?_
    refine wp_reg_seq tok (orc := orcL []) (fz := []) (l := [2, 3, 14]) (c := _) (.inr fun i h => h) h (by kernel_rfl) (AllP.nil) ?_
    intro a w h
    refine wp_if h (b := ((x0.2.1 : Int) != x1.2.1)) (by kernel_rfl) (fun hb => ?_) (fun hb => ?_)
    · replace hF := of_t hb hF
      refine wp_reg_seq tok (orc := orcL []) (fz := []) (l := [4]) (c := _) (.inr fun i h => h) h (by kernel_rfl) (AllP.nil) ?_
      intro a w h
      cases hF
      exact wp_ret (ret_okR tok h rfl (by kernel_rfl)).1
    · replace hF := of_f hb hF
      refine wp_skip ?_
      refine wp_seq ?_
      refine wp_reg_seq tok (orc := orcL []) (fz := []) (l := [2, 3, 19]) (c := _) (.inr fun i h => h) h (by kernel_rfl) (AllP.nil) ?_
      intro a w h
      refine wp_if h (b := ((x0.2.2.1 : Int) != x1.2.2.1)) (by kernel_rfl) (fun hb => ?_) (fun hb => ?_)
      · replace hF := of_t hb hF
        refine wp_reg_seq tok (orc := orcL []) (fz := []) (l := [4]) (c := _) (.inr fun i h => h) h (by kernel_rfl) (AllP.nil) ?_
        intro a w h
        cases hF
        exact wp_ret (ret_okR tok h rfl (by kernel_rfl)).1
      · replace hF := of_f hb hF
        refine wp_skip ?_
        refine wp_seq ?_
        refine wp_reg_seq tok (orc := orcL []) (fz := []) (l := [2, 3, 24]) (c := _) (.inr fun i h => h) h (by kernel_rfl) (AllP.nil) ?_
        intro a w h
        refine wp_if h (b := ((x0.2.2.2.1 : Int) != x1.2.2.2.1)) (by kernel_rfl) (fun hb => ?_) (fun hb => ?_)
        · replace hF := of_t hb hF
          refine wp_reg_seq tok (orc := orcL []) (fz := []) (l := [4]) (c := _) (.inr fun i h => h) h (by kernel_rfl) (AllP.nil) ?_
          intro a w h
          cases hF
          exact wp_ret (ret_okR tok h rfl (by kernel_rfl)).1
        · replace hF := of_f hb hF
          refine wp_skip ?_
          refine wp_seq ?_
          refine wp_reg_seq tok (orc := orcL []) (fz := []) (l := [2, 3, 29]) (c := _) (.inr fun i h => h) h (by kernel_rfl) (AllP.nil) ?_
          intro a w h
          refine wp_if h (b := ((x0.2.2.2.2.1 : Int) != x1.2.2.2.2.1)) (by kernel_rfl) (fun hb => ?_) (fun hb => ?_)
          · replace hF := of_t hb hF
            refine wp_reg_seq tok (orc := orcL []) (fz := []) (l := [4]) (c := _) (.inr fun i h => h) h (by kernel_rfl) (AllP.nil) ?_
            intro a w h
            cases hF
            exact wp_ret (ret_okR tok h rfl (by kernel_rfl)).1
          · replace hF := of_f hb hF
            refine wp_skip ?_
            refine wp_seq ?_
            refine wp_reg_seq tok (orc := orcL []) (fz := []) (l := [34]) (c := _) (.inr fun i h => h) h (by kernel_rfl) (AllP.nil) ?_
            intro a w h
            refine wp_if h (b := (!(ByteArray.toList x0.2.2.2.2.2 == ByteArray.toList x1.2.2.2.2.2))) (by kernel_rfl) (fun hb => ?_) (fun hb => ?_)
            · replace hF := of_t hb hF
              refine wp_reg_seq tok (orc := orcL []) (fz := []) (l := [4]) (c := _) (.inr fun i h => h) h (by kernel_rfl) (AllP.nil) ?_
              intro a w h
              cases hF
              exact wp_ret (ret_okR tok h rfl (by kernel_rfl)).1
            · replace hF := of_f hb hF
              refine wp_skip ?_
              refine wp_reg_seq tok (orc := orcL []) (fz := []) (l := [4]) (c := _) (.inr fun i h => h) h (by kernel_rfl) (AllP.nil) ?_
              intro a w h
              cases hF
              exact wp_ret (ret_okR tok h rfl (by kernel_rfl)).1

def f68.l30 (k : Nat) (x0 : (List (Int × (Int × (Int × (Int × (Int × ByteArray))))))) (x1 : (List (Int × (Int × (Int × (Int × (Int × ByteArray))))))) : Nat → Int → Option Bool
  | 0, _ => none
  | m30 + 1, v50 => if (decide ((v50 : Int) < (List.length x0 : Int))) then (if (0 ≤ v50 ∧ v50 < (List.length x0 : Int)) then (if (0 ≤ v50 ∧ v50 < (List.length x1 : Int)) then ((f111 k (List.getD x0 (Int.toNat v50) ((0 : Int), ((0 : Int), ((0 : Int), ((0 : Int), ((0 : Int), (⟨#[]⟩ : ByteArray))))))) (List.getD x1 (Int.toNat v50) ((0 : Int), ((0 : Int), ((0 : Int), ((0 : Int), ((0 : Int), (⟨#[]⟩ : ByteArray)))))))).bind fun r55 => (if (!r55) then (some false) else ((f68.l30 k x0 x1) m30 (IntKind.i64.wrap (v50 + (1 : Int)))))) else none) else none) else (some true)
def f68 (k : Nat) (x0 : (List (Int × (Int × (Int × (Int × (Int × ByteArray))))))) (x1 : (List (Int × (Int × (Int × (Int × (Int × ByteArray))))))) : Option Bool := if (((List.length x0 : Int) : Int) != (List.length x1 : Int)) then (some false) else (f68.l30 k x0 x1 k (0 : Int))
set_option maxRecDepth 100000 in
/-- 'laws.eqRoadS'. -/
theorem c68 (k : Nat) (x0 : (List (Int × (Int × (Int × (Int × (Int × ByteArray))))))) (x1 : (List (Int × (Int × (Int × (Int × (Int × ByteArray))))))) (r : Bool) (hF : f68 k x0 x1 = some r) : PCall Try.prog 68 [⟨sh16, x0⟩, ⟨sh16, x1⟩] [⟨.bool, r⟩] := by
  refine pcall_intro Try.func68 rfl rfl (Nat.le_of_ble_eq_true rfl) ?_
  intro w0 Zi a w h
  rw [f68] at hF
  refine wp_reg_seq tok (orc := orcL []) (fz := []) (l := [0, 1]) (c := _) (.inr fun i h => h) h (by kernel_rfl) (AllP.nil) ?_
  intro a w h
  refine wp_seq ?_
  refine wp_reg_seq tok (orc := orcL []) (fz := []) (l := [0, 1, 10]) (c := _) (.inr fun i h => h) h (by kernel_rfl) (AllP.nil) ?_
  intro a w h
  refine wp_if h (b := (((List.length x0 : Int) : Int) != (List.length x1 : Int))) (by kernel_rfl) (fun hb => ?_) (fun hb => ?_)
  · replace hF := of_t hb hF
    refine wp_reg_seq tok (orc := orcL []) (fz := []) (l := [4]) (c := _) (.inr fun i h => h) h (by kernel_rfl) (AllP.nil) ?_
    intro a w h
    cases hF
    exact wp_ret (ret_okR tok h rfl (by kernel_rfl)).1
  · replace hF := of_f hb hF
    refine wp_skip ?_
    refine wp_seq ?_
    refine wp_reg_seq tok (orc := orcL []) (fz := []) (l := [0, 1, 5]) (c := _) (.inr fun i h => h) h (by kernel_rfl) (AllP.nil) ?_
    intro a w h
    refine wp_block ?_
    refine wp_loop_fuel (f68.l30 k x0 x1) (fun (v50 : Int) => [(0, .val sh16 x0), (1, .val sh16 x1), (5, .val (.int .i64) v50)]) (fun v h => by rw [f68.l30] at h; cases h) ?_ hF (h.arrive (fz := []) (l := [0, 1, 5]) (.inr fun i h => h) (by kernel_rfl))
    intro m30 v50 a w hF h
    rw [f68.l30] at hF
    refine wp_seq ?_
    refine wp_reg_seq tok (orc := orcL []) (fz := []) (l := [0, 1, 5, 14]) (c := _) (.inr fun i h => h) h (by kernel_rfl) (AllP.nil) ?_
    intro a w h
    refine wp_if h (b := (decide ((v50 : Int) < (List.length x0 : Int)))) (by kernel_rfl) (fun hb => ?_) (fun hb => ?_)
    · replace hF := of_t hb hF
      refine wp_skip ?_
      refine wp_seq <| wp_block ?_
      obtain ⟨hc56, hF⟩ := of_if hF
      obtain ⟨hc57, hF⟩ := of_if hF
      obtain ⟨r55, hr58, hF⟩ := of_bind hF
      refine wp_regy_seq tok (orc := orcL [(25, [⟨.bool, r55⟩])]) (fz := []) (l := [0, 1, 5, 26]) (c := _) ([], [], [], []) 10 (.inr fun i h => h) h (by kernel_rfl) (by kernel_rfl) (AllP.cons hc56 (AllP.cons hc57 (AllP.cons (c111 k (List.getD x0 (Int.toNat v50) ((0 : Int), ((0 : Int), ((0 : Int), ((0 : Int), ((0 : Int), (⟨#[]⟩ : ByteArray))))))) (List.getD x1 (Int.toNat v50) ((0 : Int), ((0 : Int), ((0 : Int), ((0 : Int), ((0 : Int), (⟨#[]⟩ : ByteArray))))))) r55 hr58) AllP.nil))) ?_
      intro a w h
      refine wp_if h (b := (!r55)) (by kernel_rfl) (fun hb => ?_) (fun hb => ?_)
      · replace hF := of_t hb hF
        refine wp_reg_seq tok (orc := orcL []) (fz := []) (l := [4]) (c := _) (.inr fun i h => h) h (by kernel_rfl) (AllP.nil) ?_
        intro a w h
        cases hF
        exact wp_ret (ret_okR tok h rfl (by kernel_rfl)).1
      · replace hF := of_f hb hF
        refine wp_skip ?_
        refine wp_reg tok (orc := orcL []) (fz := []) (l := [0, 1, 5]) (c := _) (.inr fun i h => h) h (by kernel_rfl) (AllP.nil) ?_
        intro a w h
        exact ⟨(IntKind.i64.wrap (v50 + (1 : Int))), hF, h.arrive (fz := []) (l := [0, 1, 5]) (.inr fun i h => h) (by kernel_rfl)⟩
    · replace hF := of_f hb hF
      refine wp_exit ?_
      refine wp_reg_seq tok (orc := orcL []) (fz := []) (l := [4]) (c := _) (.inr fun i h => h) h (by kernel_rfl) (AllP.nil) ?_
      intro a w h
      cases hF
      exact wp_ret (ret_okR tok h rfl (by kernel_rfl)).1

def f112 (k : Nat) (x0 : (Int × Int)) (x1 : (Int × Int)) : Option Bool := if ((x0.1 : Int) != x1.1) then (some false) else (if ((x0.2 : Int) != x1.2) then (some false) else (some true))
set_option maxRecDepth 100000 in
/-- 'laws.eqBan'. -/
theorem c112 (k : Nat) (x0 : (Int × Int)) (x1 : (Int × Int)) (r : Bool) (hF : f112 k x0 x1 = some r) : PCall Try.prog 112 [⟨sh5, x0⟩, ⟨sh5, x1⟩] [⟨.bool, r⟩] := by
  refine pcall_intro Try.func112 rfl rfl (Nat.le_of_ble_eq_true rfl) ?_
  intro w0 Zi a w h
  rw [f112] at hF
  refine wp_reg_seq tok (orc := orcL []) (fz := []) (l := [2, 3]) (c := _) (.inr fun i h => h) h (by kernel_rfl) (AllP.nil) ?_
  intro a w h
  refine wp_seq ?_
  refine wp_reg_seq tok (orc := orcL []) (fz := []) (l := [2, 3, 9]) (c := _) (.inr fun i h => h) h (by kernel_rfl) (AllP.nil) ?_
  intro a w h
  refine wp_if h (b := ((x0.1 : Int) != x1.1)) (by kernel_rfl) (fun hb => ?_) (fun hb => ?_)
  · replace hF := of_t hb hF
    refine wp_reg_seq tok (orc := orcL []) (fz := []) (l := [4]) (c := _) (.inr fun i h => h) h (by kernel_rfl) (AllP.nil) ?_
    intro a w h
    cases hF
    exact wp_ret (ret_okR tok h rfl (by kernel_rfl)).1
  · replace hF := of_f hb hF
    refine wp_skip ?_
    refine wp_seq ?_
    refine wp_reg_seq tok (orc := orcL []) (fz := []) (l := [14]) (c := _) (.inr fun i h => h) h (by kernel_rfl) (AllP.nil) ?_
    intro a w h
    refine wp_if h (b := ((x0.2 : Int) != x1.2)) (by kernel_rfl) (fun hb => ?_) (fun hb => ?_)
    · replace hF := of_t hb hF
      refine wp_reg_seq tok (orc := orcL []) (fz := []) (l := [4]) (c := _) (.inr fun i h => h) h (by kernel_rfl) (AllP.nil) ?_
      intro a w h
      cases hF
      exact wp_ret (ret_okR tok h rfl (by kernel_rfl)).1
    · replace hF := of_f hb hF
      refine wp_skip ?_
      refine wp_reg_seq tok (orc := orcL []) (fz := []) (l := [4]) (c := _) (.inr fun i h => h) h (by kernel_rfl) (AllP.nil) ?_
      intro a w h
      cases hF
      exact wp_ret (ret_okR tok h rfl (by kernel_rfl)).1

def f69.l30 (k : Nat) (x0 : (List (Int × Int))) (x1 : (List (Int × Int))) : Nat → Int → Option Bool
  | 0, _ => none
  | m30 + 1, v50 => if (decide ((v50 : Int) < (List.length x0 : Int))) then (if (0 ≤ v50 ∧ v50 < (List.length x0 : Int)) then (if (0 ≤ v50 ∧ v50 < (List.length x1 : Int)) then ((f112 k (List.getD x0 (Int.toNat v50) ((0 : Int), (0 : Int))) (List.getD x1 (Int.toNat v50) ((0 : Int), (0 : Int)))).bind fun r55 => (if (!r55) then (some false) else ((f69.l30 k x0 x1) m30 (IntKind.i64.wrap (v50 + (1 : Int)))))) else none) else none) else (some true)
def f69 (k : Nat) (x0 : (List (Int × Int))) (x1 : (List (Int × Int))) : Option Bool := if (((List.length x0 : Int) : Int) != (List.length x1 : Int)) then (some false) else (f69.l30 k x0 x1 k (0 : Int))
set_option maxRecDepth 100000 in
/-- 'laws.eqBanS'. -/
theorem c69 (k : Nat) (x0 : (List (Int × Int))) (x1 : (List (Int × Int))) (r : Bool) (hF : f69 k x0 x1 = some r) : PCall Try.prog 69 [⟨sh17, x0⟩, ⟨sh17, x1⟩] [⟨.bool, r⟩] := by
  refine pcall_intro Try.func69 rfl rfl (Nat.le_of_ble_eq_true rfl) ?_
  intro w0 Zi a w h
  rw [f69] at hF
  refine wp_reg_seq tok (orc := orcL []) (fz := []) (l := [0, 1]) (c := _) (.inr fun i h => h) h (by kernel_rfl) (AllP.nil) ?_
  intro a w h
  refine wp_seq ?_
  refine wp_reg_seq tok (orc := orcL []) (fz := []) (l := [0, 1, 10]) (c := _) (.inr fun i h => h) h (by kernel_rfl) (AllP.nil) ?_
  intro a w h
  refine wp_if h (b := (((List.length x0 : Int) : Int) != (List.length x1 : Int))) (by kernel_rfl) (fun hb => ?_) (fun hb => ?_)
  · replace hF := of_t hb hF
    refine wp_reg_seq tok (orc := orcL []) (fz := []) (l := [4]) (c := _) (.inr fun i h => h) h (by kernel_rfl) (AllP.nil) ?_
    intro a w h
    cases hF
    exact wp_ret (ret_okR tok h rfl (by kernel_rfl)).1
  · replace hF := of_f hb hF
    refine wp_skip ?_
    refine wp_seq ?_
    refine wp_reg_seq tok (orc := orcL []) (fz := []) (l := [0, 1, 5]) (c := _) (.inr fun i h => h) h (by kernel_rfl) (AllP.nil) ?_
    intro a w h
    refine wp_block ?_
    refine wp_loop_fuel (f69.l30 k x0 x1) (fun (v50 : Int) => [(0, .val sh17 x0), (1, .val sh17 x1), (5, .val (.int .i64) v50)]) (fun v h => by rw [f69.l30] at h; cases h) ?_ hF (h.arrive (fz := []) (l := [0, 1, 5]) (.inr fun i h => h) (by kernel_rfl))
    intro m30 v50 a w hF h
    rw [f69.l30] at hF
    refine wp_seq ?_
    refine wp_reg_seq tok (orc := orcL []) (fz := []) (l := [0, 1, 5, 14]) (c := _) (.inr fun i h => h) h (by kernel_rfl) (AllP.nil) ?_
    intro a w h
    refine wp_if h (b := (decide ((v50 : Int) < (List.length x0 : Int)))) (by kernel_rfl) (fun hb => ?_) (fun hb => ?_)
    · replace hF := of_t hb hF
      refine wp_skip ?_
      refine wp_seq <| wp_block ?_
      obtain ⟨hc56, hF⟩ := of_if hF
      obtain ⟨hc57, hF⟩ := of_if hF
      obtain ⟨r55, hr58, hF⟩ := of_bind hF
      refine wp_regy_seq tok (orc := orcL [(25, [⟨.bool, r55⟩])]) (fz := []) (l := [0, 1, 5, 26]) (c := _) ([], [], [], []) 10 (.inr fun i h => h) h (by kernel_rfl) (by kernel_rfl) (AllP.cons hc56 (AllP.cons hc57 (AllP.cons (c112 k (List.getD x0 (Int.toNat v50) ((0 : Int), (0 : Int))) (List.getD x1 (Int.toNat v50) ((0 : Int), (0 : Int))) r55 hr58) AllP.nil))) ?_
      intro a w h
      refine wp_if h (b := (!r55)) (by kernel_rfl) (fun hb => ?_) (fun hb => ?_)
      · replace hF := of_t hb hF
        refine wp_reg_seq tok (orc := orcL []) (fz := []) (l := [4]) (c := _) (.inr fun i h => h) h (by kernel_rfl) (AllP.nil) ?_
        intro a w h
        cases hF
        exact wp_ret (ret_okR tok h rfl (by kernel_rfl)).1
      · replace hF := of_f hb hF
        refine wp_skip ?_
        refine wp_reg tok (orc := orcL []) (fz := []) (l := [0, 1, 5]) (c := _) (.inr fun i h => h) h (by kernel_rfl) (AllP.nil) ?_
        intro a w h
        exact ⟨(IntKind.i64.wrap (v50 + (1 : Int))), hF, h.arrive (fz := []) (l := [0, 1, 5]) (.inr fun i h => h) (by kernel_rfl)⟩
    · replace hF := of_f hb hF
      refine wp_exit ?_
      refine wp_reg_seq tok (orc := orcL []) (fz := []) (l := [4]) (c := _) (.inr fun i h => h) h (by kernel_rfl) (AllP.nil) ?_
      intro a w h
      cases hF
      exact wp_ret (ret_okR tok h rfl (by kernel_rfl)).1

def f20 (k : Nat) (x0 : ((List (Int × (Int × Int))) × ((List (Int × (Int × (Int × (Int × (Int × ByteArray)))))) × (List (Int × Int))))) (x1 : ((List (Int × (Int × Int))) × ((List (Int × (Int × (Int × (Int × (Int × ByteArray)))))) × (List (Int × Int))))) : Option Bool := (f67 k x0.1 x1.1).bind fun r1 => (if (!r1) then (some false) else ((f68 k x0.2.1 x1.2.1).bind fun r2 => (if (!r2) then (some false) else ((f69 k x0.2.2 x1.2.2).bind fun r3 => (if (!r3) then (some false) else (some true))))))
set_option maxRecDepth 100000 in
/-- 'laws.eqGraph'. -/
theorem c20 (k : Nat) (x0 : ((List (Int × (Int × Int))) × ((List (Int × (Int × (Int × (Int × (Int × ByteArray)))))) × (List (Int × Int))))) (x1 : ((List (Int × (Int × Int))) × ((List (Int × (Int × (Int × (Int × (Int × ByteArray)))))) × (List (Int × Int))))) (r : Bool) (hF : f20 k x0 x1 = some r) : PCall Try.prog 20 [⟨sh12, x0⟩, ⟨sh12, x1⟩] [⟨.bool, r⟩] := by
  refine pcall_intro Try.func20 rfl rfl (Nat.le_of_ble_eq_true rfl) ?_
  intro w0 Zi a w h
  rw [f20] at hF
  refine wp_reg_seq tok (orc := orcL []) (fz := []) (l := [2, 3]) (c := _) (.inr fun i h => h) h (by kernel_rfl) (AllP.nil) ?_
  intro a w h
  refine wp_seq ?_
  obtain ⟨r1, hr6, hF⟩ := of_bind hF
  refine wp_reg_seq tok (orc := orcL [(9, [⟨.bool, r1⟩])]) (fz := []) (l := [2, 3, 10]) (c := _) (.inr fun i h => h) h (by kernel_rfl) (AllP.cons (c67 k x0.1 x1.1 r1 hr6) AllP.nil) ?_
  intro a w h
  refine wp_if h (b := (!r1)) (by kernel_rfl) (fun hb => ?_) (fun hb => ?_)
  · replace hF := of_t hb hF
    refine wp_reg_seq tok (orc := orcL []) (fz := []) (l := [4]) (c := _) (.inr fun i h => h) h (by kernel_rfl) (AllP.nil) ?_
    intro a w h
    cases hF
    exact wp_ret (ret_okR tok h rfl (by kernel_rfl)).1
  · replace hF := of_f hb hF
    refine wp_skip ?_
    refine wp_seq ?_
    obtain ⟨r2, hr5, hF⟩ := of_bind hF
    refine wp_reg_seq tok (orc := orcL [(15, [⟨.bool, r2⟩])]) (fz := []) (l := [2, 3, 16]) (c := _) (.inr fun i h => h) h (by kernel_rfl) (AllP.cons (c68 k x0.2.1 x1.2.1 r2 hr5) AllP.nil) ?_
    intro a w h
    refine wp_if h (b := (!r2)) (by kernel_rfl) (fun hb => ?_) (fun hb => ?_)
    · replace hF := of_t hb hF
      refine wp_reg_seq tok (orc := orcL []) (fz := []) (l := [4]) (c := _) (.inr fun i h => h) h (by kernel_rfl) (AllP.nil) ?_
      intro a w h
      cases hF
      exact wp_ret (ret_okR tok h rfl (by kernel_rfl)).1
    · replace hF := of_f hb hF
      refine wp_skip ?_
      refine wp_seq ?_
      obtain ⟨r3, hr4, hF⟩ := of_bind hF
      refine wp_reg_seq tok (orc := orcL [(21, [⟨.bool, r3⟩])]) (fz := []) (l := [22]) (c := _) (.inr fun i h => h) h (by kernel_rfl) (AllP.cons (c69 k x0.2.2 x1.2.2 r3 hr4) AllP.nil) ?_
      intro a w h
      refine wp_if h (b := (!r3)) (by kernel_rfl) (fun hb => ?_) (fun hb => ?_)
      · replace hF := of_t hb hF
        refine wp_reg_seq tok (orc := orcL []) (fz := []) (l := [4]) (c := _) (.inr fun i h => h) h (by kernel_rfl) (AllP.nil) ?_
        intro a w h
        cases hF
        exact wp_ret (ret_okR tok h rfl (by kernel_rfl)).1
      · replace hF := of_f hb hF
        refine wp_skip ?_
        refine wp_reg_seq tok (orc := orcL []) (fz := []) (l := [4]) (c := _) (.inr fun i h => h) h (by kernel_rfl) (AllP.nil) ?_
        intro a w h
        cases hF
        exact wp_ret (ret_okR tok h rfl (by kernel_rfl)).1

def f21.l18 (k : Nat) (x0 : (List Int)) (x1 : (List Int)) : Nat → Int → Option Bool
  | 0, _ => none
  | m18 + 1, v30 => if (decide ((v30 : Int) < (List.length x0 : Int))) then (if (0 ≤ v30 ∧ v30 < (List.length x0 : Int)) then (if (0 ≤ v30 ∧ v30 < (List.length x1 : Int)) then (if (((List.getD x0 (Int.toNat v30) (0 : Int)) : Int) != (List.getD x1 (Int.toNat v30) (0 : Int))) then (some false) else ((f21.l18 k x0 x1) m18 (IntKind.i64.wrap (v30 + (1 : Int))))) else none) else none) else (some true)
def f21 (k : Nat) (x0 : (List Int)) (x1 : (List Int)) : Option Bool := if (((List.length x0 : Int) : Int) != (List.length x1 : Int)) then (some false) else (f21.l18 k x0 x1 k (0 : Int))
set_option maxRecDepth 100000 in
/-- 'laws.eqInt64S'. -/
theorem c21 (k : Nat) (x0 : (List Int)) (x1 : (List Int)) (r : Bool) (hF : f21 k x0 x1 = some r) : PCall Try.prog 21 [⟨(.sl false 2 (.int .i64)), x0⟩, ⟨(.sl false 2 (.int .i64)), x1⟩] [⟨.bool, r⟩] := by
  refine pcall_intro Try.func21 rfl rfl (Nat.le_of_ble_eq_true rfl) ?_
  intro w0 Zi a w h
  rw [f21] at hF
  refine wp_reg_seq tok (orc := orcL []) (fz := []) (l := [0, 1]) (c := _) (.inr fun i h => h) h (by kernel_rfl) (AllP.nil) ?_
  intro a w h
  refine wp_seq ?_
  refine wp_reg_seq tok (orc := orcL []) (fz := []) (l := [0, 1, 10]) (c := _) (.inr fun i h => h) h (by kernel_rfl) (AllP.nil) ?_
  intro a w h
  refine wp_if h (b := (((List.length x0 : Int) : Int) != (List.length x1 : Int))) (by kernel_rfl) (fun hb => ?_) (fun hb => ?_)
  · replace hF := of_t hb hF
    refine wp_reg_seq tok (orc := orcL []) (fz := []) (l := [4]) (c := _) (.inr fun i h => h) h (by kernel_rfl) (AllP.nil) ?_
    intro a w h
    cases hF
    exact wp_ret (ret_okR tok h rfl (by kernel_rfl)).1
  · replace hF := of_f hb hF
    refine wp_skip ?_
    refine wp_seq ?_
    refine wp_reg_seq tok (orc := orcL []) (fz := []) (l := [0, 1, 5]) (c := _) (.inr fun i h => h) h (by kernel_rfl) (AllP.nil) ?_
    intro a w h
    refine wp_block ?_
    refine wp_loop_fuel (f21.l18 k x0 x1) (fun (v30 : Int) => [(0, .val (.sl false 2 (.int .i64)) x0), (1, .val (.sl false 2 (.int .i64)) x1), (5, .val (.int .i64) v30)]) (fun v h => by rw [f21.l18] at h; cases h) ?_ hF (h.arrive (fz := []) (l := [0, 1, 5]) (.inr fun i h => h) (by kernel_rfl))
    intro m18 v30 a w hF h
    rw [f21.l18] at hF
    refine wp_seq ?_
    refine wp_reg_seq tok (orc := orcL []) (fz := []) (l := [0, 1, 5, 14]) (c := _) (.inr fun i h => h) h (by kernel_rfl) (AllP.nil) ?_
    intro a w h
    refine wp_if h (b := (decide ((v30 : Int) < (List.length x0 : Int)))) (by kernel_rfl) (fun hb => ?_) (fun hb => ?_)
    · replace hF := of_t hb hF
      refine wp_skip ?_
      refine wp_seq <| wp_block ?_
      obtain ⟨hc33, hF⟩ := of_if hF
      obtain ⟨hc34, hF⟩ := of_if hF
      refine wp_regy_seq tok (orc := orcL []) (fz := []) (l := [0, 1, 5, 25]) (c := _) ([], [], [], []) 9 (.inr fun i h => h) h (by kernel_rfl) (by kernel_rfl) (AllP.cons hc33 (AllP.cons hc34 AllP.nil)) ?_
      intro a w h
      refine wp_if h (b := (((List.getD x0 (Int.toNat v30) (0 : Int)) : Int) != (List.getD x1 (Int.toNat v30) (0 : Int)))) (by kernel_rfl) (fun hb => ?_) (fun hb => ?_)
      · replace hF := of_t hb hF
        refine wp_reg_seq tok (orc := orcL []) (fz := []) (l := [4]) (c := _) (.inr fun i h => h) h (by kernel_rfl) (AllP.nil) ?_
        intro a w h
        cases hF
        exact wp_ret (ret_okR tok h rfl (by kernel_rfl)).1
      · replace hF := of_f hb hF
        refine wp_skip ?_
        refine wp_reg tok (orc := orcL []) (fz := []) (l := [0, 1, 5]) (c := _) (.inr fun i h => h) h (by kernel_rfl) (AllP.nil) ?_
        intro a w h
        exact ⟨(IntKind.i64.wrap (v30 + (1 : Int))), hF, h.arrive (fz := []) (l := [0, 1, 5]) (.inr fun i h => h) (by kernel_rfl)⟩
    · replace hF := of_f hb hF
      refine wp_exit ?_
      refine wp_reg_seq tok (orc := orcL []) (fz := []) (l := [4]) (c := _) (.inr fun i h => h) h (by kernel_rfl) (AllP.nil) ?_
      intro a w h
      cases hF
      exact wp_ret (ret_okR tok h rfl (by kernel_rfl)).1

def f10 (k : Nat) (x0 : ((List (Int × (Int × Int))) × ((List (Int × (Int × (Int × (Int × (Int × ByteArray)))))) × (List (Int × Int))))) (x1 : (List Int)) : Option Bool := if (decide (((List.length x1 : Int) : Int) > (1048576 : Int))) then (some true) else ((f15 k x0 (1048576 : Int)).bind fun r1 => (if (decide ((r1 : Int) < (0 : Int))) then (some true) else ((f17 k x0).bind fun r2 => ((f18 k x1).bind fun r3 => ((f38 k r2 r3).bind fun r4 => ((f17 k x0).bind fun r5 => ((f18 k x1).bind fun r6 => ((f39 k r5 r6).bind fun r7 => (if ((r7 : Int) != r4) then (some false) else ((f17 k x0).bind fun r8 => ((f20 k r5 r8).bind fun r9 => (if (!r9) then (some false) else ((f18 k x1).bind fun r10 => ((f21 k r6 r10).bind fun r11 => (if (!r11) then (some false) else (some true))))))))))))))))
set_option maxRecDepth 100000 in
/-- 'laws.FnExactCenter'. -/
theorem c10 (k : Nat) (x0 : ((List (Int × (Int × Int))) × ((List (Int × (Int × (Int × (Int × (Int × ByteArray)))))) × (List (Int × Int))))) (x1 : (List Int)) (r : Bool) (hF : f10 k x0 x1 = some r) : PCall Try.prog 10 [⟨sh4, x0⟩, ⟨(.sl false 2 (.int .i64)), x1⟩] [⟨.bool, r⟩] := by
  refine pcall_intro Try.func10 rfl rfl (Nat.le_of_ble_eq_true rfl) ?_
  intro w0 Zi a w h
  rw [f10] at hF
  refine wp_reg_seq tok (orc := orcL []) (fz := []) (l := [1, 2]) (c := _) (.inr fun i h => h) h (by kernel_rfl) (AllP.nil) ?_
  intro a w h
  refine wp_seq ?_
  refine wp_reg_seq tok (orc := orcL []) (fz := []) (l := [1, 2, 12]) (c := _) (.inr fun i h => h) h (by kernel_rfl) (AllP.nil) ?_
  intro a w h
  refine wp_if h (b := (decide (((List.length x1 : Int) : Int) > (1048576 : Int)))) (by kernel_rfl) (fun hb => ?_) (fun hb => ?_)
  · replace hF := of_t hb hF
    refine wp_reg_seq tok (orc := orcL []) (fz := []) (l := [4]) (c := _) (.inr fun i h => h) h (by kernel_rfl) (AllP.nil) ?_
    intro a w h
    cases hF
    exact wp_ret (ret_okR tok h rfl (by kernel_rfl)).1
  · replace hF := of_f hb hF
    refine wp_skip ?_
    refine wp_reg_seq tok (orc := orcL []) (fz := []) (l := [1, 2, 5]) (c := _) (.inr fun i h => h) h (by kernel_rfl) (AllP.nil) ?_
    intro a w h
    obtain ⟨r1, hr22, hF⟩ := of_bind hF
    refine wp_reg_seq tok (orc := orcL [(15, [⟨(.int .i64), r1⟩])]) (fz := []) (l := [1, 2, 5]) (c := _) (.inr fun i h => h) h (by kernel_rfl) (AllP.cons (c15 k x0 (1048576 : Int) r1 hr22) AllP.nil) ?_
    intro a w h
    refine wp_seq ?_
    refine wp_reg_seq tok (orc := orcL []) (fz := []) (l := [1, 2, 17]) (c := _) (.inr fun i h => h) h (by kernel_rfl) (AllP.nil) ?_
    intro a w h
    refine wp_if h (b := (decide ((r1 : Int) < (0 : Int)))) (by kernel_rfl) (fun hb => ?_) (fun hb => ?_)
    · replace hF := of_t hb hF
      refine wp_reg_seq tok (orc := orcL []) (fz := []) (l := [4]) (c := _) (.inr fun i h => h) h (by kernel_rfl) (AllP.nil) ?_
      intro a w h
      cases hF
      exact wp_ret (ret_okR tok h rfl (by kernel_rfl)).1
    · replace hF := of_f hb hF
      refine wp_skip ?_
      obtain ⟨r2, hr19, hF⟩ := of_bind hF
      obtain ⟨r3, hr20, hF⟩ := of_bind hF
      obtain ⟨r4, hr21, hF⟩ := of_bind hF
      refine wp_reg_seq tok (orc := orcL [(19, [⟨sh10, r2⟩]), (21, [⟨(.sl true 2 (.int .i64)), r3⟩]), (22, [⟨(.int .i64), r4⟩])]) (fz := []) (l := [1, 2, 6]) (c := _) (.inr fun i h => h) h (by kernel_rfl) (AllP.cons (c17 k x0 r2 hr19) (AllP.cons (c18 k x1 r3 hr20) (AllP.cons (c38 k r2 r3 r4 hr21) AllP.nil))) ?_
      intro a w h
      obtain ⟨r5, hr18, hF⟩ := of_bind hF
      refine wp_reg_seq tok (orc := orcL [(24, [⟨sh10, r5⟩])]) (fz := []) (l := [1, 2, 6, 7]) (c := _) (.inr fun i h => h) h (by kernel_rfl) (AllP.cons (c17 k x0 r5 hr18) AllP.nil) ?_
      intro a w h
      obtain ⟨r6, hr17, hF⟩ := of_bind hF
      refine wp_reg_seq tok (orc := orcL [(26, [⟨(.sl true 2 (.int .i64)), r6⟩])]) (fz := []) (l := [1, 2, 6, 7, 8]) (c := _) (.inr fun i h => h) h (by kernel_rfl) (AllP.cons (c18 k x1 r6 hr17) AllP.nil) ?_
      intro a w h
      obtain ⟨r7, hr16, hF⟩ := of_bind hF
      refine wp_reg_seq tok (orc := orcL [(29, [⟨(.int .i64), r7⟩])]) (fz := []) (l := [1, 2, 6, 7, 8, 9]) (c := _) (.inr fun i h => h) h (by kernel_rfl) (AllP.cons (c39 k r5 r6 r7 hr16) AllP.nil) ?_
      intro a w h
      refine wp_seq ?_
      refine wp_reg_seq tok (orc := orcL []) (fz := []) (l := [1, 2, 7, 8, 32]) (c := _) (.inr fun i h => h) h (by kernel_rfl) (AllP.nil) ?_
      intro a w h
      refine wp_if h (b := ((r7 : Int) != r4)) (by kernel_rfl) (fun hb => ?_) (fun hb => ?_)
      · replace hF := of_t hb hF
        refine wp_reg_seq tok (orc := orcL []) (fz := []) (l := [4]) (c := _) (.inr fun i h => h) h (by kernel_rfl) (AllP.nil) ?_
        intro a w h
        cases hF
        exact wp_ret (ret_okR tok h rfl (by kernel_rfl)).1
      · replace hF := of_f hb hF
        refine wp_skip ?_
        refine wp_seq ?_
        obtain ⟨r8, hr14, hF⟩ := of_bind hF
        obtain ⟨r9, hr15, hF⟩ := of_bind hF
        refine wp_regy_seq tok (orc := orcL [(35, [⟨sh10, r8⟩]), (36, [⟨.bool, r9⟩])]) (fz := []) (l := [1, 8, 37]) (c := _) ([], [], [], []) 5 (.inr fun i h => h) h (by kernel_rfl) (by kernel_rfl) (AllP.cons (c17 k x0 r8 hr14) (AllP.cons (c20 k r5 r8 r9 hr15) AllP.nil)) ?_
        intro a w h
        refine wp_if h (b := (!r9)) (by kernel_rfl) (fun hb => ?_) (fun hb => ?_)
        · replace hF := of_t hb hF
          refine wp_reg_seq tok (orc := orcL []) (fz := []) (l := [4]) (c := _) (.inr fun i h => h) h (by kernel_rfl) (AllP.nil) ?_
          intro a w h
          cases hF
          exact wp_ret (ret_okR tok h rfl (by kernel_rfl)).1
        · replace hF := of_f hb hF
          refine wp_skip ?_
          refine wp_seq ?_
          obtain ⟨r10, hr12, hF⟩ := of_bind hF
          obtain ⟨r11, hr13, hF⟩ := of_bind hF
          refine wp_reg_seq tok (orc := orcL [(40, [⟨(.sl true 2 (.int .i64)), r10⟩]), (41, [⟨.bool, r11⟩])]) (fz := []) (l := [42]) (c := _) (.inr fun i h => h) h (by kernel_rfl) (AllP.cons (c18 k x1 r10 hr12) (AllP.cons (c21 k r6 r10 r11 hr13) AllP.nil)) ?_
          intro a w h
          refine wp_if h (b := (!r11)) (by kernel_rfl) (fun hb => ?_) (fun hb => ?_)
          · replace hF := of_t hb hF
            refine wp_reg_seq tok (orc := orcL []) (fz := []) (l := [4]) (c := _) (.inr fun i h => h) h (by kernel_rfl) (AllP.nil) ?_
            intro a w h
            cases hF
            exact wp_ret (ret_okR tok h rfl (by kernel_rfl)).1
          · replace hF := of_f hb hF
            refine wp_skip ?_
            refine wp_reg_seq tok (orc := orcL []) (fz := []) (l := [4]) (c := _) (.inr fun i h => h) h (by kernel_rfl) (AllP.nil) ?_
            intro a w h
            cases hF
            exact wp_ret (ret_okR tok h rfl (by kernel_rfl)).1
end Go.Proofs.Ytjfledckleeoaaa.V
