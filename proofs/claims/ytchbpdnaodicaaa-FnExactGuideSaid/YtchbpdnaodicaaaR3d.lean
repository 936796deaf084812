/-
  THE CONTRACTS OF SOME FUNCTIONS OF THIS SEAT, PRINTED BY A PROGRAM OF THIS PROJECT (wip/gen/vgen.py).
-/
import Derived.Test.YtchbpdnaodicaaaProg
import Derived.Test.YtchbpdnaodicaaaVmW
import Derived.Test.YtchbpdnaodicaaaVmZ
import Derived.KernelRfl
import Derived.Test.YtchbpdnaodicaaaR3dA
set_option linter.unusedVariables false
open Go Go.Vm Go.Proofs
namespace Go.Proofs.Ytchbpdnaodicaaa.V
def f81 (k : Nat) (x0 : (((List (Int × (Int × Int))) × ((List (Int × (Int × (Int × (Int × (Int × ByteArray)))))) × (List (Int × Int)))) × ((List (List Int)) × ((List (List Int)) × (Option (List ((Int × Int) × Bool))))))) (x1 : Int) : Option Bool := some (bif (decide ((x1 : Int) ≥ (0 : Int))) then (decide ((x1 : Int) < (List.length x0.1.2.1 : Int))) else false)
set_option maxRecDepth 100000 in
/-- 'impl.myNet).road'. -/
theorem c81 (k : Nat) (x0 : (((List (Int × (Int × Int))) × ((List (Int × (Int × (Int × (Int × (Int × ByteArray)))))) × (List (Int × Int)))) × ((List (List Int)) × ((List (List Int)) × (Option (List ((Int × Int) × Bool))))))) (x1 : Int) (r : Bool) (hF : f81 k x0 x1 = some r) : PCall Try.prog 81 [⟨sh23, some x0⟩, ⟨(.int .i64), x1⟩] [⟨.bool, r⟩] := by
  refine pcall_intro Try.func81 rfl rfl (Nat.le_of_ble_eq_true rfl) ?_
  intro w0 Zi a w h
  rw [f81] at hF
  refine wp_reg_seq tok (orc := orcL []) (fz := []) (l := [0, 1]) (c := _) (.inr fun i h => h) h (by kernel_rfl) (AllP.nil) ?_
  intro a w h
  refine wp_reg_seq tok (orc := orcL []) (fz := []) (l := [4]) (c := _) (.inr fun i h => h) h (by kernel_rfl) (AllP.nil) ?_
  intro a w h
  cases hF
  exact wp_ret (ret_okR tok h rfl (by kernel_rfl)).1

def f268 (k : Nat) (x0 : Int) : Option Int := if (decide ((x0 : Int) < (0 : Int))) then (some (IntKind.i64.wrap (0 - x0))) else (some x0)
set_option maxRecDepth 100000 in
/-- 'impl.abs'. -/
theorem c268 (k : Nat) (x0 : Int) (r : Int) (hF : f268 k x0 = some r) : PCall Try.prog 268 [⟨(.int .i64), x0⟩] [⟨(.int .i64), r⟩] := by
  refine pcall_intro Try.func268 rfl rfl (Nat.le_of_ble_eq_true rfl) ?_
  intro w0 Zi a w h
  rw [f268] at hF
  refine wp_reg_seq tok (orc := orcL []) (fz := []) (l := [0]) (c := _) (.inr fun i h => h) h (by kernel_rfl) (AllP.nil) ?_
  intro a w h
  refine wp_seq ?_
  refine wp_reg_seq tok (orc := orcL []) (fz := []) (l := [0, 4]) (c := _) (.inr fun i h => h) h (by kernel_rfl) (AllP.nil) ?_
  intro a w h
  refine wp_if h (b := (decide ((x0 : Int) < (0 : Int)))) (by kernel_rfl) (fun hb => ?_) (fun hb => ?_)
  · replace hF := of_t hb hF
    refine wp_reg_seq tok (orc := orcL []) (fz := []) (l := [2]) (c := _) (.inr fun i h => h) h (by kernel_rfl) (AllP.nil) ?_
    intro a w h
    cases hF
    exact wp_ret (ret_okR tok h rfl (by kernel_rfl)).1
  · replace hF := of_f hb hF
    refine wp_skip ?_
    refine wp_reg_seq tok (orc := orcL []) (fz := []) (l := [2]) (c := _) (.inr fun i h => h) h (by kernel_rfl) (AllP.nil) ?_
    intro a w h
    cases hF
    exact wp_ret (ret_okR tok h rfl (by kernel_rfl)).1

def f251 (k : Nat) (x0 : (Int × Int)) (x1 : (Int × Int)) : Option Int := (if ((Sh.beq sh5 x0 x1) = false) then f169 k x0 else some default).bind fun r1 => ((if ((bif (Sh.beq sh5 x0 x1) then true else (!r1)) = false) then f169 k x1 else some default).bind fun r2 => (if (bif (bif (Sh.beq sh5 x0 x1) then true else (!r1)) then true else (!r2)) then (some (-1 : Int)) else ((f268 k (IntKind.i64.wrap (x1.1 - x0.1))).bind fun r3 => ((f268 k (IntKind.i64.wrap (x1.2 - x0.2))).bind fun r4 => ((f268 k (IntKind.i64.wrap (x1.1 - x0.1))).bind fun r5 => ((f268 k (IntKind.i64.wrap (x1.2 - x0.2))).bind fun r6 => (if (decide (((IntKind.i64.wrap ((5 : Int) * (if (r6 : Int) < r5 then r6 else r5))) : Int) < (IntKind.i64.wrap ((2 : Int) * (if (r4 : Int) > r3 then r4 else r3))))) then ((f268 k (IntKind.i64.wrap (x1.1 - x0.1))).bind fun r31 => ((f268 k (IntKind.i64.wrap (x1.2 - x0.2))).bind fun r32 => (if (bif (decide ((r31 : Int) > r32)) then (decide (((IntKind.i64.wrap (x1.1 - x0.1)) : Int) > (0 : Int))) else false) then (some (0 : Int)) else ((f268 k (IntKind.i64.wrap (x1.1 - x0.1))).bind fun r33 => ((f268 k (IntKind.i64.wrap (x1.2 - x0.2))).bind fun r34 => (if (decide ((r33 : Int) > r34)) then (some (4 : Int)) else (if (decide (((IntKind.i64.wrap (x1.2 - x0.2)) : Int) > (0 : Int))) then (some (2 : Int)) else (some (6 : Int))))))))) else (if (bif (decide (((IntKind.i64.wrap (x1.1 - x0.1)) : Int) > (0 : Int))) then (decide (((IntKind.i64.wrap (x1.2 - x0.2)) : Int) > (0 : Int))) else false) then (some (1 : Int)) else (if (bif (decide (((IntKind.i64.wrap (x1.1 - x0.1)) : Int) < (0 : Int))) then (decide (((IntKind.i64.wrap (x1.2 - x0.2)) : Int) > (0 : Int))) else false) then (some (3 : Int)) else (if (bif (decide (((IntKind.i64.wrap (x1.1 - x0.1)) : Int) < (0 : Int))) then (decide (((IntKind.i64.wrap (x1.2 - x0.2)) : Int) < (0 : Int))) else false) then (some (5 : Int)) else (some (7 : Int))))))))))))
set_option maxRecDepth 100000 in
/-- 'impl.Heading'. -/
theorem c251 (k : Nat) (x0 : (Int × Int)) (x1 : (Int × Int)) (r : Int) (hF : f251 k x0 x1 = some r) : PCall Try.prog 251 [⟨sh5, x0⟩, ⟨sh5, x1⟩] [⟨(.int .i64), r⟩] := by
  refine pcall_intro Try.func251 rfl rfl (Nat.le_of_ble_eq_true rfl) ?_
  intro w0 Zi a w h
  rw [f251] at hF
  refine wp_reg_seq tok (orc := orcL []) (fz := []) (l := [2, 3]) (c := _) (.inr fun i h => h) h (by kernel_rfl) (AllP.nil) ?_
  intro a w h
  refine wp_seq ?_
  obtain ⟨r1, hr43, hF⟩ := of_bind hF
  obtain ⟨r2, hr44, hF⟩ := of_bind hF
  refine wp_reg_seq tok (orc := orcL [(14, [⟨.bool, r1⟩]), (19, [⟨.bool, r2⟩])]) (fz := []) (l := [2, 3, 21]) (c := _) (.inr fun i h => h) h (by kernel_rfl) (AllP.cons (And.intro (show eqTy Try.prog 9 174 (.st (.pair (.int .i64) (.int .i64))) = true from by kernel_rfl) (show Try.prog.eqGuardType Try.prog.depth 174 = false from by kernel_rfl)) (AllP.cons (fun (hg : ((Sh.beq sh5 x0 x1) = false)) => c169 k x0 r1 (of_g hg hr43)) (AllP.cons (fun (hg : ((bif (Sh.beq sh5 x0 x1) then true else (!r1)) = false)) => c169 k x1 r2 (of_g hg hr44)) AllP.nil))) ?_
  intro a w h
  refine wp_if h (b := (bif (bif (Sh.beq sh5 x0 x1) then true else (!r1)) then true else (!r2))) (by kernel_rfl) (fun hb => ?_) (fun hb => ?_)
  · replace hF := of_t hb hF
    refine wp_reg_seq tok (orc := orcL []) (fz := []) (l := [4]) (c := _) (.inr fun i h => h) h (by kernel_rfl) (AllP.nil) ?_
    intro a w h
    cases hF
    exact wp_ret (ret_okR tok h rfl (by kernel_rfl)).1
  · replace hF := of_f hb hF
    refine wp_skip ?_
    refine wp_regy_seq tok (orc := orcL []) (fz := []) (l := [5, 6]) (c := _) ([], [], [], []) 12 (.inr fun i h => h) h (by kernel_rfl) (by kernel_rfl) (AllP.nil) ?_
    intro a w h
    obtain ⟨r3, hr39, hF⟩ := of_bind hF
    obtain ⟨r4, hr40, hF⟩ := of_bind hF
    obtain ⟨r5, hr41, hF⟩ := of_bind hF
    obtain ⟨r6, hr42, hF⟩ := of_bind hF
    refine wp_reg_seq tok (orc := orcL [(33, [⟨(.int .i64), r3⟩]), (35, [⟨(.int .i64), r4⟩]), (38, [⟨(.int .i64), r5⟩]), (40, [⟨(.int .i64), r6⟩])]) (fz := []) (l := [5, 6, 7, 8]) (c := _) (.inr fun i h => h) h (by kernel_rfl) (AllP.cons (c268 k (IntKind.i64.wrap (x1.1 - x0.1)) r3 hr39) (AllP.cons (c268 k (IntKind.i64.wrap (x1.2 - x0.2)) r4 hr40) (AllP.cons (c268 k (IntKind.i64.wrap (x1.1 - x0.1)) r5 hr41) (AllP.cons (c268 k (IntKind.i64.wrap (x1.2 - x0.2)) r6 hr42) AllP.nil)))) ?_
    intro a w h
    refine wp_seq ?_
    refine wp_reg_seq tok (orc := orcL []) (fz := []) (l := [5, 6, 46]) (c := _) (.inr fun i h => h) h (by kernel_rfl) (AllP.nil) ?_
    intro a w h
    refine wp_if h (b := (decide (((IntKind.i64.wrap ((5 : Int) * (if (r6 : Int) < r5 then r6 else r5))) : Int) < (IntKind.i64.wrap ((2 : Int) * (if (r4 : Int) > r3 then r4 else r3)))))) (by kernel_rfl) (fun hb => ?_) (fun hb => ?_)
    · replace hF := of_t hb hF
      refine wp_seq <| wp_block ?_
      obtain ⟨r31, hr37, hF⟩ := of_bind hF
      obtain ⟨r32, hr38, hF⟩ := of_bind hF
      refine wp_reg_seq tok (orc := orcL [(49, [⟨(.int .i64), r31⟩]), (51, [⟨(.int .i64), r32⟩])]) (fz := []) (l := [5, 6, 47]) (c := _) (.inr fun i h => h) h (by kernel_rfl) (AllP.cons (c268 k (IntKind.i64.wrap (x1.1 - x0.1)) r31 hr37) (AllP.cons (c268 k (IntKind.i64.wrap (x1.2 - x0.2)) r32 hr38) AllP.nil)) ?_
      intro a w h
      refine wp_if h (b := (bif (decide ((r31 : Int) > r32)) then (decide (((IntKind.i64.wrap (x1.1 - x0.1)) : Int) > (0 : Int))) else false)) (by kernel_rfl) (fun hb => ?_) (fun hb => ?_)
      · replace hF := of_t hb hF
        refine wp_reg_seq tok (orc := orcL []) (fz := []) (l := [4]) (c := _) (.inr fun i h => h) h (by kernel_rfl) (AllP.nil) ?_
        intro a w h
        cases hF
        exact wp_ret (ret_okR tok h rfl (by kernel_rfl)).1
      · replace hF := of_f hb hF
        obtain ⟨r33, hr35, hF⟩ := of_bind hF
        obtain ⟨r34, hr36, hF⟩ := of_bind hF
        refine wp_reg_seq tok (orc := orcL [(59, [⟨(.int .i64), r33⟩]), (61, [⟨(.int .i64), r34⟩])]) (fz := []) (l := [6, 57]) (c := _) (.inr fun i h => h) h (by kernel_rfl) (AllP.cons (c268 k (IntKind.i64.wrap (x1.1 - x0.1)) r33 hr35) (AllP.cons (c268 k (IntKind.i64.wrap (x1.2 - x0.2)) r34 hr36) AllP.nil)) ?_
        intro a w h
        refine wp_if h (b := (decide ((r33 : Int) > r34))) (by kernel_rfl) (fun hb => ?_) (fun hb => ?_)
        · replace hF := of_t hb hF
          refine wp_reg_seq tok (orc := orcL []) (fz := []) (l := [4]) (c := _) (.inr fun i h => h) h (by kernel_rfl) (AllP.nil) ?_
          intro a w h
          cases hF
          exact wp_ret (ret_okR tok h rfl (by kernel_rfl)).1
        · replace hF := of_f hb hF
          refine wp_reg_seq tok (orc := orcL []) (fz := []) (l := [63]) (c := _) (.inr fun i h => h) h (by kernel_rfl) (AllP.nil) ?_
          intro a w h
          refine wp_if h (b := (decide (((IntKind.i64.wrap (x1.2 - x0.2)) : Int) > (0 : Int)))) (by kernel_rfl) (fun hb => ?_) (fun hb => ?_)
          · replace hF := of_t hb hF
            refine wp_reg_seq tok (orc := orcL []) (fz := []) (l := [4]) (c := _) (.inr fun i h => h) h (by kernel_rfl) (AllP.nil) ?_
            intro a w h
            cases hF
            exact wp_ret (ret_okR tok h rfl (by kernel_rfl)).1
          · replace hF := of_f hb hF
            refine wp_skip ?_
            refine wp_reg_seq tok (orc := orcL []) (fz := []) (l := [4]) (c := _) (.inr fun i h => h) h (by kernel_rfl) (AllP.nil) ?_
            intro a w h
            cases hF
            exact wp_ret (ret_okR tok h rfl (by kernel_rfl)).1
    · replace hF := of_f hb hF
      refine wp_skip ?_
      refine wp_seq <| wp_block ?_
      refine wp_reg_seq tok (orc := orcL []) (fz := []) (l := [5, 6, 66]) (c := _) (.inr fun i h => h) h (by kernel_rfl) (AllP.nil) ?_
      intro a w h
      refine wp_if h (b := (bif (decide (((IntKind.i64.wrap (x1.1 - x0.1)) : Int) > (0 : Int))) then (decide (((IntKind.i64.wrap (x1.2 - x0.2)) : Int) > (0 : Int))) else false)) (by kernel_rfl) (fun hb => ?_) (fun hb => ?_)
      · replace hF := of_t hb hF
        refine wp_reg_seq tok (orc := orcL []) (fz := []) (l := [4]) (c := _) (.inr fun i h => h) h (by kernel_rfl) (AllP.nil) ?_
        intro a w h
        cases hF
        exact wp_ret (ret_okR tok h rfl (by kernel_rfl)).1
      · replace hF := of_f hb hF
        refine wp_reg_seq tok (orc := orcL []) (fz := []) (l := [5, 6, 73]) (c := _) (.inr fun i h => h) h (by kernel_rfl) (AllP.nil) ?_
        intro a w h
        refine wp_if h (b := (bif (decide (((IntKind.i64.wrap (x1.1 - x0.1)) : Int) < (0 : Int))) then (decide (((IntKind.i64.wrap (x1.2 - x0.2)) : Int) > (0 : Int))) else false)) (by kernel_rfl) (fun hb => ?_) (fun hb => ?_)
        · replace hF := of_t hb hF
          refine wp_reg_seq tok (orc := orcL []) (fz := []) (l := [4]) (c := _) (.inr fun i h => h) h (by kernel_rfl) (AllP.nil) ?_
          intro a w h
          cases hF
          exact wp_ret (ret_okR tok h rfl (by kernel_rfl)).1
        · replace hF := of_f hb hF
          refine wp_reg_seq tok (orc := orcL []) (fz := []) (l := [80]) (c := _) (.inr fun i h => h) h (by kernel_rfl) (AllP.nil) ?_
          intro a w h
          refine wp_if h (b := (bif (decide (((IntKind.i64.wrap (x1.1 - x0.1)) : Int) < (0 : Int))) then (decide (((IntKind.i64.wrap (x1.2 - x0.2)) : Int) < (0 : Int))) else false)) (by kernel_rfl) (fun hb => ?_) (fun hb => ?_)
          · replace hF := of_t hb hF
            refine wp_reg_seq tok (orc := orcL []) (fz := []) (l := [4]) (c := _) (.inr fun i h => h) h (by kernel_rfl) (AllP.nil) ?_
            intro a w h
            cases hF
            exact wp_ret (ret_okR tok h rfl (by kernel_rfl)).1
          · replace hF := of_f hb hF
            refine wp_skip ?_
            refine wp_reg_seq tok (orc := orcL []) (fz := []) (l := [4]) (c := _) (.inr fun i h => h) h (by kernel_rfl) (AllP.nil) ?_
            intro a w h
            cases hF
            exact wp_ret (ret_okR tok h rfl (by kernel_rfl)).1

def f221 (k : Nat) (x0 : (((List (Int × (Int × Int))) × ((List (Int × (Int × (Int × (Int × (Int × ByteArray)))))) × (List (Int × Int)))) × ((List (List Int)) × ((List (List Int)) × (Option (List ((Int × Int) × Bool))))))) (x1 : Int) (x2 : Int) : Option Int := if (0 ≤ x1 ∧ x1 < (List.length x0.1.2.1 : Int)) then (if (0 ≤ x2 ∧ x2 < (List.length x0.1.2.1 : Int)) then (if (0 ≤ (List.getD x0.1.2.1 (Int.toNat x1) ((0 : Int), ((0 : Int), ((0 : Int), ((0 : Int), ((0 : Int), (⟨#[]⟩ : ByteArray))))))).1 ∧ (List.getD x0.1.2.1 (Int.toNat x1) ((0 : Int), ((0 : Int), ((0 : Int), ((0 : Int), ((0 : Int), (⟨#[]⟩ : ByteArray))))))).1 < (List.length x0.1.1 : Int)) then (if (0 ≤ (List.getD x0.1.2.1 (Int.toNat x1) ((0 : Int), ((0 : Int), ((0 : Int), ((0 : Int), ((0 : Int), (⟨#[]⟩ : ByteArray))))))).2.1 ∧ (List.getD x0.1.2.1 (Int.toNat x1) ((0 : Int), ((0 : Int), ((0 : Int), ((0 : Int), ((0 : Int), (⟨#[]⟩ : ByteArray))))))).2.1 < (List.length x0.1.1 : Int)) then ((f251 k (List.getD x0.1.1 (Int.toNat (List.getD x0.1.2.1 (Int.toNat x1) ((0 : Int), ((0 : Int), ((0 : Int), ((0 : Int), ((0 : Int), (⟨#[]⟩ : ByteArray))))))).1) ((0 : Int), ((0 : Int), (0 : Int)))).2 (List.getD x0.1.1 (Int.toNat (List.getD x0.1.2.1 (Int.toNat x1) ((0 : Int), ((0 : Int), ((0 : Int), ((0 : Int), ((0 : Int), (⟨#[]⟩ : ByteArray))))))).2.1) ((0 : Int), ((0 : Int), (0 : Int)))).2).bind fun r1 => (if (0 ≤ (List.getD x0.1.2.1 (Int.toNat x2) ((0 : Int), ((0 : Int), ((0 : Int), ((0 : Int), ((0 : Int), (⟨#[]⟩ : ByteArray))))))).1 ∧ (List.getD x0.1.2.1 (Int.toNat x2) ((0 : Int), ((0 : Int), ((0 : Int), ((0 : Int), ((0 : Int), (⟨#[]⟩ : ByteArray))))))).1 < (List.length x0.1.1 : Int)) then (if (0 ≤ (List.getD x0.1.2.1 (Int.toNat x2) ((0 : Int), ((0 : Int), ((0 : Int), ((0 : Int), ((0 : Int), (⟨#[]⟩ : ByteArray))))))).2.1 ∧ (List.getD x0.1.2.1 (Int.toNat x2) ((0 : Int), ((0 : Int), ((0 : Int), ((0 : Int), ((0 : Int), (⟨#[]⟩ : ByteArray))))))).2.1 < (List.length x0.1.1 : Int)) then ((f251 k (List.getD x0.1.1 (Int.toNat (List.getD x0.1.2.1 (Int.toNat x2) ((0 : Int), ((0 : Int), ((0 : Int), ((0 : Int), ((0 : Int), (⟨#[]⟩ : ByteArray))))))).1) ((0 : Int), ((0 : Int), (0 : Int)))).2 (List.getD x0.1.1 (Int.toNat (List.getD x0.1.2.1 (Int.toNat x2) ((0 : Int), ((0 : Int), ((0 : Int), ((0 : Int), ((0 : Int), (⟨#[]⟩ : ByteArray))))))).2.1) ((0 : Int), ((0 : Int), (0 : Int)))).2).bind fun r2 => (if (bif (decide ((r1 : Int) < (0 : Int))) then true else (decide ((r2 : Int) < (0 : Int)))) then (some (-1 : Int)) else (if (((8 : Int) : Int) ≠ 0) then (some (Int.tmod (IntKind.i64.wrap ((IntKind.i64.wrap (r2 - r1)) + (8 : Int))) (8 : Int))) else none))) else none) else none)) else none) else none) else none) else none
set_option maxRecDepth 100000 in
/-- 'impl.myNet).winds'. -/
theorem c221 (k : Nat) (x0 : (((List (Int × (Int × Int))) × ((List (Int × (Int × (Int × (Int × (Int × ByteArray)))))) × (List (Int × Int)))) × ((List (List Int)) × ((List (List Int)) × (Option (List ((Int × Int) × Bool))))))) (x1 : Int) (x2 : Int) (r : Int) (hF : f221 k x0 x1 x2 = some r) : PCall Try.prog 221 [⟨sh23, some x0⟩, ⟨(.int .i64), x1⟩, ⟨(.int .i64), x2⟩] [⟨(.int .i64), r⟩] := by
  refine pcall_intro Try.func221 rfl rfl (Nat.le_of_ble_eq_true rfl) ?_
  intro w0 Zi a w h
  rw [f221] at hF
  refine wp_reg_seq tok (orc := orcL []) (fz := []) (l := [0, 1, 2]) (c := _) (.inr fun i h => h) h (by kernel_rfl) (AllP.nil) ?_
  intro a w h
  obtain ⟨hc10, hF⟩ := of_if hF
  obtain ⟨hc11, hF⟩ := of_if hF
  refine wp_regy_seq tok (orc := orcL []) (fz := []) (l := [0, 7, 8]) (c := _) ([(18, 7)], [], [], [(8, [0]), (9, [19]), (10, [20]), (11, [21]), (12, [22]), (13, [2]), (14, [23, 24]), (15, [25])]) 19 (.inr fun i h => h) h (by kernel_rfl) (by kernel_rfl) (AllP.cons hc10 (AllP.cons hc11 AllP.nil)) ?_
  intro a w h
  obtain ⟨hc7, hF⟩ := of_if hF
  obtain ⟨hc8, hF⟩ := of_if hF
  obtain ⟨r1, hr9, hF⟩ := of_bind hF
  refine wp_regy_seq tok (orc := orcL [(47, [⟨(.int .i64), r1⟩])]) (fz := []) (l := [0, 8, 9]) (c := _) ([], [], [], []) 22 (.inr fun i h => h) h (by kernel_rfl) (by kernel_rfl) (AllP.cons hc7 (AllP.cons hc8 (AllP.cons (c251 k (List.getD x0.1.1 (Int.toNat (List.getD x0.1.2.1 (Int.toNat x1) ((0 : Int), ((0 : Int), ((0 : Int), ((0 : Int), ((0 : Int), (⟨#[]⟩ : ByteArray))))))).1) ((0 : Int), ((0 : Int), (0 : Int)))).2 (List.getD x0.1.1 (Int.toNat (List.getD x0.1.2.1 (Int.toNat x1) ((0 : Int), ((0 : Int), ((0 : Int), ((0 : Int), ((0 : Int), (⟨#[]⟩ : ByteArray))))))).2.1) ((0 : Int), ((0 : Int), (0 : Int)))).2 r1 hr9) AllP.nil))) ?_
  intro a w h
  obtain ⟨hc4, hF⟩ := of_if hF
  obtain ⟨hc5, hF⟩ := of_if hF
  obtain ⟨r2, hr6, hF⟩ := of_bind hF
  refine wp_regy_seq tok (orc := orcL [(68, [⟨(.int .i64), r2⟩])]) (fz := []) (l := [9, 10]) (c := _) ([], [], [], []) 22 (.inr fun i h => h) h (by kernel_rfl) (by kernel_rfl) (AllP.cons hc4 (AllP.cons hc5 (AllP.cons (c251 k (List.getD x0.1.1 (Int.toNat (List.getD x0.1.2.1 (Int.toNat x2) ((0 : Int), ((0 : Int), ((0 : Int), ((0 : Int), ((0 : Int), (⟨#[]⟩ : ByteArray))))))).1) ((0 : Int), ((0 : Int), (0 : Int)))).2 (List.getD x0.1.1 (Int.toNat (List.getD x0.1.2.1 (Int.toNat x2) ((0 : Int), ((0 : Int), ((0 : Int), ((0 : Int), ((0 : Int), (⟨#[]⟩ : ByteArray))))))).2.1) ((0 : Int), ((0 : Int), (0 : Int)))).2 r2 hr6) AllP.nil))) ?_
  intro a w h
  refine wp_seq ?_
  refine wp_reg_seq tok (orc := orcL []) (fz := []) (l := [9, 10, 74]) (c := _) (.inr fun i h => h) h (by kernel_rfl) (AllP.nil) ?_
  intro a w h
  refine wp_if h (b := (bif (decide ((r1 : Int) < (0 : Int))) then true else (decide ((r2 : Int) < (0 : Int))))) (by kernel_rfl) (fun hb => ?_) (fun hb => ?_)
  · replace hF := of_t hb hF
    refine wp_reg_seq tok (orc := orcL []) (fz := []) (l := [6]) (c := _) (.inr fun i h => h) h (by kernel_rfl) (AllP.nil) ?_
    intro a w h
    cases hF
    exact wp_ret (ret_okR tok h rfl (by kernel_rfl)).1
  · replace hF := of_f hb hF
    refine wp_skip ?_
    obtain ⟨hc3, hF⟩ := of_if hF
    refine wp_reg_seq tok (orc := orcL []) (fz := []) (l := [6]) (c := _) (.inr fun i h => h) h (by kernel_rfl) (AllP.cons hc3 AllP.nil) ?_
    intro a w h
    cases hF
    exact wp_ret (ret_okR tok h rfl (by kernel_rfl)).1

def f170.j9 (k : Nat) : Bool → Option Int
  | v8 => if v8 then (some (3 : Int)) else (some (0 : Int))
def f170.j7 (k : Nat) (r1 : Int) : Bool → Option Int
  | v6 => if v6 then (some (5 : Int)) else (if ((r1 : Int) == (5 : Int)) then (f170.j9 k ((r1 : Int) == (5 : Int))) else (f170.j9 k ((r1 : Int) == (6 : Int))))
def f170 (k : Nat) (x0 : (((List (Int × (Int × Int))) × ((List (Int × (Int × (Int × (Int × (Int × ByteArray)))))) × (List (Int × Int)))) × ((List (List Int)) × ((List (List Int)) × (Option (List ((Int × Int) × Bool))))))) (x1 : Int) (x2 : Int) : Option Int := if (0 ≤ x1 ∧ x1 < (List.length x0.1.2.1 : Int)) then (if (0 ≤ x2 ∧ x2 < (List.length x0.1.2.1 : Int)) then (if (bif (((List.getD x0.1.2.1 (Int.toNat x1) ((0 : Int), ((0 : Int), ((0 : Int), ((0 : Int), ((0 : Int), (⟨#[]⟩ : ByteArray))))))).2.1 : Int) != (List.getD x0.1.2.1 (Int.toNat x2) ((0 : Int), ((0 : Int), ((0 : Int), ((0 : Int), ((0 : Int), (⟨#[]⟩ : ByteArray))))))).1) then true else (mget (Sh.beq sh5) x0.2.2.2 (x1, x2) false)) then (some (-1 : Int)) else (if (((List.getD x0.1.2.1 (Int.toNat x2) ((0 : Int), ((0 : Int), ((0 : Int), ((0 : Int), ((0 : Int), (⟨#[]⟩ : ByteArray))))))).2.1 : Int) == (List.getD x0.1.2.1 (Int.toNat x1) ((0 : Int), ((0 : Int), ((0 : Int), ((0 : Int), ((0 : Int), (⟨#[]⟩ : ByteArray))))))).1) then (some (20 : Int)) else ((f221 k x0 x1 x2).bind fun r1 => (if ((r1 : Int) == (2 : Int)) then (f170.j7 k r1 ((r1 : Int) == (2 : Int))) else (if ((r1 : Int) == (3 : Int)) then (f170.j7 k r1 ((r1 : Int) == (3 : Int))) else (f170.j7 k r1 ((r1 : Int) == (4 : Int)))))))) else none) else none
set_option maxRecDepth 100000 in
/-- 'impl.myNet).turn'. -/
theorem c170 (k : Nat) (x0 : (((List (Int × (Int × Int))) × ((List (Int × (Int × (Int × (Int × (Int × ByteArray)))))) × (List (Int × Int)))) × ((List (List Int)) × ((List (List Int)) × (Option (List ((Int × Int) × Bool))))))) (x1 : Int) (x2 : Int) (r : Int) (hF : f170 k x0 x1 x2 = some r) : PCall Try.prog 170 [⟨sh23, some x0⟩, ⟨(.int .i64), x1⟩, ⟨(.int .i64), x2⟩] [⟨(.int .i64), r⟩] := by
  refine pcall_intro Try.func170 rfl rfl (Nat.le_of_ble_eq_true rfl) ?_
  intro w0 Zi a w h
  rw [f170] at hF
  refine wp_reg_seq tok (orc := orcL []) (fz := []) (l := [0, 1, 2]) (c := _) (.inr fun i h => h) h (by kernel_rfl) (AllP.nil) ?_
  intro a w h
  obtain ⟨hc11, hF⟩ := of_if hF
  obtain ⟨hc12, hF⟩ := of_if hF
  refine wp_regy_seq tok (orc := orcL []) (fz := []) (l := [0, 1, 2, 7, 8]) (c := _) ([(18, 7)], [], [], [(8, [0]), (9, [17]), (10, [18]), (11, [19]), (12, [20]), (13, [2]), (14, [21, 22]), (15, [23])]) 19 (.inr fun i h => h) h (by kernel_rfl) (by kernel_rfl) (AllP.cons hc11 (AllP.cons hc12 AllP.nil)) ?_
  intro a w h
  refine wp_seq ?_
  refine wp_reg_seq tok (orc := orcL []) (fz := []) (l := [0, 1, 2, 7, 8, 39]) (c := _) (.inr fun i h => h) h (by kernel_rfl) (AllP.cons (fun (_ : ((((List.getD x0.1.2.1 (Int.toNat x1) ((0 : Int), ((0 : Int), ((0 : Int), ((0 : Int), ((0 : Int), (⟨#[]⟩ : ByteArray))))))).2.1 : Int) != (List.getD x0.1.2.1 (Int.toNat x2) ((0 : Int), ((0 : Int), ((0 : Int), ((0 : Int), ((0 : Int), (⟨#[]⟩ : ByteArray))))))).1) = false)) => (show eqTy Try.prog 9 167 (.st (.pair (.int .i64) (.int .i64))) = true from by kernel_rfl)) AllP.nil) ?_
  intro a w h
  refine wp_if h (b := (bif (((List.getD x0.1.2.1 (Int.toNat x1) ((0 : Int), ((0 : Int), ((0 : Int), ((0 : Int), ((0 : Int), (⟨#[]⟩ : ByteArray))))))).2.1 : Int) != (List.getD x0.1.2.1 (Int.toNat x2) ((0 : Int), ((0 : Int), ((0 : Int), ((0 : Int), ((0 : Int), (⟨#[]⟩ : ByteArray))))))).1) then true else (mget (Sh.beq sh5) x0.2.2.2 (x1, x2) false))) (by kernel_rfl) (fun hb => ?_) (fun hb => ?_)
  · replace hF := of_t hb hF
    refine wp_reg_seq tok (orc := orcL []) (fz := []) (l := [6]) (c := _) (.inr fun i h => h) h (by kernel_rfl) (AllP.nil) ?_
    intro a w h
    cases hF
    exact wp_ret (ret_okR tok h rfl (by kernel_rfl)).1
  · replace hF := of_f hb hF
    refine wp_skip ?_
    refine wp_seq ?_
    refine wp_reg_seq tok (orc := orcL []) (fz := []) (l := [0, 1, 2, 44]) (c := _) (.inr fun i h => h) h (by kernel_rfl) (AllP.nil) ?_
    intro a w h
    refine wp_if h (b := (((List.getD x0.1.2.1 (Int.toNat x2) ((0 : Int), ((0 : Int), ((0 : Int), ((0 : Int), ((0 : Int), (⟨#[]⟩ : ByteArray))))))).2.1 : Int) == (List.getD x0.1.2.1 (Int.toNat x1) ((0 : Int), ((0 : Int), ((0 : Int), ((0 : Int), ((0 : Int), (⟨#[]⟩ : ByteArray))))))).1)) (by kernel_rfl) (fun hb => ?_) (fun hb => ?_)
    · replace hF := of_t hb hF
      refine wp_reg_seq tok (orc := orcL []) (fz := []) (l := [6]) (c := _) (.inr fun i h => h) h (by kernel_rfl) (AllP.nil) ?_
      intro a w h
      cases hF
      exact wp_ret (ret_okR tok h rfl (by kernel_rfl)).1
    · replace hF := of_f hb hF
      refine wp_skip ?_
      refine wp_seq ?_
      obtain ⟨r1, hr10, hF⟩ := of_bind hF
      refine wp_reg_seq tok (orc := orcL [(48, [⟨(.int .i64), r1⟩])]) (fz := []) (l := [48]) (c := _) (.inr fun i h => h) h (by kernel_rfl) (AllP.cons (c221 k x0 x1 x2 r1 hr10) AllP.nil) ?_
      intro a w h
      refine wp_block ?_
      refine wp_seq ?_
      refine wp_reg_seq tok (orc := orcL []) (fz := []) (l := [48, 49]) (c := _) (.inr fun i h => h) h (by kernel_rfl) (AllP.nil) ?_
      intro a w h
      refine wp_midT (fun a w => ∃ v : Bool, f170.j7 k r1 v = some r ∧ Rel w0 (fun _ => False) Zi Try.f170.ntmps ((fun (v6 : Bool) => ([(48, .val (.int .i64) r1), (49, .val .bool v6)] : SS)) v) a w) ?_ ?_
      ·
        refine wp_if h (b := ((r1 : Int) == (2 : Int))) (by kernel_rfl) (fun hb => ?_) (fun hb => ?_)
        · replace hF := of_t hb hF
          refine wp_skip ?_
          exact ⟨((r1 : Int) == (2 : Int)), hF, h.arrive (fz := []) (l := [48, 49]) (.inr fun i h => h) (by kernel_rfl)⟩
        · replace hF := of_f hb hF
          refine wp_reg_seq tok (orc := orcL []) (fz := []) (l := [48, 49]) (c := _) (.inr fun i h => h) h (by kernel_rfl) (AllP.nil) ?_
          intro a w h
          refine wp_if h (b := ((r1 : Int) == (3 : Int))) (by kernel_rfl) (fun hb => ?_) (fun hb => ?_)
          · replace hF := of_t hb hF
            refine wp_skip ?_
            exact ⟨((r1 : Int) == (3 : Int)), hF, h.arrive (fz := []) (l := [48, 49]) (.inr fun i h => h) (by kernel_rfl)⟩
          · replace hF := of_f hb hF
            refine wp_reg tok (orc := orcL []) (fz := []) (l := [48, 49]) (c := _) (.inr fun i h => h) h (by kernel_rfl) (AllP.nil) ?_
            intro a w h
            exact ⟨((r1 : Int) == (4 : Int)), hF, h.arrive (fz := []) (l := [48, 49]) (.inr fun i h => h) (by kernel_rfl)⟩
      · rintro a w ⟨v6, hF, h⟩
        rw [f170.j7] at hF
        refine wp_if h (b := v6) (by kernel_rfl) (fun hb => ?_) (fun hb => ?_)
        · replace hF := of_t hb hF
          refine wp_reg_seq tok (orc := orcL []) (fz := []) (l := [6]) (c := _) (.inr fun i h => h) h (by kernel_rfl) (AllP.nil) ?_
          intro a w h
          cases hF
          exact wp_ret (ret_okR tok h rfl (by kernel_rfl)).1
        · replace hF := of_f hb hF
          refine wp_seq ?_
          refine wp_reg_seq tok (orc := orcL []) (fz := []) (l := [48, 53]) (c := _) (.inr fun i h => h) h (by kernel_rfl) (AllP.nil) ?_
          intro a w h
          refine wp_midT (fun a w => ∃ v : Bool, f170.j9 k v = some r ∧ Rel w0 (fun _ => False) Zi Try.f170.ntmps ((fun (v8 : Bool) => ([(53, .val .bool v8)] : SS)) v) a w) ?_ ?_
          ·
            refine wp_if h (b := ((r1 : Int) == (5 : Int))) (by kernel_rfl) (fun hb => ?_) (fun hb => ?_)
            · replace hF := of_t hb hF
              refine wp_skip ?_
              exact ⟨((r1 : Int) == (5 : Int)), hF, h.arrive (fz := []) (l := [53]) (.inr fun i h => h) (by kernel_rfl)⟩
            · replace hF := of_f hb hF
              refine wp_reg tok (orc := orcL []) (fz := []) (l := [53]) (c := _) (.inr fun i h => h) h (by kernel_rfl) (AllP.nil) ?_
              intro a w h
              exact ⟨((r1 : Int) == (6 : Int)), hF, h.arrive (fz := []) (l := [53]) (.inr fun i h => h) (by kernel_rfl)⟩
          · rintro a w ⟨v8, hF, h⟩
            rw [f170.j9] at hF
            refine wp_if h (b := v8) (by kernel_rfl) (fun hb => ?_) (fun hb => ?_)
            · replace hF := of_t hb hF
              refine wp_reg_seq tok (orc := orcL []) (fz := []) (l := [6]) (c := _) (.inr fun i h => h) h (by kernel_rfl) (AllP.nil) ?_
              intro a w h
              cases hF
              exact wp_ret (ret_okR tok h rfl (by kernel_rfl)).1
            · replace hF := of_f hb hF
              refine wp_skip ?_
              refine wp_reg_seq tok (orc := orcL []) (fz := []) (l := [6]) (c := _) (.inr fun i h => h) h (by kernel_rfl) (AllP.nil) ?_
              intro a w h
              cases hF
              exact wp_ret (ret_okR tok h rfl (by kernel_rfl)).1

def f82.j186 (k : Nat) (x1 : (List Int)) (v166 : Int) (x0 : (((List (Int × (Int × Int))) × ((List (Int × (Int × (Int × (Int × (Int × ByteArray)))))) × (List (Int × Int)))) × ((List (List Int)) × ((List (List Int)) × (Option (List ((Int × Int) × Bool))))))) (q98 : (Int × Int × Int) → Option Int) : Int → Option Int
  | v185 => if (0 ≤ (List.getD x1 (Int.toNat v166) (0 : Int)) ∧ (List.getD x1 (Int.toNat v166) (0 : Int)) < (List.length x0.1.2.1 : Int)) then (if (0 ≤ (List.getD x1 (Int.toNat v166) (0 : Int)) ∧ (List.getD x1 (Int.toNat v166) (0 : Int)) < (List.length x0.1.2.1 : Int)) then (q98 ((List.getD x0.1.2.1 (Int.toNat (List.getD x1 (Int.toNat v166) (0 : Int))) ((0 : Int), ((0 : Int), ((0 : Int), ((0 : Int), ((0 : Int), (⟨#[]⟩ : ByteArray))))))).2.1, (IntKind.i64.wrap (v185 + (List.getD x0.1.2.1 (Int.toNat (List.getD x1 (Int.toNat v166) (0 : Int))) ((0 : Int), ((0 : Int), ((0 : Int), ((0 : Int), ((0 : Int), (⟨#[]⟩ : ByteArray))))))).2.2.2.1)), (IntKind.i64.wrap (v166 + (1 : Int))))) else none) else none
def f82.l98 (k : Nat) (x1 : (List Int)) (x0 : (((List (Int × (Int × Int))) × ((List (Int × (Int × (Int × (Int × (Int × ByteArray)))))) × (List (Int × Int)))) × ((List (List Int)) × ((List (List Int)) × (Option (List ((Int × Int) × Bool))))))) (x3 : Int) : Nat → (Int × Int × Int) → Option Int
  | 0, _ => none
  | m98 + 1, (v164, v165, v166) => if (decide ((v166 : Int) < (List.length x1 : Int))) then (if (0 ≤ v166 ∧ v166 < (List.length x1 : Int)) then ((f81 k x0 (List.getD x1 (Int.toNat v166) (0 : Int))).bind fun r181 => (if (((!r181) = false) → (0 ≤ (List.getD x1 (Int.toNat v166) (0 : Int)) ∧ (List.getD x1 (Int.toNat v166) (0 : Int)) < (List.length x0.1.2.1 : Int))) then (if (bif (!r181) then true else (((List.getD x0.1.2.1 (Int.toNat (List.getD x1 (Int.toNat v166) (0 : Int))) ((0 : Int), ((0 : Int), ((0 : Int), ((0 : Int), ((0 : Int), (⟨#[]⟩ : ByteArray))))))).1 : Int) != v164)) then (some (-1 : Int)) else (if (decide ((v166 : Int) > (0 : Int))) then (if (0 ≤ (IntKind.i64.wrap (v166 - (1 : Int))) ∧ (IntKind.i64.wrap (v166 - (1 : Int))) < (List.length x1 : Int)) then ((f170 k x0 (List.getD x1 (Int.toNat (IntKind.i64.wrap (v166 - (1 : Int)))) (0 : Int)) (List.getD x1 (Int.toNat v166) (0 : Int))).bind fun r189 => (if (decide ((r189 : Int) < (0 : Int))) then (some (-1 : Int)) else (f82.j186 k x1 v166 x0 ((f82.l98 k x1 x0 x3) m98) (IntKind.i64.wrap (v165 + r189))))) else none) else (f82.j186 k x1 v166 x0 ((f82.l98 k x1 x0 x3) m98) v165))) else none)) else none) else (if ((v164 : Int) != x3) then (some (-1 : Int)) else (some v165))
def f82 (k : Nat) (x0 : (((List (Int × (Int × Int))) × ((List (Int × (Int × (Int × (Int × (Int × ByteArray)))))) × (List (Int × Int)))) × ((List (List Int)) × ((List (List Int)) × (Option (List ((Int × Int) × Bool))))))) (x1 : (List Int)) (x2 : Int) (x3 : Int) : Option Int := f82.l98 k x1 x0 x3 k (x2, (0 : Int), (0 : Int))
set_option maxRecDepth 100000 in
/-- 'impl.myNet).pathTime'. -/
theorem c82 (k : Nat) (x0 : (((List (Int × (Int × Int))) × ((List (Int × (Int × (Int × (Int × (Int × ByteArray)))))) × (List (Int × Int)))) × ((List (List Int)) × ((List (List Int)) × (Option (List ((Int × Int) × Bool))))))) (x1 : (List Int)) (x2 : Int) (x3 : Int) (r : Int) (hF : f82 k x0 x1 x2 x3 = some r) : PCall Try.prog 82 [⟨sh23, some x0⟩, ⟨(.sl false 2 (.int .i64)), x1⟩, ⟨(.int .i64), x2⟩, ⟨(.int .i64), x3⟩] [⟨(.int .i64), r⟩] := by
  refine pcall_intro Try.func82 rfl rfl (Nat.le_of_ble_eq_true rfl) ?_
  intro w0 Zi a w h
  rw [f82] at hF
  refine wp_reg_seq tok (orc := orcL []) (fz := []) (l := [0, 1, 2, 3]) (c := _) (.inr fun i h => h) h (by kernel_rfl) (AllP.nil) ?_
  intro a w h
  refine wp_reg_seq tok (orc := orcL []) (fz := []) (l := [0, 1, 3, 9, 10]) (c := _) (.inr fun i h => h) h (by kernel_rfl) (AllP.nil) ?_
  intro a w h
  refine wp_seq ?_
  refine wp_reg_seq tok (orc := orcL []) (fz := []) (l := [0, 1, 3, 9, 10, 15, 16, 17]) (c := _) (.inr fun i h => h) h (by kernel_rfl) (AllP.nil) ?_
  intro a w h
  refine wp_block ?_
  refine wp_loop_fuel (f82.l98 k x1 x0 x3) (fun ((v164, v165, v166) : (Int × Int × Int)) => [(0, .val sh23 (some x0)), (1, .val (.sl false 2 (.int .i64)) x1), (3, .val (.int .i64) x3), (9, .val (.int .i64) v164), (10, .val (.int .i64) v165), (15, .val (.sl false 2 (.int .i64)) x1), (16, .val (.int .i64) (List.length x1 : Int)), (17, .val (.int .i64) v166)]) (fun v h => by obtain ⟨v164, v165, v166⟩ := v; rw [f82.l98] at h; cases h) ?_ hF (h.arrive (fz := []) (l := [0, 1, 3, 9, 10, 15, 16, 17]) (.inr fun i h => h) (by kernel_rfl))
  intro m98 v a w hF h
  obtain ⟨v164, v165, v166⟩ := v
  rw [f82.l98] at hF
  refine wp_reg_seq tok (orc := orcL []) (fz := []) (l := [0, 1, 3, 9, 10, 15, 16, 17, 18]) (c := _) (.inr fun i h => h) h (by kernel_rfl) (AllP.nil) ?_
  intro a w h
  refine wp_seq <| wp_if h (b := (decide ((v166 : Int) < (List.length x1 : Int)))) (by kernel_rfl) (fun hb => ?_) (fun hb => ?_)
  · replace hF := of_t hb hF
    refine wp_skip ?_
    refine wp_seq <| wp_block ?_
    obtain ⟨hc194, hF⟩ := of_if hF
    refine wp_reg_seq tok (orc := orcL []) (fz := []) (l := [0, 1, 3, 9, 10, 11, 12, 15, 16, 17]) (c := _) (.inr fun i h => h) h (by kernel_rfl) (AllP.cons hc194 AllP.nil) ?_
    intro a w h
    refine wp_seq ?_
    obtain ⟨r181, hr192, hF⟩ := of_bind hF
    obtain ⟨hc193, hF⟩ := of_if hF
    refine wp_reg_seq tok (orc := orcL [(24, [⟨.bool, r181⟩])]) (fz := []) (l := [0, 1, 3, 10, 11, 12, 15, 16, 17, 38]) (c := _) (.inr fun i h => h) h (by kernel_rfl) (AllP.cons (c81 k x0 (List.getD x1 (Int.toNat v166) (0 : Int)) r181 hr192) (AllP.cons hc193 AllP.nil)) ?_
    intro a w h
    refine wp_if h (b := (bif (!r181) then true else (((List.getD x0.1.2.1 (Int.toNat (List.getD x1 (Int.toNat v166) (0 : Int))) ((0 : Int), ((0 : Int), ((0 : Int), ((0 : Int), ((0 : Int), (⟨#[]⟩ : ByteArray))))))).1 : Int) != v164))) (by kernel_rfl) (fun hb => ?_) (fun hb => ?_)
    · replace hF := of_t hb hF
      refine wp_reg_seq tok (orc := orcL []) (fz := []) (l := [8]) (c := _) (.inr fun i h => h) h (by kernel_rfl) (AllP.nil) ?_
      intro a w h
      cases hF
      exact wp_ret (ret_okR tok h rfl (by kernel_rfl)).1
    · replace hF := of_f hb hF
      refine wp_skip ?_
      refine wp_seq ?_
      refine wp_reg_seq tok (orc := orcL []) (fz := []) (l := [0, 1, 3, 10, 11, 12, 15, 16, 17, 40]) (c := _) (.inr fun i h => h) h (by kernel_rfl) (AllP.nil) ?_
      intro a w h
      refine wp_midT (fun a w => ∃ v : Int, f82.j186 k x1 v166 x0 ((f82.l98 k x1 x0 x3) m98) v = some r ∧ Rel w0 (fun _ => False) Zi Try.f82.ntmps ((fun (v185 : Int) => ([(0, .val sh23 (some x0)), (1, .val (.sl false 2 (.int .i64)) x1), (3, .val (.int .i64) x3), (10, .val (.int .i64) v185), (12, .val (.int .i64) (List.getD x1 (Int.toNat v166) (0 : Int))), (15, .val (.sl false 2 (.int .i64)) x1), (16, .val (.int .i64) (List.length x1 : Int)), (17, .val (.int .i64) v166)] : SS)) v) a w) ?_ ?_
      ·
        refine wp_if h (b := (decide ((v166 : Int) > (0 : Int)))) (by kernel_rfl) (fun hb => ?_) (fun hb => ?_)
        · replace hF := of_t hb hF
          obtain ⟨hc190, hF⟩ := of_if hF
          obtain ⟨r189, hr191, hF⟩ := of_bind hF
          refine wp_reg_seq tok (orc := orcL [(48, [⟨(.int .i64), r189⟩])]) (fz := []) (l := [0, 1, 3, 10, 12, 13, 15, 16, 17]) (c := _) (.inr fun i h => h) h (by kernel_rfl) (AllP.cons hc190 (AllP.cons (c170 k x0 (List.getD x1 (Int.toNat (IntKind.i64.wrap (v166 - (1 : Int)))) (0 : Int)) (List.getD x1 (Int.toNat v166) (0 : Int)) r189 hr191) AllP.nil)) ?_
          intro a w h
          refine wp_seq ?_
          refine wp_reg_seq tok (orc := orcL []) (fz := []) (l := [0, 1, 3, 10, 12, 13, 15, 16, 17, 50]) (c := _) (.inr fun i h => h) h (by kernel_rfl) (AllP.nil) ?_
          intro a w h
          refine wp_if h (b := (decide ((r189 : Int) < (0 : Int)))) (by kernel_rfl) (fun hb => ?_) (fun hb => ?_)
          · replace hF := of_t hb hF
            refine wp_reg_seq tok (orc := orcL []) (fz := []) (l := [8]) (c := _) (.inr fun i h => h) h (by kernel_rfl) (AllP.nil) ?_
            intro a w h
            cases hF
            exact wp_ret (ret_okR tok h rfl (by kernel_rfl)).1
          · replace hF := of_f hb hF
            refine wp_skip ?_
            refine wp_reg tok (orc := orcL []) (fz := []) (l := [0, 1, 3, 10, 12, 15, 16, 17]) (c := _) (.inr fun i h => h) h (by kernel_rfl) (AllP.nil) ?_
            intro a w h
            exact ⟨(IntKind.i64.wrap (v165 + r189)), hF, h.arrive (fz := []) (l := [0, 1, 3, 10, 12, 15, 16, 17]) (.inr fun i h => h) (by kernel_rfl)⟩
        · replace hF := of_f hb hF
          refine wp_skip ?_
          exact ⟨v165, hF, h.arrive (fz := []) (l := [0, 1, 3, 10, 12, 15, 16, 17]) (.inr fun i h => h) (by kernel_rfl)⟩
      · rintro a w ⟨v185, hF, h⟩
        rw [f82.j186] at hF
        obtain ⟨hc188, hF⟩ := of_if hF
        refine wp_reg_seq tok (orc := orcL []) (fz := []) (l := [0, 1, 3, 10, 12, 15, 16, 17]) (c := _) (.inr fun i h => h) h (by kernel_rfl) (AllP.cons hc188 AllP.nil) ?_
        intro a w h
        obtain ⟨hc187, hF⟩ := of_if hF
        refine wp_reg tok (orc := orcL []) (fz := []) (l := [0, 1, 3, 9, 10, 15, 16, 17]) (c := _) (.inr fun i h => h) h (by kernel_rfl) (AllP.cons hc187 AllP.nil) ?_
        intro a w h
        refine wp_reg tok (orc := orcL []) (fz := []) (l := [0, 1, 3, 9, 10, 15, 16, 17]) (c := _) (.inr fun i h => h) h (by kernel_rfl) (AllP.nil) ?_
        intro a w h
        exact ⟨((List.getD x0.1.2.1 (Int.toNat (List.getD x1 (Int.toNat v166) (0 : Int))) ((0 : Int), ((0 : Int), ((0 : Int), ((0 : Int), ((0 : Int), (⟨#[]⟩ : ByteArray))))))).2.1, (IntKind.i64.wrap (v185 + (List.getD x0.1.2.1 (Int.toNat (List.getD x1 (Int.toNat v166) (0 : Int))) ((0 : Int), ((0 : Int), ((0 : Int), ((0 : Int), ((0 : Int), (⟨#[]⟩ : ByteArray))))))).2.2.2.1)), (IntKind.i64.wrap (v166 + (1 : Int)))), hF, h.arrive (fz := []) (l := [0, 1, 3, 9, 10, 15, 16, 17]) (.inr fun i h => h) (by kernel_rfl)⟩
  · replace hF := of_f hb hF
    refine wp_exit ?_
    refine wp_seq ?_
    refine wp_reg_seq tok (orc := orcL []) (fz := []) (l := [10, 77]) (c := _) (.inr fun i h => h) h (by kernel_rfl) (AllP.nil) ?_
    intro a w h
    refine wp_if h (b := ((v164 : Int) != x3)) (by kernel_rfl) (fun hb => ?_) (fun hb => ?_)
    · replace hF := of_t hb hF
      refine wp_reg_seq tok (orc := orcL []) (fz := []) (l := [8]) (c := _) (.inr fun i h => h) h (by kernel_rfl) (AllP.nil) ?_
      intro a w h
      cases hF
      exact wp_ret (ret_okR tok h rfl (by kernel_rfl)).1
    · replace hF := of_f hb hF
      refine wp_skip ?_
      refine wp_reg_seq tok (orc := orcL []) (fz := []) (l := [8]) (c := _) (.inr fun i h => h) h (by kernel_rfl) (AllP.nil) ?_
      intro a w h
      cases hF
      exact wp_ret (ret_okR tok h rfl (by kernel_rfl)).1

def f173.j52 (k : Nat) (v48 : Int) (q28 : ((List Int) × Int) → Option (List Int)) : (List Int) → Option (List Int)
  | v51 => q28 (v51, (IntKind.i64.wrap (v48 + (1 : Int))))
def f173.l28 (k : Nat) (x0 : (((List (Int × (Int × Int))) × ((List (Int × (Int × (Int × (Int × (Int × ByteArray)))))) × (List (Int × Int)))) × ((List (List Int)) × ((List (List Int)) × (Option (List ((Int × Int) × Bool))))))) (x1 : Int) : Nat → ((List Int) × Int) → Option (List Int)
  | 0, _ => none
  | m28 + 1, (v47, v48) => if (decide ((v48 : Int) < (List.length (List.getD x0.2.1 (Int.toNat (List.getD x0.1.2.1 (Int.toNat x1) ((0 : Int), ((0 : Int), ((0 : Int), ((0 : Int), ((0 : Int), (⟨#[]⟩ : ByteArray))))))).2.1) ([] : (List Int))) : Int))) then (if (0 ≤ v48 ∧ v48 < (List.length (List.getD x0.2.1 (Int.toNat (List.getD x0.1.2.1 (Int.toNat x1) ((0 : Int), ((0 : Int), ((0 : Int), ((0 : Int), ((0 : Int), (⟨#[]⟩ : ByteArray))))))).2.1) ([] : (List Int))) : Int)) then (if (!(mget (Sh.beq sh5) x0.2.2.2 (x1, (List.getD (List.getD x0.2.1 (Int.toNat (List.getD x0.1.2.1 (Int.toNat x1) ((0 : Int), ((0 : Int), ((0 : Int), ((0 : Int), ((0 : Int), (⟨#[]⟩ : ByteArray))))))).2.1) ([] : (List Int))) (Int.toNat v48) (0 : Int))) false)) then (if ((List.length v47 + List.length [(List.getD (List.getD x0.2.1 (Int.toNat (List.getD x0.1.2.1 (Int.toNat x1) ((0 : Int), ((0 : Int), ((0 : Int), ((0 : Int), ((0 : Int), (⟨#[]⟩ : ByteArray))))))).2.1) ([] : (List Int))) (Int.toNat v48) (0 : Int))]) * 8 ≤ 140737488355328) then (f173.j52 k v48 ((f173.l28 k x0 x1) m28) (v47 ++ [(List.getD (List.getD x0.2.1 (Int.toNat (List.getD x0.1.2.1 (Int.toNat x1) ((0 : Int), ((0 : Int), ((0 : Int), ((0 : Int), ((0 : Int), (⟨#[]⟩ : ByteArray))))))).2.1) ([] : (List Int))) (Int.toNat v48) (0 : Int))])) else none) else (f173.j52 k v48 ((f173.l28 k x0 x1) m28) v47)) else none) else (some v47)
def f173 (k : Nat) (x0 : (((List (Int × (Int × Int))) × ((List (Int × (Int × (Int × (Int × (Int × ByteArray)))))) × (List (Int × Int)))) × ((List (List Int)) × ((List (List Int)) × (Option (List ((Int × Int) × Bool))))))) (x1 : Int) : Option (List Int) := if (0 ≤ x1 ∧ x1 < (List.length x0.1.2.1 : Int)) then (if (0 ≤ (List.getD x0.1.2.1 (Int.toNat x1) ((0 : Int), ((0 : Int), ((0 : Int), ((0 : Int), ((0 : Int), (⟨#[]⟩ : ByteArray))))))).2.1 ∧ (List.getD x0.1.2.1 (Int.toNat x1) ((0 : Int), ((0 : Int), ((0 : Int), ((0 : Int), ((0 : Int), (⟨#[]⟩ : ByteArray))))))).2.1 < (List.length x0.2.1 : Int)) then (f173.l28 k x0 x1 k (([] : (List Int)), (0 : Int))) else none) else none
set_option maxRecDepth 100000 in
/-- 'impl.myNet).nexts'. -/
theorem c173 (k : Nat) (x0 : (((List (Int × (Int × Int))) × ((List (Int × (Int × (Int × (Int × (Int × ByteArray)))))) × (List (Int × Int)))) × ((List (List Int)) × ((List (List Int)) × (Option (List ((Int × Int) × Bool))))))) (x1 : Int) (r : (List Int)) (hF : f173 k x0 x1 = some r) : PCall Try.prog 173 [⟨sh23, some x0⟩, ⟨(.int .i64), x1⟩] [⟨(.sl true 2 (.int .i64)), r⟩] := by
  refine pcall_intro Try.func173 rfl rfl (Nat.le_of_ble_eq_true rfl) ?_
  intro w0 Zi a w h
  rw [f173] at hF
  refine wp_reg_seq tok (orc := orcL []) (fz := []) (l := [0, 1]) (c := _) (.inr fun i h => h) h (by kernel_rfl) (AllP.nil) ?_
  intro a w h
  refine wp_reg_seq tok (orc := orcL []) (fz := []) (l := [0, 1, 5]) (c := _) (.inr fun i h => h) h (by kernel_rfl) (AllP.nil) ?_
  intro a w h
  refine wp_seq ?_
  obtain ⟨hc55, hF⟩ := of_if hF
  obtain ⟨hc56, hF⟩ := of_if hF
  refine wp_regy_seq tok (orc := orcL []) (fz := []) (l := [0, 1, 5, 22, 23, 24]) (c := _) ([], [], [], []) 17 (.inr fun i h => h) h (by kernel_rfl) (by kernel_rfl) (AllP.cons hc55 (AllP.cons hc56 AllP.nil)) ?_
  intro a w h
  refine wp_block ?_
  refine wp_loop_fuel (f173.l28 k x0 x1) (fun ((v47, v48) : ((List Int) × Int)) => [(0, .val sh23 (some x0)), (1, .val (.int .i64) x1), (5, .val (.sl true 2 (.int .i64)) v47), (22, .val (.sl false 2 (.int .i64)) (List.getD x0.2.1 (Int.toNat (List.getD x0.1.2.1 (Int.toNat x1) ((0 : Int), ((0 : Int), ((0 : Int), ((0 : Int), ((0 : Int), (⟨#[]⟩ : ByteArray))))))).2.1) ([] : (List Int)))), (23, .val (.int .i64) (List.length (List.getD x0.2.1 (Int.toNat (List.getD x0.1.2.1 (Int.toNat x1) ((0 : Int), ((0 : Int), ((0 : Int), ((0 : Int), ((0 : Int), (⟨#[]⟩ : ByteArray))))))).2.1) ([] : (List Int))) : Int)), (24, .val (.int .i64) v48)]) (fun v h => by obtain ⟨v47, v48⟩ := v; rw [f173.l28] at h; cases h) ?_ hF (h.arrive (fz := []) (l := [0, 1, 5, 22, 23, 24]) (.inr fun i h => h) (by kernel_rfl))
  intro m28 v a w hF h
  obtain ⟨v47, v48⟩ := v
  rw [f173.l28] at hF
  refine wp_reg_seq tok (orc := orcL []) (fz := []) (l := [0, 1, 5, 22, 23, 24, 25]) (c := _) (.inr fun i h => h) h (by kernel_rfl) (AllP.nil) ?_
  intro a w h
  refine wp_seq <| wp_if h (b := (decide ((v48 : Int) < (List.length (List.getD x0.2.1 (Int.toNat (List.getD x0.1.2.1 (Int.toNat x1) ((0 : Int), ((0 : Int), ((0 : Int), ((0 : Int), ((0 : Int), (⟨#[]⟩ : ByteArray))))))).2.1) ([] : (List Int))) : Int)))) (by kernel_rfl) (fun hb => ?_) (fun hb => ?_)
  · replace hF := of_t hb hF
    refine wp_skip ?_
    refine wp_mid (fun a w => ∃ v : (List Int), f173.j52 k v48 ((f173.l28 k x0 x1) m28) v = some r ∧ Rel w0 (fun _ => False) Zi Try.f173.ntmps ((fun (v51 : (List Int)) => ([(0, .val sh23 (some x0)), (1, .val (.int .i64) x1), (5, .val (.sl true 2 (.int .i64)) v51), (22, .val (.sl false 2 (.int .i64)) (List.getD x0.2.1 (Int.toNat (List.getD x0.1.2.1 (Int.toNat x1) ((0 : Int), ((0 : Int), ((0 : Int), ((0 : Int), ((0 : Int), (⟨#[]⟩ : ByteArray))))))).2.1) ([] : (List Int)))), (23, .val (.int .i64) (List.length (List.getD x0.2.1 (Int.toNat (List.getD x0.1.2.1 (Int.toNat x1) ((0 : Int), ((0 : Int), ((0 : Int), ((0 : Int), ((0 : Int), (⟨#[]⟩ : ByteArray))))))).2.1) ([] : (List Int))) : Int)), (24, .val (.int .i64) v48)] : SS)) v) a w) ?_ ?_
    ·
      refine wp_block ?_
      obtain ⟨hc54, hF⟩ := of_if hF
      refine wp_reg_seq tok (orc := orcL []) (fz := []) (l := [0, 1, 5, 7, 22, 23, 24]) (c := _) (.inr fun i h => h) h (by kernel_rfl) (AllP.cons hc54 AllP.nil) ?_
      intro a w h
      refine wp_reg_seq tok (orc := orcL []) (fz := []) (l := [0, 1, 5, 7, 22, 23, 24, 36]) (c := _) (.inr fun i h => h) h (by kernel_rfl) (AllP.cons (show eqTy Try.prog 9 167 (.st (.pair (.int .i64) (.int .i64))) = true from by kernel_rfl) AllP.nil) ?_
      intro a w h
      refine wp_if h (b := (!(mget (Sh.beq sh5) x0.2.2.2 (x1, (List.getD (List.getD x0.2.1 (Int.toNat (List.getD x0.1.2.1 (Int.toNat x1) ((0 : Int), ((0 : Int), ((0 : Int), ((0 : Int), ((0 : Int), (⟨#[]⟩ : ByteArray))))))).2.1) ([] : (List Int))) (Int.toNat v48) (0 : Int))) false))) (by kernel_rfl) (fun hb => ?_) (fun hb => ?_)
      · replace hF := of_t hb hF
        obtain ⟨hc53, hF⟩ := of_if hF
        refine wp_reg tok (orc := orcL []) (fz := []) (l := [0, 1, 5, 22, 23, 24]) (c := _) (.inr fun i h => h) h (by kernel_rfl) (AllP.cons hc53 AllP.nil) ?_
        intro a w h
        exact ⟨(v47 ++ [(List.getD (List.getD x0.2.1 (Int.toNat (List.getD x0.1.2.1 (Int.toNat x1) ((0 : Int), ((0 : Int), ((0 : Int), ((0 : Int), ((0 : Int), (⟨#[]⟩ : ByteArray))))))).2.1) ([] : (List Int))) (Int.toNat v48) (0 : Int))]), hF, h.arrive (fz := []) (l := [0, 1, 5, 22, 23, 24]) (.inr fun i h => h) (by kernel_rfl)⟩
      · replace hF := of_f hb hF
        refine wp_skip ?_
        exact ⟨v47, hF, h.arrive (fz := []) (l := [0, 1, 5, 22, 23, 24]) (.inr fun i h => h) (by kernel_rfl)⟩
    · rintro a w ⟨v51, hF, h⟩
      rw [f173.j52] at hF
      refine wp_reg tok (orc := orcL []) (fz := []) (l := [0, 1, 5, 22, 23, 24]) (c := _) (.inr fun i h => h) h (by kernel_rfl) (AllP.nil) ?_
      intro a w h
      exact ⟨(v51, (IntKind.i64.wrap (v48 + (1 : Int)))), hF, h.arrive (fz := []) (l := [0, 1, 5, 22, 23, 24]) (.inr fun i h => h) (by kernel_rfl)⟩
  · replace hF := of_f hb hF
    refine wp_exit ?_
    refine wp_reg_seq tok (orc := orcL []) (fz := []) (l := [4, 5]) (c := _) (.inr fun i h => h) h (by kernel_rfl) (AllP.nil) ?_
    intro a w h
    cases hF
    exact wp_ret (ret_okR tok h rfl (by kernel_rfl)).1

def f172 (k : Nat) (x0 : (((List (Int × (Int × Int))) × ((List (Int × (Int × (Int × (Int × (Int × ByteArray)))))) × (List (Int × Int)))) × ((List (List Int)) × ((List (List Int)) × (Option (List ((Int × Int) × Bool))))))) (x1 : Int) (x2 : Int) : Option Int := if (0 ≤ x2 ∧ x2 < (List.length x0.1.2.1 : Int)) then (if (0 ≤ x1 ∧ x1 < (List.length x0.1.2.1 : Int)) then (if (((List.getD x0.1.2.1 (Int.toNat x2) ((0 : Int), ((0 : Int), ((0 : Int), ((0 : Int), ((0 : Int), (⟨#[]⟩ : ByteArray))))))).2.1 : Int) == (List.getD x0.1.2.1 (Int.toNat x1) ((0 : Int), ((0 : Int), ((0 : Int), ((0 : Int), ((0 : Int), (⟨#[]⟩ : ByteArray))))))).1) then (some (8 : Int)) else ((f221 k x0 x1 x2).bind fun r1 => (if (decide ((r1 : Int) < (0 : Int))) then (some (0 : Int)) else (some r1)))) else none) else none
set_option maxRecDepth 100000 in
/-- 'impl.myNet).wind'. -/
theorem c172 (k : Nat) (x0 : (((List (Int × (Int × Int))) × ((List (Int × (Int × (Int × (Int × (Int × ByteArray)))))) × (List (Int × Int)))) × ((List (List Int)) × ((List (List Int)) × (Option (List ((Int × Int) × Bool))))))) (x1 : Int) (x2 : Int) (r : Int) (hF : f172 k x0 x1 x2 = some r) : PCall Try.prog 172 [⟨sh23, some x0⟩, ⟨(.int .i64), x1⟩, ⟨(.int .i64), x2⟩] [⟨(.int .i64), r⟩] := by
  refine pcall_intro Try.func172 rfl rfl (Nat.le_of_ble_eq_true rfl) ?_
  intro w0 Zi a w h
  rw [f172] at hF
  refine wp_reg_seq tok (orc := orcL []) (fz := []) (l := [0, 1, 2]) (c := _) (.inr fun i h => h) h (by kernel_rfl) (AllP.nil) ?_
  intro a w h
  refine wp_seq ?_
  obtain ⟨hc3, hF⟩ := of_if hF
  obtain ⟨hc4, hF⟩ := of_if hF
  refine wp_regy_seq tok (orc := orcL []) (fz := []) (l := [0, 1, 2, 26]) (c := _) ([], [], [], []) 19 (.inr fun i h => h) h (by kernel_rfl) (by kernel_rfl) (AllP.cons hc3 (AllP.cons hc4 AllP.nil)) ?_
  intro a w h
  refine wp_if h (b := (((List.getD x0.1.2.1 (Int.toNat x2) ((0 : Int), ((0 : Int), ((0 : Int), ((0 : Int), ((0 : Int), (⟨#[]⟩ : ByteArray))))))).2.1 : Int) == (List.getD x0.1.2.1 (Int.toNat x1) ((0 : Int), ((0 : Int), ((0 : Int), ((0 : Int), ((0 : Int), (⟨#[]⟩ : ByteArray))))))).1)) (by kernel_rfl) (fun hb => ?_) (fun hb => ?_)
  · replace hF := of_t hb hF
    refine wp_reg_seq tok (orc := orcL []) (fz := []) (l := [6]) (c := _) (.inr fun i h => h) h (by kernel_rfl) (AllP.nil) ?_
    intro a w h
    cases hF
    exact wp_ret (ret_okR tok h rfl (by kernel_rfl)).1
  · replace hF := of_f hb hF
    refine wp_skip ?_
    obtain ⟨r1, hr2, hF⟩ := of_bind hF
    refine wp_reg_seq tok (orc := orcL [(30, [⟨(.int .i64), r1⟩])]) (fz := []) (l := [7]) (c := _) (.inr fun i h => h) h (by kernel_rfl) (AllP.cons (c221 k x0 x1 x2 r1 hr2) AllP.nil) ?_
    intro a w h
    refine wp_seq ?_
    refine wp_reg_seq tok (orc := orcL []) (fz := []) (l := [7, 32]) (c := _) (.inr fun i h => h) h (by kernel_rfl) (AllP.nil) ?_
    intro a w h
    refine wp_if h (b := (decide ((r1 : Int) < (0 : Int)))) (by kernel_rfl) (fun hb => ?_) (fun hb => ?_)
    · replace hF := of_t hb hF
      refine wp_reg_seq tok (orc := orcL []) (fz := []) (l := [6]) (c := _) (.inr fun i h => h) h (by kernel_rfl) (AllP.nil) ?_
      intro a w h
      cases hF
      exact wp_ret (ret_okR tok h rfl (by kernel_rfl)).1
    · replace hF := of_f hb hF
      refine wp_skip ?_
      refine wp_reg_seq tok (orc := orcL []) (fz := []) (l := [6]) (c := _) (.inr fun i h => h) h (by kernel_rfl) (AllP.nil) ?_
      intro a w h
      cases hF
      exact wp_ret (ret_okR tok h rfl (by kernel_rfl)).1

def f171.j122 (k : Nat) (v112 : Int) (q66 : (Int × Int × Int) → Option Int) : (Int × Int) → Option Int
  | (v120, v121) => q66 (v120, v121, (IntKind.i64.wrap (v112 + (1 : Int))))
def f171.j125 (k : Nat) (v110 : Int) (r1 : (List Int)) (v112 : Int) (v111 : Int) (q122 : (Int × Int) → Option Int) : Int → Option Int
  | v124 => if (decide ((v124 : Int) < v110)) then (q122 (v124, (List.getD r1 (Int.toNat v112) (0 : Int)))) else (q122 (v110, v111))
def f171.l66 (k : Nat) (r1 : (List Int)) (x0 : (((List (Int × (Int × Int))) × ((List (Int × (Int × (Int × (Int × (Int × ByteArray)))))) × (List (Int × Int)))) × ((List (List Int)) × ((List (List Int)) × (Option (List ((Int × Int) × Bool))))))) (x1 : Int) : Nat → (Int × Int × Int) → Option Int
  | 0, _ => none
  | m66 + 1, (v110, v111, v112) => if (decide ((v112 : Int) < (List.length r1 : Int))) then (if (0 ≤ v112 ∧ v112 < (List.length r1 : Int)) then (if (0 ≤ (List.getD r1 (Int.toNat v112) (0 : Int)) ∧ (List.getD r1 (Int.toNat v112) (0 : Int)) < (List.length x0.1.2.1 : Int)) then (if (0 ≤ x1 ∧ x1 < (List.length x0.1.2.1 : Int)) then (if (!(ByteArray.toList (List.getD x0.1.2.1 (Int.toNat (List.getD r1 (Int.toNat v112) (0 : Int))) ((0 : Int), ((0 : Int), ((0 : Int), ((0 : Int), ((0 : Int), (⟨#[]⟩ : ByteArray))))))).2.2.2.2.2 == ByteArray.toList (List.getD x0.1.2.1 (Int.toNat x1) ((0 : Int), ((0 : Int), ((0 : Int), ((0 : Int), ((0 : Int), (⟨#[]⟩ : ByteArray))))))).2.2.2.2.2)) then (f171.j122 k v112 ((f171.l66 k r1 x0 x1) m66) (v110, v111)) else ((f172 k x0 x1 (List.getD r1 (Int.toNat v112) (0 : Int))).bind fun r123 => (if (bif (decide ((r123 : Int) < (8 : Int))) then (decide (((IntKind.i64.wrap ((8 : Int) - r123)) : Int) < r123)) else false) then (f171.j125 k v110 r1 v112 v111 (f171.j122 k v112 ((f171.l66 k r1 x0 x1) m66)) (IntKind.i64.wrap ((8 : Int) - r123))) else (f171.j125 k v110 r1 v112 v111 (f171.j122 k v112 ((f171.l66 k r1 x0 x1) m66)) r123)))) else none) else none) else none) else (some v111)
def f171 (k : Nat) (x0 : (((List (Int × (Int × Int))) × ((List (Int × (Int × (Int × (Int × (Int × ByteArray)))))) × (List (Int × Int)))) × ((List (List Int)) × ((List (List Int)) × (Option (List ((Int × Int) × Bool))))))) (x1 : Int) : Option Int := (f173 k x0 x1).bind fun r1 => (f171.l66 k r1 x0 x1 k ((99 : Int), (-1 : Int), (0 : Int)))
set_option maxRecDepth 100000 in
/-- 'impl.myNet).ahead'. -/
theorem c171 (k : Nat) (x0 : (((List (Int × (Int × Int))) × ((List (Int × (Int × (Int × (Int × (Int × ByteArray)))))) × (List (Int × Int)))) × ((List (List Int)) × ((List (List Int)) × (Option (List ((Int × Int) × Bool))))))) (x1 : Int) (r : Int) (hF : f171 k x0 x1 = some r) : PCall Try.prog 171 [⟨sh23, some x0⟩, ⟨(.int .i64), x1⟩] [⟨(.int .i64), r⟩] := by
  refine pcall_intro Try.func171 rfl rfl (Nat.le_of_ble_eq_true rfl) ?_
  intro w0 Zi a w h
  rw [f171] at hF
  refine wp_reg_seq tok (orc := orcL []) (fz := []) (l := [0, 1]) (c := _) (.inr fun i h => h) h (by kernel_rfl) (AllP.nil) ?_
  intro a w h
  refine wp_reg_seq tok (orc := orcL []) (fz := []) (l := [0, 1, 5, 6]) (c := _) (.inr fun i h => h) h (by kernel_rfl) (AllP.nil) ?_
  intro a w h
  refine wp_seq ?_
  obtain ⟨r1, hr130, hF⟩ := of_bind hF
  refine wp_reg_seq tok (orc := orcL [(12, [⟨(.sl true 2 (.int .i64)), r1⟩])]) (fz := []) (l := [0, 1, 5, 6, 12, 13, 14]) (c := _) (.inr fun i h => h) h (by kernel_rfl) (AllP.cons (c173 k x0 x1 r1 hr130) AllP.nil) ?_
  intro a w h
  refine wp_block ?_
  refine wp_loop_fuel (f171.l66 k r1 x0 x1) (fun ((v110, v111, v112) : (Int × Int × Int)) => [(0, .val sh23 (some x0)), (1, .val (.int .i64) x1), (5, .val (.int .i64) v110), (6, .val (.int .i64) v111), (12, .val (.sl true 2 (.int .i64)) r1), (13, .val (.int .i64) (List.length r1 : Int)), (14, .val (.int .i64) v112)]) (fun v h => by obtain ⟨v110, v111, v112⟩ := v; rw [f171.l66] at h; cases h) ?_ hF (h.arrive (fz := []) (l := [0, 1, 5, 6, 12, 13, 14]) (.inr fun i h => h) (by kernel_rfl))
  intro m66 v a w hF h
  obtain ⟨v110, v111, v112⟩ := v
  rw [f171.l66] at hF
  refine wp_reg_seq tok (orc := orcL []) (fz := []) (l := [0, 1, 5, 6, 12, 13, 14, 15]) (c := _) (.inr fun i h => h) h (by kernel_rfl) (AllP.nil) ?_
  intro a w h
  refine wp_seq <| wp_if h (b := (decide ((v112 : Int) < (List.length r1 : Int)))) (by kernel_rfl) (fun hb => ?_) (fun hb => ?_)
  · replace hF := of_t hb hF
    refine wp_skip ?_
    refine wp_mid (fun a w => ∃ v : (Int × Int), f171.j122 k v112 ((f171.l66 k r1 x0 x1) m66) v = some r ∧ Rel w0 (fun _ => False) Zi Try.f171.ntmps ((fun ((v120, v121) : (Int × Int)) => ([(0, .val sh23 (some x0)), (1, .val (.int .i64) x1), (5, .val (.int .i64) v120), (6, .val (.int .i64) v121), (12, .val (.sl true 2 (.int .i64)) r1), (13, .val (.int .i64) (List.length r1 : Int)), (14, .val (.int .i64) v112)] : SS)) v) a w) ?_ ?_
    ·
      refine wp_block ?_
      obtain ⟨hc129, hF⟩ := of_if hF
      refine wp_reg_seq tok (orc := orcL []) (fz := []) (l := [0, 1, 5, 6, 8, 12, 13, 14]) (c := _) (.inr fun i h => h) h (by kernel_rfl) (AllP.cons hc129 AllP.nil) ?_
      intro a w h
      refine wp_seq ?_
      obtain ⟨hc127, hF⟩ := of_if hF
      obtain ⟨hc128, hF⟩ := of_if hF
      refine wp_regy_seq tok (orc := orcL []) (fz := []) (l := [0, 1, 5, 6, 8, 12, 13, 14, 36]) (c := _) ([], [], [], []) 19 (.inr fun i h => h) h (by kernel_rfl) (by kernel_rfl) (AllP.cons hc127 (AllP.cons hc128 AllP.nil)) ?_
      intro a w h
      refine wp_if h (b := (!(ByteArray.toList (List.getD x0.1.2.1 (Int.toNat (List.getD r1 (Int.toNat v112) (0 : Int))) ((0 : Int), ((0 : Int), ((0 : Int), ((0 : Int), ((0 : Int), (⟨#[]⟩ : ByteArray))))))).2.2.2.2.2 == ByteArray.toList (List.getD x0.1.2.1 (Int.toNat x1) ((0 : Int), ((0 : Int), ((0 : Int), ((0 : Int), ((0 : Int), (⟨#[]⟩ : ByteArray))))))).2.2.2.2.2))) (by kernel_rfl) (fun hb => ?_) (fun hb => ?_)
      · replace hF := of_t hb hF
        refine wp_exit ?_
        exact ⟨(v110, v111), hF, h.arrive (fz := []) (l := [0, 1, 5, 6, 12, 13, 14]) (.inr fun i h => h) (by kernel_rfl)⟩
      · replace hF := of_f hb hF
        refine wp_skip ?_
        obtain ⟨r123, hr126, hF⟩ := of_bind hF
        refine wp_reg_seq tok (orc := orcL [(40, [⟨(.int .i64), r123⟩])]) (fz := []) (l := [0, 1, 5, 6, 8, 9, 12, 13, 14]) (c := _) (.inr fun i h => h) h (by kernel_rfl) (AllP.cons (c172 k x0 x1 (List.getD r1 (Int.toNat v112) (0 : Int)) r123 hr126) AllP.nil) ?_
        intro a w h
        refine wp_seq ?_
        refine wp_reg_seq tok (orc := orcL []) (fz := []) (l := [0, 1, 5, 6, 8, 9, 12, 13, 14, 48]) (c := _) (.inr fun i h => h) h (by kernel_rfl) (AllP.nil) ?_
        intro a w h
        refine wp_midT (fun a w => ∃ v : Int, f171.j125 k v110 r1 v112 v111 (f171.j122 k v112 ((f171.l66 k r1 x0 x1) m66)) v = some r ∧ Rel w0 (fun _ => False) Zi Try.f171.ntmps ((fun (v124 : Int) => ([(0, .val sh23 (some x0)), (1, .val (.int .i64) x1), (5, .val (.int .i64) v110), (6, .val (.int .i64) v111), (8, .val (.int .i64) (List.getD r1 (Int.toNat v112) (0 : Int))), (9, .val (.int .i64) v124), (12, .val (.sl true 2 (.int .i64)) r1), (13, .val (.int .i64) (List.length r1 : Int)), (14, .val (.int .i64) v112)] : SS)) v) a w) ?_ ?_
        ·
          refine wp_if h (b := (bif (decide ((r123 : Int) < (8 : Int))) then (decide (((IntKind.i64.wrap ((8 : Int) - r123)) : Int) < r123)) else false)) (by kernel_rfl) (fun hb => ?_) (fun hb => ?_)
          · replace hF := of_t hb hF
            refine wp_reg tok (orc := orcL []) (fz := []) (l := [0, 1, 5, 6, 8, 9, 12, 13, 14]) (c := _) (.inr fun i h => h) h (by kernel_rfl) (AllP.nil) ?_
            intro a w h
            exact ⟨(IntKind.i64.wrap ((8 : Int) - r123)), hF, h.arrive (fz := []) (l := [0, 1, 5, 6, 8, 9, 12, 13, 14]) (.inr fun i h => h) (by kernel_rfl)⟩
          · replace hF := of_f hb hF
            refine wp_skip ?_
            exact ⟨r123, hF, h.arrive (fz := []) (l := [0, 1, 5, 6, 8, 9, 12, 13, 14]) (.inr fun i h => h) (by kernel_rfl)⟩
        · rintro a w ⟨v124, hF, h⟩
          rw [f171.j125] at hF
          refine wp_reg_seq tok (orc := orcL []) (fz := []) (l := [0, 1, 5, 6, 8, 9, 12, 13, 14, 53]) (c := _) (.inr fun i h => h) h (by kernel_rfl) (AllP.nil) ?_
          intro a w h
          refine wp_if h (b := (decide ((v124 : Int) < v110))) (by kernel_rfl) (fun hb => ?_) (fun hb => ?_)
          · replace hF := of_t hb hF
            refine wp_reg tok (orc := orcL []) (fz := []) (l := [0, 1, 5, 6, 12, 13, 14]) (c := _) (.inr fun i h => h) h (by kernel_rfl) (AllP.nil) ?_
            intro a w h
            exact ⟨(v124, (List.getD r1 (Int.toNat v112) (0 : Int))), hF, h.arrive (fz := []) (l := [0, 1, 5, 6, 12, 13, 14]) (.inr fun i h => h) (by kernel_rfl)⟩
          · replace hF := of_f hb hF
            refine wp_skip ?_
            exact ⟨(v110, v111), hF, h.arrive (fz := []) (l := [0, 1, 5, 6, 12, 13, 14]) (.inr fun i h => h) (by kernel_rfl)⟩
    · rintro a w ⟨v, hF, h⟩
      obtain ⟨v120, v121⟩ := v
      rw [f171.j122] at hF
      refine wp_reg tok (orc := orcL []) (fz := []) (l := [0, 1, 5, 6, 12, 13, 14]) (c := _) (.inr fun i h => h) h (by kernel_rfl) (AllP.nil) ?_
      intro a w h
      exact ⟨(v120, v121, (IntKind.i64.wrap (v112 + (1 : Int)))), hF, h.arrive (fz := []) (l := [0, 1, 5, 6, 12, 13, 14]) (.inr fun i h => h) (by kernel_rfl)⟩
  · replace hF := of_f hb hF
    refine wp_exit ?_
    refine wp_reg_seq tok (orc := orcL []) (fz := []) (l := [4]) (c := _) (.inr fun i h => h) h (by kernel_rfl) (AllP.nil) ?_
    intro a w h
    cases hF
    exact wp_ret (ret_okR tok h rfl (by kernel_rfl)).1

def f83.j1779 (k : Nat) (v1618 : Int) (q970 : ((List (Int × (Int × (ByteArray × (Int × Int))))) × Int) → Option (List (Int × (Int × (ByteArray × (Int × Int)))))) : (List (Int × (Int × (ByteArray × (Int × Int))))) → Option (List (Int × (Int × (ByteArray × (Int × Int)))))
  | v1778 => q970 (v1778, (IntKind.i64.wrap (v1618 + (1 : Int))))
def f83.j1866 (k : Nat) (v1617 : (List (Int × (Int × (ByteArray × (Int × Int)))))) (x0 : (((List (Int × (Int × Int))) × ((List (Int × (Int × (Int × (Int × (Int × ByteArray)))))) × (List (Int × Int)))) × ((List (List Int)) × ((List (List Int)) × (Option (List ((Int × Int) × Bool))))))) (x1 : (List Int)) (v1618 : Int) (q1779 : (List (Int × (Int × (ByteArray × (Int × Int))))) → Option (List (Int × (Int × (ByteArray × (Int × Int)))))) : (Int × Int) → Option (List (Int × (Int × (ByteArray × (Int × Int)))))
  | (v1864, v1865) => if ((List.length v1617 + List.length [(v1864, (v1865, ((List.getD x0.1.2.1 (Int.toNat (List.getD x1 (Int.toNat v1618) (0 : Int))) ((0 : Int), ((0 : Int), ((0 : Int), ((0 : Int), ((0 : Int), (⟨#[]⟩ : ByteArray))))))).2.2.2.2.2, ((1 : Int), (List.getD x0.1.2.1 (Int.toNat (List.getD x1 (Int.toNat v1618) (0 : Int))) ((0 : Int), ((0 : Int), ((0 : Int), ((0 : Int), ((0 : Int), (⟨#[]⟩ : ByteArray))))))).2.2.2.2.1))))]) * 48 ≤ 140737488355328) then (q1779 (v1617 ++ [(v1864, (v1865, ((List.getD x0.1.2.1 (Int.toNat (List.getD x1 (Int.toNat v1618) (0 : Int))) ((0 : Int), ((0 : Int), ((0 : Int), ((0 : Int), ((0 : Int), (⟨#[]⟩ : ByteArray))))))).2.2.2.2.2, ((1 : Int), (List.getD x0.1.2.1 (Int.toNat (List.getD x1 (Int.toNat v1618) (0 : Int))) ((0 : Int), ((0 : Int), ((0 : Int), ((0 : Int), ((0 : Int), (⟨#[]⟩ : ByteArray))))))).2.2.2.2.1))))])) else none
def f83.j1887 (k : Nat) (v1884 : Int) (q1868 : (Int × Int) → Option (List (Int × (Int × (ByteArray × (Int × Int)))))) : Int → Option (List (Int × (Int × (ByteArray × (Int × Int)))))
  | v1886 => q1868 (v1886, (IntKind.i64.wrap (v1884 + (1 : Int))))
def f83.l1868 (k : Nat) (x0 : (((List (Int × (Int × Int))) × ((List (Int × (Int × (Int × (Int × (Int × ByteArray)))))) × (List (Int × Int)))) × ((List (List Int)) × ((List (List Int)) × (Option (List ((Int × Int) × Bool))))))) (x1 : (List Int)) (v1618 : Int) (q1866 : (Int × Int) → Option (List (Int × (Int × (ByteArray × (Int × Int)))))) : Nat → (Int × Int) → Option (List (Int × (Int × (ByteArray × (Int × Int)))))
  | 0, _ => none
  | m1868 + 1, (v1883, v1884) => if (decide ((v1884 : Int) < (List.length (List.getD x0.2.1 (Int.toNat (List.getD x0.1.2.1 (Int.toNat (List.getD x1 (Int.toNat v1618) (0 : Int))) ((0 : Int), ((0 : Int), ((0 : Int), ((0 : Int), ((0 : Int), (⟨#[]⟩ : ByteArray))))))).1) ([] : (List Int))) : Int))) then (if (0 ≤ v1884 ∧ v1884 < (List.length (List.getD x0.2.1 (Int.toNat (List.getD x0.1.2.1 (Int.toNat (List.getD x1 (Int.toNat v1618) (0 : Int))) ((0 : Int), ((0 : Int), ((0 : Int), ((0 : Int), ((0 : Int), (⟨#[]⟩ : ByteArray))))))).1) ([] : (List Int))) : Int)) then (if (decide (((List.getD (List.getD x0.2.1 (Int.toNat (List.getD x0.1.2.1 (Int.toNat (List.getD x1 (Int.toNat v1618) (0 : Int))) ((0 : Int), ((0 : Int), ((0 : Int), ((0 : Int), ((0 : Int), (⟨#[]⟩ : ByteArray))))))).1) ([] : (List Int))) (Int.toNat v1884) (0 : Int)) : Int) < (List.getD x1 (Int.toNat v1618) (0 : Int)))) then (f83.j1887 k v1884 ((f83.l1868 k x0 x1 v1618 q1866) m1868) (IntKind.i64.wrap (v1883 + (1 : Int)))) else (f83.j1887 k v1884 ((f83.l1868 k x0 x1 v1618 q1866) m1868) v1883)) else none) else (q1866 ((9 : Int), v1883))
def f83.j1926 (k : Nat) (v1920 : Int) (q1892 : (Int × Int) → Option (List (Int × (Int × (ByteArray × (Int × Int)))))) : Int → Option (List (Int × (Int × (ByteArray × (Int × Int)))))
  | v1925 => q1892 (v1925, (IntKind.i64.wrap (v1920 + (1 : Int))))
def f83.l1892 (k : Nat) (r1891 : (List Int)) (x1 : (List Int)) (v1618 : Int) (x0 : (((List (Int × (Int × Int))) × ((List (Int × (Int × (Int × (Int × (Int × ByteArray)))))) × (List (Int × Int)))) × ((List (List Int)) × ((List (List Int)) × (Option (List ((Int × Int) × Bool))))))) (r1890 : Int) (q1866 : (Int × Int) → Option (List (Int × (Int × (ByteArray × (Int × Int)))))) : Nat → (Int × Int) → Option (List (Int × (Int × (ByteArray × (Int × Int)))))
  | 0, _ => none
  | m1892 + 1, (v1919, v1920) => if (decide ((v1920 : Int) < (List.length r1891 : Int))) then (if (0 ≤ v1920 ∧ v1920 < (List.length r1891 : Int)) then (if (((decide (((List.getD r1891 (Int.toNat v1920) (0 : Int)) : Int) < (List.getD x1 (Int.toNat v1618) (0 : Int)))) = true) → (0 ≤ (IntKind.i64.wrap (v1618 - (1 : Int))) ∧ (IntKind.i64.wrap (v1618 - (1 : Int))) < (List.length x1 : Int))) then ((if ((decide (((List.getD r1891 (Int.toNat v1920) (0 : Int)) : Int) < (List.getD x1 (Int.toNat v1618) (0 : Int)))) = true) then f172 k x0 (List.getD x1 (Int.toNat (IntKind.i64.wrap (v1618 - (1 : Int)))) (0 : Int)) (List.getD r1891 (Int.toNat v1920) (0 : Int)) else some default).bind fun r1927 => (if (bif (decide (((List.getD r1891 (Int.toNat v1920) (0 : Int)) : Int) < (List.getD x1 (Int.toNat v1618) (0 : Int)))) then ((r1927 : Int) == r1890) else false) then (f83.j1926 k v1920 ((f83.l1892 k r1891 x1 v1618 x0 r1890 q1866) m1892) (IntKind.i64.wrap (v1919 + (1 : Int)))) else (f83.j1926 k v1920 ((f83.l1892 k r1891 x1 v1618 x0 r1890 q1866) m1892) v1919))) else none) else none) else (q1866 (r1890, v1919))
def f83.l970 (k : Nat) (x1 : (List Int)) (x0 : (((List (Int × (Int × Int))) × ((List (Int × (Int × (Int × (Int × (Int × ByteArray)))))) × (List (Int × Int)))) × ((List (List Int)) × ((List (List Int)) × (Option (List ((Int × Int) × Bool))))))) : Nat → ((List (Int × (Int × (ByteArray × (Int × Int))))) × Int) → Option (List (Int × (Int × (ByteArray × (Int × Int)))))
  | 0, _ => none
  | m970 + 1, (v1617, v1618) => if (decide ((v1618 : Int) < (List.length x1 : Int))) then (if (0 ≤ v1618 ∧ v1618 < (List.length x1 : Int)) then (if (0 ≤ (List.getD x1 (Int.toNat v1618) (0 : Int)) ∧ (List.getD x1 (Int.toNat v1618) (0 : Int)) < (List.length x0.1.2.1 : Int)) then (if (((decide ((v1618 : Int) > (0 : Int))) = true) → (0 ≤ (IntKind.i64.wrap (v1618 - (1 : Int))) ∧ (IntKind.i64.wrap (v1618 - (1 : Int))) < (List.length x1 : Int))) then ((if ((decide ((v1618 : Int) > (0 : Int))) = true) then f171 k x0 (List.getD x1 (Int.toNat (IntKind.i64.wrap (v1618 - (1 : Int)))) (0 : Int)) else some default).bind fun r1780 => (if (bif (decide ((v1618 : Int) > (0 : Int))) then ((r1780 : Int) == (List.getD x1 (Int.toNat v1618) (0 : Int))) else false) then (if (0 ≤ (IntKind.i64.wrap ((List.length v1617 : Int) - (1 : Int))) ∧ (IntKind.i64.wrap ((List.length v1617 : Int) - (1 : Int))) < (List.length v1617 : Int)) then (if (0 ≤ (IntKind.i64.wrap ((List.length v1617 : Int) - (1 : Int))) ∧ (IntKind.i64.wrap ((List.length v1617 : Int) - (1 : Int))) < (List.length v1617 : Int)) then ((some ((List.set v1617 (Int.toNat (IntKind.i64.wrap ((List.length v1617 : Int) - (1 : Int)))) ((List.getD v1617 (Int.toNat (IntKind.i64.wrap ((List.length v1617 : Int) - (1 : Int)))) ((0 : Int), ((0 : Int), ((⟨#[]⟩ : ByteArray), ((0 : Int), (0 : Int)))))).1, ((List.getD v1617 (Int.toNat (IntKind.i64.wrap ((List.length v1617 : Int) - (1 : Int)))) ((0 : Int), ((0 : Int), ((⟨#[]⟩ : ByteArray), ((0 : Int), (0 : Int)))))).2.1, ((List.getD v1617 (Int.toNat (IntKind.i64.wrap ((List.length v1617 : Int) - (1 : Int)))) ((0 : Int), ((0 : Int), ((⟨#[]⟩ : ByteArray), ((0 : Int), (0 : Int)))))).2.2.1, ((IntKind.i64.wrap ((List.getD v1617 (Int.toNat (IntKind.i64.wrap ((List.length v1617 : Int) - (1 : Int)))) ((0 : Int), ((0 : Int), ((⟨#[]⟩ : ByteArray), ((0 : Int), (0 : Int)))))).2.2.2.1 + (1 : Int))), (List.getD v1617 (Int.toNat (IntKind.i64.wrap ((List.length v1617 : Int) - (1 : Int)))) ((0 : Int), ((0 : Int), ((⟨#[]⟩ : ByteArray), ((0 : Int), (0 : Int)))))).2.2.2.2))))) : (List (Int × (Int × (ByteArray × (Int × Int))))))).bind fun v1789 => (if (0 ≤ (IntKind.i64.wrap ((List.length v1789 : Int) - (1 : Int))) ∧ (IntKind.i64.wrap ((List.length v1789 : Int) - (1 : Int))) < (List.length v1789 : Int)) then (if (0 ≤ (IntKind.i64.wrap ((List.length v1789 : Int) - (1 : Int))) ∧ (IntKind.i64.wrap ((List.length v1789 : Int) - (1 : Int))) < (List.length v1789 : Int)) then ((some ((List.set v1789 (Int.toNat (IntKind.i64.wrap ((List.length v1789 : Int) - (1 : Int)))) ((List.getD v1789 (Int.toNat (IntKind.i64.wrap ((List.length v1789 : Int) - (1 : Int)))) ((0 : Int), ((0 : Int), ((⟨#[]⟩ : ByteArray), ((0 : Int), (0 : Int)))))).1, ((List.getD v1789 (Int.toNat (IntKind.i64.wrap ((List.length v1789 : Int) - (1 : Int)))) ((0 : Int), ((0 : Int), ((⟨#[]⟩ : ByteArray), ((0 : Int), (0 : Int)))))).2.1, ((List.getD v1789 (Int.toNat (IntKind.i64.wrap ((List.length v1789 : Int) - (1 : Int)))) ((0 : Int), ((0 : Int), ((⟨#[]⟩ : ByteArray), ((0 : Int), (0 : Int)))))).2.2.1, ((List.getD v1789 (Int.toNat (IntKind.i64.wrap ((List.length v1789 : Int) - (1 : Int)))) ((0 : Int), ((0 : Int), ((⟨#[]⟩ : ByteArray), ((0 : Int), (0 : Int)))))).2.2.2.1, (IntKind.i64.wrap ((List.getD v1789 (Int.toNat (IntKind.i64.wrap ((List.length v1789 : Int) - (1 : Int)))) ((0 : Int), ((0 : Int), ((⟨#[]⟩ : ByteArray), ((0 : Int), (0 : Int)))))).2.2.2.2 + (List.getD x0.1.2.1 (Int.toNat (List.getD x1 (Int.toNat v1618) (0 : Int))) ((0 : Int), ((0 : Int), ((0 : Int), ((0 : Int), ((0 : Int), (⟨#[]⟩ : ByteArray))))))).2.2.2.2.1))))))) : (List (Int × (Int × (ByteArray × (Int × Int))))))).bind fun v1790 => (f83.j1779 k v1618 ((f83.l970 k x1 x0) m970) v1790)) else none) else none)) else none) else none) else (if ((v1618 : Int) == (0 : Int)) then (if (0 ≤ (List.getD x0.1.2.1 (Int.toNat (List.getD x1 (Int.toNat v1618) (0 : Int))) ((0 : Int), ((0 : Int), ((0 : Int), ((0 : Int), ((0 : Int), (⟨#[]⟩ : ByteArray))))))).1 ∧ (List.getD x0.1.2.1 (Int.toNat (List.getD x1 (Int.toNat v1618) (0 : Int))) ((0 : Int), ((0 : Int), ((0 : Int), ((0 : Int), ((0 : Int), (⟨#[]⟩ : ByteArray))))))).1 < (List.length x0.2.1 : Int)) then (f83.l1868 k x0 x1 v1618 (f83.j1866 k v1617 x0 x1 v1618 (f83.j1779 k v1618 ((f83.l970 k x1 x0) m970))) k ((0 : Int), (0 : Int))) else none) else (if (0 ≤ (IntKind.i64.wrap (v1618 - (1 : Int))) ∧ (IntKind.i64.wrap (v1618 - (1 : Int))) < (List.length x1 : Int)) then ((f172 k x0 (List.getD x1 (Int.toNat (IntKind.i64.wrap (v1618 - (1 : Int)))) (0 : Int)) (List.getD x1 (Int.toNat v1618) (0 : Int))).bind fun r1890 => (if (0 ≤ (IntKind.i64.wrap (v1618 - (1 : Int))) ∧ (IntKind.i64.wrap (v1618 - (1 : Int))) < (List.length x1 : Int)) then ((f173 k x0 (List.getD x1 (Int.toNat (IntKind.i64.wrap (v1618 - (1 : Int)))) (0 : Int))).bind fun r1891 => (f83.l1892 k r1891 x1 v1618 x0 r1890 (f83.j1866 k v1617 x0 x1 v1618 (f83.j1779 k v1618 ((f83.l970 k x1 x0) m970))) k ((0 : Int), (0 : Int)))) else none)) else none)))) else none) else none) else none) else (some v1617)
def f83 (k : Nat) (x0 : (((List (Int × (Int × Int))) × ((List (Int × (Int × (Int × (Int × (Int × ByteArray)))))) × (List (Int × Int)))) × ((List (List Int)) × ((List (List Int)) × (Option (List ((Int × Int) × Bool))))))) (x1 : (List Int)) : Option (List (Int × (Int × (ByteArray × (Int × Int))))) := f83.l970 k x1 x0 k (([] : (List (Int × (Int × (ByteArray × (Int × Int)))))), (0 : Int))
set_option maxRecDepth 100000 in
/-- 'impl.myNet).guide'. -/
theorem c83 (k : Nat) (x0 : (((List (Int × (Int × Int))) × ((List (Int × (Int × (Int × (Int × (Int × ByteArray)))))) × (List (Int × Int)))) × ((List (List Int)) × ((List (List Int)) × (Option (List ((Int × Int) × Bool))))))) (x1 : (List Int)) (r : (List (Int × (Int × (ByteArray × (Int × Int)))))) (hF : f83 k x0 x1 = some r) : PCall Try.prog 83 [⟨sh23, some x0⟩, ⟨(.sl false 2 (.int .i64)), x1⟩] [⟨sh16, r⟩] := by
  refine pcall_intro Try.func83 rfl rfl (Nat.le_of_ble_eq_true rfl) ?_
  intro w0 Zi a w h
  rw [f83] at hF
  refine wp_reg_seq tok (orc := orcL []) (fz := []) (l := [0, 1]) (c := _) (.inr fun i h => h) h (by kernel_rfl) (AllP.nil) ?_
  intro a w h
  refine wp_reg_seq tok (orc := orcL []) (fz := []) (l := [0, 1, 5]) (c := _) (.inr fun i h => h) h (by kernel_rfl) (AllP.nil) ?_
  intro a w h
  refine wp_seq ?_
  refine wp_reg_seq tok (orc := orcL []) (fz := []) (l := [0, 1, 5, 14, 15, 16]) (c := _) (.inr fun i h => h) h (by kernel_rfl) (AllP.nil) ?_
  intro a w h
  refine wp_block ?_
  refine wp_loop_fuel (f83.l970 k x1 x0) (fun ((v1617, v1618) : ((List (Int × (Int × (ByteArray × (Int × Int))))) × Int)) => [(0, .val sh23 (some x0)), (1, .val (.sl false 2 (.int .i64)) x1), (5, .val sh16 v1617), (14, .val (.sl false 2 (.int .i64)) x1), (15, .val (.int .i64) (List.length x1 : Int)), (16, .val (.int .i64) v1618)]) (fun v h => by obtain ⟨v1617, v1618⟩ := v; rw [f83.l970] at h; cases h) ?_ hF (h.arrive (fz := []) (l := [0, 1, 5, 14, 15, 16]) (.inr fun i h => h) (by kernel_rfl))
  intro m970 v a w hF h
  obtain ⟨v1617, v1618⟩ := v
  rw [f83.l970] at hF
  refine wp_reg_seq tok (orc := orcL []) (fz := []) (l := [0, 1, 5, 14, 15, 16, 17]) (c := _) (.inr fun i h => h) h (by kernel_rfl) (AllP.nil) ?_
  intro a w h
  refine wp_seq <| wp_if h (b := (decide ((v1618 : Int) < (List.length x1 : Int)))) (by kernel_rfl) (fun hb => ?_) (fun hb => ?_)
  · replace hF := of_t hb hF
    refine wp_skip ?_
    refine wp_mid (fun a w => ∃ v : (List (Int × (Int × (ByteArray × (Int × Int))))), f83.j1779 k v1618 ((f83.l970 k x1 x0) m970) v = some r ∧ Rel w0 (fun _ => False) Zi Try.f83.ntmps ((fun (v1778 : (List (Int × (Int × (ByteArray × (Int × Int)))))) => ([(0, .val sh23 (some x0)), (1, .val (.sl false 2 (.int .i64)) x1), (5, .val sh16 v1778), (14, .val (.sl false 2 (.int .i64)) x1), (15, .val (.int .i64) (List.length x1 : Int)), (16, .val (.int .i64) v1618)] : SS)) v) a w) ?_ ?_
    ·
      refine wp_block ?_
      obtain ⟨hc1938, hF⟩ := of_if hF
      refine wp_reg_seq tok (orc := orcL []) (fz := []) (l := [0, 1, 5, 6, 7, 14, 15, 16]) (c := _) (.inr fun i h => h) h (by kernel_rfl) (AllP.cons hc1938 AllP.nil) ?_
      intro a w h
      obtain ⟨hc1937, hF⟩ := of_if hF
      refine wp_reg_seq tok (orc := orcL []) (fz := []) (l := [0, 1, 5, 6, 7, 8, 14, 15, 16]) (c := _) (.inr fun i h => h) h (by kernel_rfl) (AllP.cons hc1937 AllP.nil) ?_
      intro a w h
      refine wp_seq ?_
      obtain ⟨hc1935, hF⟩ := of_if hF
      obtain ⟨r1780, hr1936, hF⟩ := of_bind hF
      refine wp_reg_seq tok (orc := orcL [(38, [⟨(.int .i64), r1780⟩])]) (fz := []) (l := [0, 1, 5, 6, 7, 8, 14, 15, 16, 41]) (c := _) (.inr fun i h => h) h (by kernel_rfl) (AllP.cons hc1935 (AllP.cons (fun (hg : ((decide ((v1618 : Int) > (0 : Int))) = true)) => c171 k x0 (List.getD x1 (Int.toNat (IntKind.i64.wrap (v1618 - (1 : Int)))) (0 : Int)) r1780 (of_g hg hr1936)) AllP.nil)) ?_
      intro a w h
      refine wp_if h (b := (bif (decide ((v1618 : Int) > (0 : Int))) then ((r1780 : Int) == (List.getD x1 (Int.toNat v1618) (0 : Int))) else false)) (by kernel_rfl) (fun hb => ?_) (fun hb => ?_)
      · replace hF := of_t hb hF
        obtain ⟨hc1795, hF⟩ := of_if hF
        obtain ⟨hc1796, hF⟩ := of_if hF
        refine wp_reg_seq tok (orc := orcL []) (fz := []) (l := [0, 1, 5, 8, 14, 15, 16]) (c := _) (.inr fun i h => h) h (by kernel_rfl) (AllP.cons hc1795 (AllP.cons hc1796 AllP.nil)) ?_
        intro a w h
        obtain ⟨v1789, hv1794, hF⟩ := of_bind hF
        replace h := h.cast (S' := [(0, .val sh23 (some x0)), (1, .val (.sl false 2 (.int .i64)) x1), (5, .val sh16 v1789), (8, .val sh17 (some (List.getD x0.1.2.1 (Int.toNat (List.getD x1 (Int.toNat v1618) (0 : Int))) ((0 : Int), ((0 : Int), ((0 : Int), ((0 : Int), ((0 : Int), (⟨#[]⟩ : ByteArray))))))))), (14, .val (.sl false 2 (.int .i64)) x1), (15, .val (.int .i64) (List.length x1 : Int)), (16, .val (.int .i64) v1618)]) (by cases hv1794; kernel_rfl)
        obtain ⟨hc1792, hF⟩ := of_if hF
        obtain ⟨hc1793, hF⟩ := of_if hF
        refine wp_regy_seq tok (orc := orcL []) (fz := []) (l := [0, 1, 5, 14, 15, 16]) (c := _) ([], [], [], []) 12 (.inr fun i h => h) h (by kernel_rfl) (by kernel_rfl) (AllP.cons hc1792 (AllP.cons hc1793 AllP.nil)) ?_
        intro a w h
        obtain ⟨v1790, hv1791, hF⟩ := of_bind hF
        replace h := h.cast (S' := [(0, .val sh23 (some x0)), (1, .val (.sl false 2 (.int .i64)) x1), (5, .val sh16 v1790), (14, .val (.sl false 2 (.int .i64)) x1), (15, .val (.int .i64) (List.length x1 : Int)), (16, .val (.int .i64) v1618)]) (by cases hv1791; kernel_rfl)
        refine wp_exit ?_
        exact ⟨v1790, hF, h.arrive (fz := []) (l := [0, 1, 5, 14, 15, 16]) (.inr fun i h => h) (by kernel_rfl)⟩
      · replace hF := of_f hb hF
        refine wp_skip ?_
        refine wp_reg_seq tok (orc := orcL []) (fz := []) (l := [0, 1, 5, 6, 7, 8, 9, 14, 15, 16]) (c := _) (.inr fun i h => h) h (by kernel_rfl) (AllP.nil) ?_
        intro a w h
        refine wp_seq ?_
        refine wp_reg_seq tok (orc := orcL []) (fz := []) (l := [0, 1, 5, 6, 7, 8, 9, 14, 15, 16, 70]) (c := _) (.inr fun i h => h) h (by kernel_rfl) (AllP.nil) ?_
        intro a w h
        refine wp_midT (fun a w => ∃ v : (Int × Int), f83.j1866 k v1617 x0 x1 v1618 (f83.j1779 k v1618 ((f83.l970 k x1 x0) m970)) v = some r ∧ Rel w0 (fun _ => False) Zi Try.f83.ntmps ((fun ((v1864, v1865) : (Int × Int)) => ([(0, .val sh23 (some x0)), (1, .val (.sl false 2 (.int .i64)) x1), (5, .val sh16 v1617), (9, .val sh18 (some (v1864, (v1865, ((List.getD x0.1.2.1 (Int.toNat (List.getD x1 (Int.toNat v1618) (0 : Int))) ((0 : Int), ((0 : Int), ((0 : Int), ((0 : Int), ((0 : Int), (⟨#[]⟩ : ByteArray))))))).2.2.2.2.2, ((1 : Int), (List.getD x0.1.2.1 (Int.toNat (List.getD x1 (Int.toNat v1618) (0 : Int))) ((0 : Int), ((0 : Int), ((0 : Int), ((0 : Int), ((0 : Int), (⟨#[]⟩ : ByteArray))))))).2.2.2.2.1)))))), (14, .val (.sl false 2 (.int .i64)) x1), (15, .val (.int .i64) (List.length x1 : Int)), (16, .val (.int .i64) v1618)] : SS)) v) a w) ?_ ?_
        ·
          refine wp_if h (b := ((v1618 : Int) == (0 : Int))) (by kernel_rfl) (fun hb => ?_) (fun hb => ?_)
          · replace hF := of_t hb hF
            obtain ⟨hc1889, hF⟩ := of_if hF
            refine wp_regy_seq tok (orc := orcL []) (fz := []) (l := [0, 1, 5, 7, 9, 14, 15, 16, 78, 79, 80]) (c := _) ([], [], [], []) 10 (.inr fun i h => h) h (by kernel_rfl) (by kernel_rfl) (AllP.cons hc1889 AllP.nil) ?_
            intro a w h
            refine wp_block ?_
            refine wp_loop_fuel (f83.l1868 k x0 x1 v1618 (f83.j1866 k v1617 x0 x1 v1618 (f83.j1779 k v1618 ((f83.l970 k x1 x0) m970)))) (fun ((v1883, v1884) : (Int × Int)) => [(0, .val sh23 (some x0)), (1, .val (.sl false 2 (.int .i64)) x1), (5, .val sh16 v1617), (7, .val (.int .i64) (List.getD x1 (Int.toNat v1618) (0 : Int))), (9, .val sh18 (some ((9 : Int), (v1883, ((List.getD x0.1.2.1 (Int.toNat (List.getD x1 (Int.toNat v1618) (0 : Int))) ((0 : Int), ((0 : Int), ((0 : Int), ((0 : Int), ((0 : Int), (⟨#[]⟩ : ByteArray))))))).2.2.2.2.2, ((1 : Int), (List.getD x0.1.2.1 (Int.toNat (List.getD x1 (Int.toNat v1618) (0 : Int))) ((0 : Int), ((0 : Int), ((0 : Int), ((0 : Int), ((0 : Int), (⟨#[]⟩ : ByteArray))))))).2.2.2.2.1)))))), (14, .val (.sl false 2 (.int .i64)) x1), (15, .val (.int .i64) (List.length x1 : Int)), (16, .val (.int .i64) v1618), (78, .val (.sl false 2 (.int .i64)) (List.getD x0.2.1 (Int.toNat (List.getD x0.1.2.1 (Int.toNat (List.getD x1 (Int.toNat v1618) (0 : Int))) ((0 : Int), ((0 : Int), ((0 : Int), ((0 : Int), ((0 : Int), (⟨#[]⟩ : ByteArray))))))).1) ([] : (List Int)))), (79, .val (.int .i64) (List.length (List.getD x0.2.1 (Int.toNat (List.getD x0.1.2.1 (Int.toNat (List.getD x1 (Int.toNat v1618) (0 : Int))) ((0 : Int), ((0 : Int), ((0 : Int), ((0 : Int), ((0 : Int), (⟨#[]⟩ : ByteArray))))))).1) ([] : (List Int))) : Int)), (80, .val (.int .i64) v1884)]) (fun v h => by obtain ⟨v1883, v1884⟩ := v; rw [f83.l1868] at h; cases h) ?_ hF (h.arrive (fz := []) (l := [0, 1, 5, 7, 9, 14, 15, 16, 78, 79, 80]) (.inr fun i h => h) (by kernel_rfl))
            intro m1868 v a w hF h
            obtain ⟨v1883, v1884⟩ := v
            rw [f83.l1868] at hF
            refine wp_reg_seq tok (orc := orcL []) (fz := []) (l := [0, 1, 5, 7, 9, 14, 15, 16, 78, 79, 80, 81]) (c := _) (.inr fun i h => h) h (by kernel_rfl) (AllP.nil) ?_
            intro a w h
            refine wp_seq <| wp_if h (b := (decide ((v1884 : Int) < (List.length (List.getD x0.2.1 (Int.toNat (List.getD x0.1.2.1 (Int.toNat (List.getD x1 (Int.toNat v1618) (0 : Int))) ((0 : Int), ((0 : Int), ((0 : Int), ((0 : Int), ((0 : Int), (⟨#[]⟩ : ByteArray))))))).1) ([] : (List Int))) : Int)))) (by kernel_rfl) (fun hb => ?_) (fun hb => ?_)
            · replace hF := of_t hb hF
              refine wp_skip ?_
              refine wp_mid (fun a w => ∃ v : Int, f83.j1887 k v1884 ((f83.l1868 k x0 x1 v1618 (f83.j1866 k v1617 x0 x1 v1618 (f83.j1779 k v1618 ((f83.l970 k x1 x0) m970)))) m1868) v = some r ∧ Rel w0 (fun _ => False) Zi Try.f83.ntmps ((fun (v1886 : Int) => ([(0, .val sh23 (some x0)), (1, .val (.sl false 2 (.int .i64)) x1), (5, .val sh16 v1617), (7, .val (.int .i64) (List.getD x1 (Int.toNat v1618) (0 : Int))), (9, .val sh18 (some ((9 : Int), (v1886, ((List.getD x0.1.2.1 (Int.toNat (List.getD x1 (Int.toNat v1618) (0 : Int))) ((0 : Int), ((0 : Int), ((0 : Int), ((0 : Int), ((0 : Int), (⟨#[]⟩ : ByteArray))))))).2.2.2.2.2, ((1 : Int), (List.getD x0.1.2.1 (Int.toNat (List.getD x1 (Int.toNat v1618) (0 : Int))) ((0 : Int), ((0 : Int), ((0 : Int), ((0 : Int), ((0 : Int), (⟨#[]⟩ : ByteArray))))))).2.2.2.2.1)))))), (14, .val (.sl false 2 (.int .i64)) x1), (15, .val (.int .i64) (List.length x1 : Int)), (16, .val (.int .i64) v1618), (78, .val (.sl false 2 (.int .i64)) (List.getD x0.2.1 (Int.toNat (List.getD x0.1.2.1 (Int.toNat (List.getD x1 (Int.toNat v1618) (0 : Int))) ((0 : Int), ((0 : Int), ((0 : Int), ((0 : Int), ((0 : Int), (⟨#[]⟩ : ByteArray))))))).1) ([] : (List Int)))), (79, .val (.int .i64) (List.length (List.getD x0.2.1 (Int.toNat (List.getD x0.1.2.1 (Int.toNat (List.getD x1 (Int.toNat v1618) (0 : Int))) ((0 : Int), ((0 : Int), ((0 : Int), ((0 : Int), ((0 : Int), (⟨#[]⟩ : ByteArray))))))).1) ([] : (List Int))) : Int)), (80, .val (.int .i64) v1884)] : SS)) v) a w) ?_ ?_
              ·
                refine wp_block ?_
                obtain ⟨hc1888, hF⟩ := of_if hF
                refine wp_reg_seq tok (orc := orcL []) (fz := []) (l := [0, 1, 5, 7, 9, 11, 14, 15, 16, 78, 79, 80]) (c := _) (.inr fun i h => h) h (by kernel_rfl) (AllP.cons hc1888 AllP.nil) ?_
                intro a w h
                refine wp_reg_seq tok (orc := orcL []) (fz := []) (l := [0, 1, 5, 7, 9, 14, 15, 16, 78, 79, 80, 86]) (c := _) (.inr fun i h => h) h (by kernel_rfl) (AllP.nil) ?_
                intro a w h
                refine wp_if h (b := (decide (((List.getD (List.getD x0.2.1 (Int.toNat (List.getD x0.1.2.1 (Int.toNat (List.getD x1 (Int.toNat v1618) (0 : Int))) ((0 : Int), ((0 : Int), ((0 : Int), ((0 : Int), ((0 : Int), (⟨#[]⟩ : ByteArray))))))).1) ([] : (List Int))) (Int.toNat v1884) (0 : Int)) : Int) < (List.getD x1 (Int.toNat v1618) (0 : Int))))) (by kernel_rfl) (fun hb => ?_) (fun hb => ?_)
                · replace hF := of_t hb hF
                  refine wp_reg tok (orc := orcL []) (fz := []) (l := [0, 1, 5, 7, 9, 14, 15, 16, 78, 79, 80]) (c := _) (.inr fun i h => h) h (by kernel_rfl) (AllP.nil) ?_
                  intro a w h
                  exact ⟨(IntKind.i64.wrap (v1883 + (1 : Int))), hF, h.arrive (fz := []) (l := [0, 1, 5, 7, 9, 14, 15, 16, 78, 79, 80]) (.inr fun i h => h) (by kernel_rfl)⟩
                · replace hF := of_f hb hF
                  refine wp_skip ?_
                  exact ⟨v1883, hF, h.arrive (fz := []) (l := [0, 1, 5, 7, 9, 14, 15, 16, 78, 79, 80]) (.inr fun i h => h) (by kernel_rfl)⟩
              · rintro a w ⟨v1886, hF, h⟩
                rw [f83.j1887] at hF
                refine wp_reg tok (orc := orcL []) (fz := []) (l := [0, 1, 5, 7, 9, 14, 15, 16, 78, 79, 80]) (c := _) (.inr fun i h => h) h (by kernel_rfl) (AllP.nil) ?_
                intro a w h
                exact ⟨(v1886, (IntKind.i64.wrap (v1884 + (1 : Int)))), hF, h.arrive (fz := []) (l := [0, 1, 5, 7, 9, 14, 15, 16, 78, 79, 80]) (.inr fun i h => h) (by kernel_rfl)⟩
            · replace hF := of_f hb hF
              refine wp_exit ?_
              exact ⟨((9 : Int), v1883), hF, h.arrive (fz := []) (l := [0, 1, 5, 9, 14, 15, 16]) (.inr fun i h => h) (by kernel_rfl)⟩
          · replace hF := of_f hb hF
            obtain ⟨hc1933, hF⟩ := of_if hF
            obtain ⟨r1890, hr1934, hF⟩ := of_bind hF
            refine wp_reg_seq tok (orc := orcL [(99, [⟨(.int .i64), r1890⟩])]) (fz := []) (l := [0, 1, 5, 6, 7, 9, 14, 15, 16]) (c := _) (.inr fun i h => h) h (by kernel_rfl) (AllP.cons hc1933 (AllP.cons (c172 k x0 (List.getD x1 (Int.toNat (IntKind.i64.wrap (v1618 - (1 : Int)))) (0 : Int)) (List.getD x1 (Int.toNat v1618) (0 : Int)) r1890 hr1934) AllP.nil)) ?_
            intro a w h
            obtain ⟨hc1931, hF⟩ := of_if hF
            obtain ⟨r1891, hr1932, hF⟩ := of_bind hF
            refine wp_reg_seq tok (orc := orcL [(107, [⟨(.sl true 2 (.int .i64)), r1891⟩])]) (fz := []) (l := [0, 1, 5, 6, 7, 9, 14, 15, 16, 107, 108, 109]) (c := _) (.inr fun i h => h) h (by kernel_rfl) (AllP.cons hc1931 (AllP.cons (c173 k x0 (List.getD x1 (Int.toNat (IntKind.i64.wrap (v1618 - (1 : Int)))) (0 : Int)) r1891 hr1932) AllP.nil)) ?_
            intro a w h
            refine wp_block ?_
            refine wp_loop_fuel (f83.l1892 k r1891 x1 v1618 x0 r1890 (f83.j1866 k v1617 x0 x1 v1618 (f83.j1779 k v1618 ((f83.l970 k x1 x0) m970)))) (fun ((v1919, v1920) : (Int × Int)) => [(0, .val sh23 (some x0)), (1, .val (.sl false 2 (.int .i64)) x1), (5, .val sh16 v1617), (6, .val (.int .i64) v1618), (7, .val (.int .i64) (List.getD x1 (Int.toNat v1618) (0 : Int))), (9, .val sh18 (some (r1890, (v1919, ((List.getD x0.1.2.1 (Int.toNat (List.getD x1 (Int.toNat v1618) (0 : Int))) ((0 : Int), ((0 : Int), ((0 : Int), ((0 : Int), ((0 : Int), (⟨#[]⟩ : ByteArray))))))).2.2.2.2.2, ((1 : Int), (List.getD x0.1.2.1 (Int.toNat (List.getD x1 (Int.toNat v1618) (0 : Int))) ((0 : Int), ((0 : Int), ((0 : Int), ((0 : Int), ((0 : Int), (⟨#[]⟩ : ByteArray))))))).2.2.2.2.1)))))), (14, .val (.sl false 2 (.int .i64)) x1), (15, .val (.int .i64) (List.length x1 : Int)), (16, .val (.int .i64) v1618), (107, .val (.sl true 2 (.int .i64)) r1891), (108, .val (.int .i64) (List.length r1891 : Int)), (109, .val (.int .i64) v1920)]) (fun v h => by obtain ⟨v1919, v1920⟩ := v; rw [f83.l1892] at h; cases h) ?_ hF (h.arrive (fz := []) (l := [0, 1, 5, 6, 7, 9, 14, 15, 16, 107, 108, 109]) (.inr fun i h => h) (by kernel_rfl))
            intro m1892 v a w hF h
            obtain ⟨v1919, v1920⟩ := v
            rw [f83.l1892] at hF
            refine wp_reg_seq tok (orc := orcL []) (fz := []) (l := [0, 1, 5, 6, 7, 9, 14, 15, 16, 107, 108, 109, 110]) (c := _) (.inr fun i h => h) h (by kernel_rfl) (AllP.nil) ?_
            intro a w h
            refine wp_seq <| wp_if h (b := (decide ((v1920 : Int) < (List.length r1891 : Int)))) (by kernel_rfl) (fun hb => ?_) (fun hb => ?_)
            · replace hF := of_t hb hF
              refine wp_skip ?_
              refine wp_mid (fun a w => ∃ v : Int, f83.j1926 k v1920 ((f83.l1892 k r1891 x1 v1618 x0 r1890 (f83.j1866 k v1617 x0 x1 v1618 (f83.j1779 k v1618 ((f83.l970 k x1 x0) m970)))) m1892) v = some r ∧ Rel w0 (fun _ => False) Zi Try.f83.ntmps ((fun (v1925 : Int) => ([(0, .val sh23 (some x0)), (1, .val (.sl false 2 (.int .i64)) x1), (5, .val sh16 v1617), (6, .val (.int .i64) v1618), (7, .val (.int .i64) (List.getD x1 (Int.toNat v1618) (0 : Int))), (9, .val sh18 (some (r1890, (v1925, ((List.getD x0.1.2.1 (Int.toNat (List.getD x1 (Int.toNat v1618) (0 : Int))) ((0 : Int), ((0 : Int), ((0 : Int), ((0 : Int), ((0 : Int), (⟨#[]⟩ : ByteArray))))))).2.2.2.2.2, ((1 : Int), (List.getD x0.1.2.1 (Int.toNat (List.getD x1 (Int.toNat v1618) (0 : Int))) ((0 : Int), ((0 : Int), ((0 : Int), ((0 : Int), ((0 : Int), (⟨#[]⟩ : ByteArray))))))).2.2.2.2.1)))))), (14, .val (.sl false 2 (.int .i64)) x1), (15, .val (.int .i64) (List.length x1 : Int)), (16, .val (.int .i64) v1618), (107, .val (.sl true 2 (.int .i64)) r1891), (108, .val (.int .i64) (List.length r1891 : Int)), (109, .val (.int .i64) v1920)] : SS)) v) a w) ?_ ?_
              ·
                refine wp_block ?_
                obtain ⟨hc1930, hF⟩ := of_if hF
                refine wp_reg_seq tok (orc := orcL []) (fz := []) (l := [0, 1, 5, 6, 7, 9, 13, 14, 15, 16, 107, 108, 109]) (c := _) (.inr fun i h => h) h (by kernel_rfl) (AllP.cons hc1930 AllP.nil) ?_
                intro a w h
                obtain ⟨hc1928, hF⟩ := of_if hF
                obtain ⟨r1927, hr1929, hF⟩ := of_bind hF
                refine wp_regy_seq tok (orc := orcL [(124, [⟨(.int .i64), r1927⟩])]) (fz := []) (l := [0, 1, 5, 6, 7, 9, 14, 15, 16, 107, 108, 109, 128]) (c := _) ([], [], [], []) 16 (.inr fun i h => h) h (by kernel_rfl) (by kernel_rfl) (AllP.cons hc1928 (AllP.cons (fun (hg : ((decide (((List.getD r1891 (Int.toNat v1920) (0 : Int)) : Int) < (List.getD x1 (Int.toNat v1618) (0 : Int)))) = true)) => c172 k x0 (List.getD x1 (Int.toNat (IntKind.i64.wrap (v1618 - (1 : Int)))) (0 : Int)) (List.getD r1891 (Int.toNat v1920) (0 : Int)) r1927 (of_g hg hr1929)) AllP.nil)) ?_
                intro a w h
                refine wp_if h (b := (bif (decide (((List.getD r1891 (Int.toNat v1920) (0 : Int)) : Int) < (List.getD x1 (Int.toNat v1618) (0 : Int)))) then ((r1927 : Int) == r1890) else false)) (by kernel_rfl) (fun hb => ?_) (fun hb => ?_)
                · replace hF := of_t hb hF
                  refine wp_reg tok (orc := orcL []) (fz := []) (l := [0, 1, 5, 6, 7, 9, 14, 15, 16, 107, 108, 109]) (c := _) (.inr fun i h => h) h (by kernel_rfl) (AllP.nil) ?_
                  intro a w h
                  exact ⟨(IntKind.i64.wrap (v1919 + (1 : Int))), hF, h.arrive (fz := []) (l := [0, 1, 5, 6, 7, 9, 14, 15, 16, 107, 108, 109]) (.inr fun i h => h) (by kernel_rfl)⟩
                · replace hF := of_f hb hF
                  refine wp_skip ?_
                  exact ⟨v1919, hF, h.arrive (fz := []) (l := [0, 1, 5, 6, 7, 9, 14, 15, 16, 107, 108, 109]) (.inr fun i h => h) (by kernel_rfl)⟩
              · rintro a w ⟨v1925, hF, h⟩
                rw [f83.j1926] at hF
                refine wp_reg tok (orc := orcL []) (fz := []) (l := [0, 1, 5, 6, 7, 9, 14, 15, 16, 107, 108, 109]) (c := _) (.inr fun i h => h) h (by kernel_rfl) (AllP.nil) ?_
                intro a w h
                exact ⟨(v1925, (IntKind.i64.wrap (v1920 + (1 : Int)))), hF, h.arrive (fz := []) (l := [0, 1, 5, 6, 7, 9, 14, 15, 16, 107, 108, 109]) (.inr fun i h => h) (by kernel_rfl)⟩
            · replace hF := of_f hb hF
              refine wp_exit ?_
              exact ⟨(r1890, v1919), hF, h.arrive (fz := []) (l := [0, 1, 5, 9, 14, 15, 16]) (.inr fun i h => h) (by kernel_rfl)⟩
        · rintro a w ⟨v, hF, h⟩
          obtain ⟨v1864, v1865⟩ := v
          rw [f83.j1866] at hF
          obtain ⟨hc1867, hF⟩ := of_if hF
          refine wp_reg tok (orc := orcL []) (fz := []) (l := [0, 1, 5, 14, 15, 16]) (c := _) (.inr fun i h => h) h (by kernel_rfl) (AllP.cons hc1867 AllP.nil) ?_
          intro a w h
          exact ⟨(v1617 ++ [(v1864, (v1865, ((List.getD x0.1.2.1 (Int.toNat (List.getD x1 (Int.toNat v1618) (0 : Int))) ((0 : Int), ((0 : Int), ((0 : Int), ((0 : Int), ((0 : Int), (⟨#[]⟩ : ByteArray))))))).2.2.2.2.2, ((1 : Int), (List.getD x0.1.2.1 (Int.toNat (List.getD x1 (Int.toNat v1618) (0 : Int))) ((0 : Int), ((0 : Int), ((0 : Int), ((0 : Int), ((0 : Int), (⟨#[]⟩ : ByteArray))))))).2.2.2.2.1))))]), hF, h.arrive (fz := []) (l := [0, 1, 5, 14, 15, 16]) (.inr fun i h => h) (by kernel_rfl)⟩
    · rintro a w ⟨v1778, hF, h⟩
      rw [f83.j1779] at hF
      refine wp_reg tok (orc := orcL []) (fz := []) (l := [0, 1, 5, 14, 15, 16]) (c := _) (.inr fun i h => h) h (by kernel_rfl) (AllP.nil) ?_
      intro a w h
      exact ⟨(v1778, (IntKind.i64.wrap (v1618 + (1 : Int)))), hF, h.arrive (fz := []) (l := [0, 1, 5, 14, 15, 16]) (.inr fun i h => h) (by kernel_rfl)⟩
  · replace hF := of_f hb hF
    refine wp_exit ?_
    refine wp_reg_seq tok (orc := orcL []) (fz := []) (l := [4, 5]) (c := _) (.inr fun i h => h) h (by kernel_rfl) (AllP.nil) ?_
    intro a w h
    cases hF
    exact wp_ret (ret_okR tok h rfl (by kernel_rfl)).1

def f18 (k : Nat) (x0 : ((List (Int × (Int × Int))) × ((List (Int × (Int × (Int × (Int × (Int × ByteArray)))))) × (List (Int × Int))))) (x1 : (List Int)) : Option (List (Int × (Int × (ByteArray × (Int × Int))))) := (if ((((List.length x1 : Int) : Int) == (0 : Int)) = false) then f79 k x0 else some default).bind fun r1 => (if (bif (((List.length x1 : Int) : Int) == (0 : Int)) then true else (!r1)) then (some ([] : (List (Int × (Int × (ByteArray × (Int × Int))))))) else ((f80 k x0).bind fun r2 => (if (0 ≤ (0 : Int) ∧ (0 : Int) < (List.length x1 : Int)) then ((f81 k r2 (List.getD x1 (Int.toNat (0 : Int)) (0 : Int))).bind fun r3 => (if (((!r3) = false) → (0 ≤ (IntKind.i64.wrap ((List.length x1 : Int) - (1 : Int))) ∧ (IntKind.i64.wrap ((List.length x1 : Int) - (1 : Int))) < (List.length x1 : Int))) then ((if ((!r3) = false) then f81 k r2 (List.getD x1 (Int.toNat (IntKind.i64.wrap ((List.length x1 : Int) - (1 : Int)))) (0 : Int)) else some default).bind fun r4 => (if (bif (!r3) then true else (!r4)) then (some ([] : (List (Int × (Int × (ByteArray × (Int × Int))))))) else (if (0 ≤ (0 : Int) ∧ (0 : Int) < (List.length x1 : Int)) then (if (0 ≤ (List.getD x1 (Int.toNat (0 : Int)) (0 : Int)) ∧ (List.getD x1 (Int.toNat (0 : Int)) (0 : Int)) < (List.length x0.2.1 : Int)) then (if (0 ≤ (IntKind.i64.wrap ((List.length x1 : Int) - (1 : Int))) ∧ (IntKind.i64.wrap ((List.length x1 : Int) - (1 : Int))) < (List.length x1 : Int)) then (if (0 ≤ (List.getD x1 (Int.toNat (IntKind.i64.wrap ((List.length x1 : Int) - (1 : Int)))) (0 : Int)) ∧ (List.getD x1 (Int.toNat (IntKind.i64.wrap ((List.length x1 : Int) - (1 : Int)))) (0 : Int)) < (List.length x0.2.1 : Int)) then ((f82 k r2 x1 (List.getD x0.2.1 (Int.toNat (List.getD x1 (Int.toNat (0 : Int)) (0 : Int))) ((0 : Int), ((0 : Int), ((0 : Int), ((0 : Int), ((0 : Int), (⟨#[]⟩ : ByteArray))))))).1 (List.getD x0.2.1 (Int.toNat (List.getD x1 (Int.toNat (IntKind.i64.wrap ((List.length x1 : Int) - (1 : Int)))) (0 : Int))) ((0 : Int), ((0 : Int), ((0 : Int), ((0 : Int), ((0 : Int), (⟨#[]⟩ : ByteArray))))))).2.1).bind fun r5 => (if (decide ((r5 : Int) < (0 : Int))) then (some ([] : (List (Int × (Int × (ByteArray × (Int × Int))))))) else ((f83 k r2 x1).bind fun r6 => (some r6)))) else none) else none) else none) else none))) else none)) else none)))
set_option maxRecDepth 100000 in
/-- 'impl.Guide'. -/
theorem c18 (k : Nat) (x0 : ((List (Int × (Int × Int))) × ((List (Int × (Int × (Int × (Int × (Int × ByteArray)))))) × (List (Int × Int))))) (x1 : (List Int)) (r : (List (Int × (Int × (ByteArray × (Int × Int)))))) (hF : f18 k x0 x1 = some r) : PCall Try.prog 18 [⟨sh12, x0⟩, ⟨(.sl false 2 (.int .i64)), x1⟩] [⟨sh16, r⟩] := by
  refine pcall_intro Try.func18 rfl rfl (Nat.le_of_ble_eq_true rfl) ?_
  intro w0 Zi a w h
  rw [f18] at hF
  refine wp_reg_seq tok (orc := orcL []) (fz := []) (l := [1, 2]) (c := _) (.inr fun i h => h) h (by kernel_rfl) (AllP.nil) ?_
  intro a w h
  refine wp_seq ?_
  obtain ⟨r1, hr18, hF⟩ := of_bind hF
  refine wp_reg_seq tok (orc := orcL [(11, [⟨.bool, r1⟩])]) (fz := []) (l := [1, 2, 13]) (c := _) (.inr fun i h => h) h (by kernel_rfl) (AllP.cons (fun (hg : ((((List.length x1 : Int) : Int) == (0 : Int)) = false)) => c79 k x0 r1 (of_g hg hr18)) AllP.nil) ?_
  intro a w h
  refine wp_if h (b := (bif (((List.length x1 : Int) : Int) == (0 : Int)) then true else (!r1))) (by kernel_rfl) (fun hb => ?_) (fun hb => ?_)
  · replace hF := of_t hb hF
    refine wp_reg_seq tok (orc := orcL []) (fz := []) (l := [4]) (c := _) (.inr fun i h => h) h (by kernel_rfl) (AllP.nil) ?_
    intro a w h
    cases hF
    exact wp_ret (ret_okR tok h rfl (by kernel_rfl)).1
  · replace hF := of_f hb hF
    refine wp_skip ?_
    obtain ⟨r2, hr17, hF⟩ := of_bind hF
    refine wp_reg_seq tok (orc := orcL [(15, [⟨sh22, some r2⟩])]) (fz := []) (l := [1, 2, 5]) (c := _) (.inr fun i h => h) h (by kernel_rfl) (AllP.cons (c80 k x0 r2 hr17) AllP.nil) ?_
    intro a w h
    refine wp_seq ?_
    obtain ⟨hc13, hF⟩ := of_if hF
    obtain ⟨r3, hr14, hF⟩ := of_bind hF
    obtain ⟨hc15, hF⟩ := of_if hF
    obtain ⟨r4, hr16, hF⟩ := of_bind hF
    refine wp_reg_seq tok (orc := orcL [(20, [⟨.bool, r3⟩]), (30, [⟨.bool, r4⟩])]) (fz := []) (l := [1, 2, 5, 32]) (c := _) (.inr fun i h => h) h (by kernel_rfl) (AllP.cons hc13 (AllP.cons (c81 k r2 (List.getD x1 (Int.toNat (0 : Int)) (0 : Int)) r3 hr14) (AllP.cons hc15 (AllP.cons (fun (hg : ((!r3) = false)) => c81 k r2 (List.getD x1 (Int.toNat (IntKind.i64.wrap ((List.length x1 : Int) - (1 : Int)))) (0 : Int)) r4 (of_g hg hr16)) AllP.nil)))) ?_
    intro a w h
    refine wp_if h (b := (bif (!r3) then true else (!r4))) (by kernel_rfl) (fun hb => ?_) (fun hb => ?_)
    · replace hF := of_t hb hF
      refine wp_reg_seq tok (orc := orcL []) (fz := []) (l := [4]) (c := _) (.inr fun i h => h) h (by kernel_rfl) (AllP.nil) ?_
      intro a w h
      cases hF
      exact wp_ret (ret_okR tok h rfl (by kernel_rfl)).1
    · replace hF := of_f hb hF
      refine wp_skip ?_
      refine wp_seq ?_
      obtain ⟨hc8, hF⟩ := of_if hF
      obtain ⟨hc9, hF⟩ := of_if hF
      obtain ⟨hc10, hF⟩ := of_if hF
      obtain ⟨hc11, hF⟩ := of_if hF
      obtain ⟨r5, hr12, hF⟩ := of_bind hF
      refine wp_regy_seq tok (orc := orcL [(54, [⟨(.int .i64), r5⟩])]) (fz := []) (l := [1, 5, 55]) (c := _) ([], [], [], []) 23 (.inr fun i h => h) h (by kernel_rfl) (by kernel_rfl) (AllP.cons hc8 (AllP.cons hc9 (AllP.cons hc10 (AllP.cons hc11 (AllP.cons (c82 k r2 x1 (List.getD x0.2.1 (Int.toNat (List.getD x1 (Int.toNat (0 : Int)) (0 : Int))) ((0 : Int), ((0 : Int), ((0 : Int), ((0 : Int), ((0 : Int), (⟨#[]⟩ : ByteArray))))))).1 (List.getD x0.2.1 (Int.toNat (List.getD x1 (Int.toNat (IntKind.i64.wrap ((List.length x1 : Int) - (1 : Int)))) (0 : Int))) ((0 : Int), ((0 : Int), ((0 : Int), ((0 : Int), ((0 : Int), (⟨#[]⟩ : ByteArray))))))).2.1 r5 hr12) AllP.nil))))) ?_
      intro a w h
      refine wp_if h (b := (decide ((r5 : Int) < (0 : Int)))) (by kernel_rfl) (fun hb => ?_) (fun hb => ?_)
      · replace hF := of_t hb hF
        refine wp_reg_seq tok (orc := orcL []) (fz := []) (l := [4]) (c := _) (.inr fun i h => h) h (by kernel_rfl) (AllP.nil) ?_
        intro a w h
        cases hF
        exact wp_ret (ret_okR tok h rfl (by kernel_rfl)).1
      · replace hF := of_f hb hF
        refine wp_skip ?_
        obtain ⟨r6, hr7, hF⟩ := of_bind hF
        refine wp_reg_seq tok (orc := orcL [(58, [⟨sh16, r6⟩])]) (fz := []) (l := [4]) (c := _) (.inr fun i h => h) h (by kernel_rfl) (AllP.cons (c83 k r2 x1 r6 hr7) AllP.nil) ?_
        intro a w h
        cases hF
        exact wp_ret (ret_okR tok h rfl (by kernel_rfl)).1

def f84 (k : Nat) (x0 : (Int × (Int × (ByteArray × (Int × Int))))) (x1 : (Int × (Int × (ByteArray × (Int × Int))))) : Option Bool := if ((x0.1 : Int) != x1.1) then (some false) else (if ((x0.2.1 : Int) != x1.2.1) then (some false) else (if (!(ByteArray.toList x0.2.2.1 == ByteArray.toList x1.2.2.1)) then (some false) else (if ((x0.2.2.2.1 : Int) != x1.2.2.2.1) then (some false) else (if ((x0.2.2.2.2 : Int) != x1.2.2.2.2) then (some false) else (some true)))))
set_option maxRecDepth 100000 in
/-- 'laws.eqTurning'. -/
theorem c84 (k : Nat) (x0 : (Int × (Int × (ByteArray × (Int × Int))))) (x1 : (Int × (Int × (ByteArray × (Int × Int))))) (r : Bool) (hF : f84 k x0 x1 = some r) : PCall Try.prog 84 [⟨sh24, x0⟩, ⟨sh24, x1⟩] [⟨.bool, r⟩] := by
  refine pcall_intro Try.func84 rfl rfl (Nat.le_of_ble_eq_true rfl) ?_
  intro w0 Zi a w h
  rw [f84] at hF
  refine wp_reg_seq tok (orc := orcL []) (fz := []) (l := [2, 3]) (c := _) (.inr fun i h => h) h (by kernel_rfl) (AllP.nil) ?_
  intro a w h
  refine wp_seq ?_
  refine wp_reg_seq tok (orc := orcL []) (fz := []) (l := [2, 3, 9]) (c := _) (.inr fun i h => h) h (by kernel_rfl) (AllP.nil) ?_
  intro a w h
  refine wp_if h (b := ((x0.1 : Int) != x1.1)) (by kernel_rfl) (fun hb => ?_) (fun hb => ?_)
  · replace hF := of_t hb hF
    refine wp_reg_seq tok (orc := orcL []) (fz := []) (l := [4]) (c := _) (.inr fun i h => h) h (by kernel_rfl) (AllP.nil) ?_
    intro a w h
    cases hF
    exact wp_ret (ret_okR tok h rfl (by kernel_rfl)).1
  · replace hF := of_f hb hF
    refine wp_skip ?_
    refine wp_seq ?_
    refine wp_reg_seq tok (orc := orcL []) (fz := []) (l := [2, 3, 14]) (c := _) (.inr fun i h => h) h (by kernel_rfl) (AllP.nil) ?_
    intro a w h
    refine wp_if h (b := ((x0.2.1 : Int) != x1.2.1)) (by kernel_rfl) (fun hb => ?_) (fun hb => ?_)
    · replace hF := of_t hb hF
      refine wp_reg_seq tok (orc := orcL []) (fz := []) (l := [4]) (c := _) (.inr fun i h => h) h (by kernel_rfl) (AllP.nil) ?_
      intro a w h
      cases hF
      exact wp_ret (ret_okR tok h rfl (by kernel_rfl)).1
    · replace hF := of_f hb hF
      refine wp_skip ?_
      refine wp_seq ?_
      refine wp_reg_seq tok (orc := orcL []) (fz := []) (l := [2, 3, 19]) (c := _) (.inr fun i h => h) h (by kernel_rfl) (AllP.nil) ?_
      intro a w h
      refine wp_if h (b := (!(ByteArray.toList x0.2.2.1 == ByteArray.toList x1.2.2.1))) (by kernel_rfl) (fun hb => ?_) (fun hb => ?_)
      · replace hF := of_t hb hF
        refine wp_reg_seq tok (orc := orcL []) (fz := []) (l := [4]) (c := _) (.inr fun i h => h) h (by kernel_rfl) (AllP.nil) ?_
        intro a w h
        cases hF
        exact wp_ret (ret_okR tok h rfl (by kernel_rfl)).1
      · replace hF := of_f hb hF
        refine wp_skip ?_
        refine wp_seq ?_
        refine wp_reg_seq tok (orc := orcL []) (fz := []) (l := [2, 3, 24]) (c := _) (.inr fun i h => h) h (by kernel_rfl) (AllP.nil) ?_
        intro a w h
        refine wp_if h (b := ((x0.2.2.2.1 : Int) != x1.2.2.2.1)) (by kernel_rfl) (fun hb => ?_) (fun hb => ?_)
        · replace hF := of_t hb hF
          refine wp_reg_seq tok (orc := orcL []) (fz := []) (l := [4]) (c := _) (.inr fun i h => h) h (by kernel_rfl) (AllP.nil) ?_
          intro a w h
          cases hF
          exact wp_ret (ret_okR tok h rfl (by kernel_rfl)).1
        · replace hF := of_f hb hF
          refine wp_skip ?_
          refine wp_seq ?_
          refine wp_reg_seq tok (orc := orcL []) (fz := []) (l := [29]) (c := _) (.inr fun i h => h) h (by kernel_rfl) (AllP.nil) ?_
          intro a w h
          refine wp_if h (b := ((x0.2.2.2.2 : Int) != x1.2.2.2.2)) (by kernel_rfl) (fun hb => ?_) (fun hb => ?_)
          · replace hF := of_t hb hF
            refine wp_reg_seq tok (orc := orcL []) (fz := []) (l := [4]) (c := _) (.inr fun i h => h) h (by kernel_rfl) (AllP.nil) ?_
            intro a w h
            cases hF
            exact wp_ret (ret_okR tok h rfl (by kernel_rfl)).1
          · replace hF := of_f hb hF
            refine wp_skip ?_
            refine wp_reg_seq tok (orc := orcL []) (fz := []) (l := [4]) (c := _) (.inr fun i h => h) h (by kernel_rfl) (AllP.nil) ?_
            intro a w h
            cases hF
            exact wp_ret (ret_okR tok h rfl (by kernel_rfl)).1

def f19.l30 (k : Nat) (x0 : (List (Int × (Int × (ByteArray × (Int × Int)))))) (x1 : (List (Int × (Int × (ByteArray × (Int × Int)))))) : Nat → Int → Option Bool
  | 0, _ => none
  | m30 + 1, v50 => if (decide ((v50 : Int) < (List.length x0 : Int))) then (if (0 ≤ v50 ∧ v50 < (List.length x0 : Int)) then (if (0 ≤ v50 ∧ v50 < (List.length x1 : Int)) then ((f84 k (List.getD x0 (Int.toNat v50) ((0 : Int), ((0 : Int), ((⟨#[]⟩ : ByteArray), ((0 : Int), (0 : Int)))))) (List.getD x1 (Int.toNat v50) ((0 : Int), ((0 : Int), ((⟨#[]⟩ : ByteArray), ((0 : Int), (0 : Int))))))).bind fun r55 => (if (!r55) then (some false) else ((f19.l30 k x0 x1) m30 (IntKind.i64.wrap (v50 + (1 : Int)))))) else none) else none) else (some true)
def f19 (k : Nat) (x0 : (List (Int × (Int × (ByteArray × (Int × Int)))))) (x1 : (List (Int × (Int × (ByteArray × (Int × Int)))))) : Option Bool := if (((List.length x0 : Int) : Int) != (List.length x1 : Int)) then (some false) else (f19.l30 k x0 x1 k (0 : Int))
set_option maxRecDepth 100000 in
/-- 'laws.eqTurningS'. -/
theorem c19 (k : Nat) (x0 : (List (Int × (Int × (ByteArray × (Int × Int)))))) (x1 : (List (Int × (Int × (ByteArray × (Int × Int)))))) (r : Bool) (hF : f19 k x0 x1 = some r) : PCall Try.prog 19 [⟨sh25, x0⟩, ⟨sh25, x1⟩] [⟨.bool, r⟩] := by
  refine pcall_intro Try.func19 rfl rfl (Nat.le_of_ble_eq_true rfl) ?_
  intro w0 Zi a w h
  rw [f19] at hF
  refine wp_reg_seq tok (orc := orcL []) (fz := []) (l := [0, 1]) (c := _) (.inr fun i h => h) h (by kernel_rfl) (AllP.nil) ?_
  intro a w h
  refine wp_seq ?_
  refine wp_reg_seq tok (orc := orcL []) (fz := []) (l := [0, 1, 10]) (c := _) (.inr fun i h => h) h (by kernel_rfl) (AllP.nil) ?_
  intro a w h
  refine wp_if h (b := (((List.length x0 : Int) : Int) != (List.length x1 : Int))) (by kernel_rfl) (fun hb => ?_) (fun hb => ?_)
  · replace hF := of_t hb hF
    refine wp_reg_seq tok (orc := orcL []) (fz := []) (l := [4]) (c := _) (.inr fun i h => h) h (by kernel_rfl) (AllP.nil) ?_
    intro a w h
    cases hF
    exact wp_ret (ret_okR tok h rfl (by kernel_rfl)).1
  · replace hF := of_f hb hF
    refine wp_skip ?_
    refine wp_seq ?_
    refine wp_reg_seq tok (orc := orcL []) (fz := []) (l := [0, 1, 5]) (c := _) (.inr fun i h => h) h (by kernel_rfl) (AllP.nil) ?_
    intro a w h
    refine wp_block ?_
    refine wp_loop_fuel (f19.l30 k x0 x1) (fun (v50 : Int) => [(0, .val sh25 x0), (1, .val sh25 x1), (5, .val (.int .i64) v50)]) (fun v h => by rw [f19.l30] at h; cases h) ?_ hF (h.arrive (fz := []) (l := [0, 1, 5]) (.inr fun i h => h) (by kernel_rfl))
    intro m30 v50 a w hF h
    rw [f19.l30] at hF
    refine wp_seq ?_
    refine wp_reg_seq tok (orc := orcL []) (fz := []) (l := [0, 1, 5, 14]) (c := _) (.inr fun i h => h) h (by kernel_rfl) (AllP.nil) ?_
    intro a w h
    refine wp_if h (b := (decide ((v50 : Int) < (List.length x0 : Int)))) (by kernel_rfl) (fun hb => ?_) (fun hb => ?_)
    · replace hF := of_t hb hF
      refine wp_skip ?_
      refine wp_seq <| wp_block ?_
      obtain ⟨hc56, hF⟩ := of_if hF
      obtain ⟨hc57, hF⟩ := of_if hF
      obtain ⟨r55, hr58, hF⟩ := of_bind hF
      refine wp_regy_seq tok (orc := orcL [(25, [⟨.bool, r55⟩])]) (fz := []) (l := [0, 1, 5, 26]) (c := _) ([], [], [], []) 10 (.inr fun i h => h) h (by kernel_rfl) (by kernel_rfl) (AllP.cons hc56 (AllP.cons hc57 (AllP.cons (c84 k (List.getD x0 (Int.toNat v50) ((0 : Int), ((0 : Int), ((⟨#[]⟩ : ByteArray), ((0 : Int), (0 : Int)))))) (List.getD x1 (Int.toNat v50) ((0 : Int), ((0 : Int), ((⟨#[]⟩ : ByteArray), ((0 : Int), (0 : Int)))))) r55 hr58) AllP.nil))) ?_
      intro a w h
      refine wp_if h (b := (!r55)) (by kernel_rfl) (fun hb => ?_) (fun hb => ?_)
      · replace hF := of_t hb hF
        refine wp_reg_seq tok (orc := orcL []) (fz := []) (l := [4]) (c := _) (.inr fun i h => h) h (by kernel_rfl) (AllP.nil) ?_
        intro a w h
        cases hF
        exact wp_ret (ret_okR tok h rfl (by kernel_rfl)).1
      · replace hF := of_f hb hF
        refine wp_skip ?_
        refine wp_reg tok (orc := orcL []) (fz := []) (l := [0, 1, 5]) (c := _) (.inr fun i h => h) h (by kernel_rfl) (AllP.nil) ?_
        intro a w h
        exact ⟨(IntKind.i64.wrap (v50 + (1 : Int))), hF, h.arrive (fz := []) (l := [0, 1, 5]) (.inr fun i h => h) (by kernel_rfl)⟩
    · replace hF := of_f hb hF
      refine wp_exit ?_
      refine wp_reg_seq tok (orc := orcL []) (fz := []) (l := [4]) (c := _) (.inr fun i h => h) h (by kernel_rfl) (AllP.nil) ?_
      intro a w h
      cases hF
      exact wp_ret (ret_okR tok h rfl (by kernel_rfl)).1

def f222 (k : Nat) (x0 : (Int × Int)) (x1 : (Int × Int)) : Option Bool := if ((x0.1 : Int) != x1.1) then (some false) else (if ((x0.2 : Int) != x1.2) then (some false) else (some true))
set_option maxRecDepth 100000 in
/-- 'laws.eqPoint'. -/
theorem c222 (k : Nat) (x0 : (Int × Int)) (x1 : (Int × Int)) (r : Bool) (hF : f222 k x0 x1 = some r) : PCall Try.prog 222 [⟨sh5, x0⟩, ⟨sh5, x1⟩] [⟨.bool, r⟩] := by
  refine pcall_intro Try.func222 rfl rfl (Nat.le_of_ble_eq_true rfl) ?_
  intro w0 Zi a w h
  rw [f222] at hF
  refine wp_reg_seq tok (orc := orcL []) (fz := []) (l := [2, 3]) (c := _) (.inr fun i h => h) h (by kernel_rfl) (AllP.nil) ?_
  intro a w h
  refine wp_seq ?_
  refine wp_reg_seq tok (orc := orcL []) (fz := []) (l := [2, 3, 9]) (c := _) (.inr fun i h => h) h (by kernel_rfl) (AllP.nil) ?_
  intro a w h
  refine wp_if h (b := ((x0.1 : Int) != x1.1)) (by kernel_rfl) (fun hb => ?_) (fun hb => ?_)
  · replace hF := of_t hb hF
    refine wp_reg_seq tok (orc := orcL []) (fz := []) (l := [4]) (c := _) (.inr fun i h => h) h (by kernel_rfl) (AllP.nil) ?_
    intro a w h
    cases hF
    exact wp_ret (ret_okR tok h rfl (by kernel_rfl)).1
  · replace hF := of_f hb hF
    refine wp_skip ?_
    refine wp_seq ?_
    refine wp_reg_seq tok (orc := orcL []) (fz := []) (l := [14]) (c := _) (.inr fun i h => h) h (by kernel_rfl) (AllP.nil) ?_
    intro a w h
    refine wp_if h (b := ((x0.2 : Int) != x1.2)) (by kernel_rfl) (fun hb => ?_) (fun hb => ?_)
    · replace hF := of_t hb hF
      refine wp_reg_seq tok (orc := orcL []) (fz := []) (l := [4]) (c := _) (.inr fun i h => h) h (by kernel_rfl) (AllP.nil) ?_
      intro a w h
      cases hF
      exact wp_ret (ret_okR tok h rfl (by kernel_rfl)).1
    · replace hF := of_f hb hF
      refine wp_skip ?_
      refine wp_reg_seq tok (orc := orcL []) (fz := []) (l := [4]) (c := _) (.inr fun i h => h) h (by kernel_rfl) (AllP.nil) ?_
      intro a w h
      cases hF
      exact wp_ret (ret_okR tok h rfl (by kernel_rfl)).1

def f174 (k : Nat) (x0 : (Int × (Int × Int))) (x1 : (Int × (Int × Int))) : Option Bool := if ((x0.1 : Int) != x1.1) then (some false) else ((f222 k x0.2 x1.2).bind fun r1 => (if (!r1) then (some false) else (some true)))
set_option maxRecDepth 100000 in
/-- 'laws.eqSpot'. -/
theorem c174 (k : Nat) (x0 : (Int × (Int × Int))) (x1 : (Int × (Int × Int))) (r : Bool) (hF : f174 k x0 x1 = some r) : PCall Try.prog 174 [⟨sh6, x0⟩, ⟨sh6, x1⟩] [⟨.bool, r⟩] := by
  refine pcall_intro Try.func174 rfl rfl (Nat.le_of_ble_eq_true rfl) ?_
  intro w0 Zi a w h
  rw [f174] at hF
  refine wp_reg_seq tok (orc := orcL []) (fz := []) (l := [2, 3]) (c := _) (.inr fun i h => h) h (by kernel_rfl) (AllP.nil) ?_
  intro a w h
  refine wp_seq ?_
  refine wp_reg_seq tok (orc := orcL []) (fz := []) (l := [2, 3, 9]) (c := _) (.inr fun i h => h) h (by kernel_rfl) (AllP.nil) ?_
  intro a w h
  refine wp_if h (b := ((x0.1 : Int) != x1.1)) (by kernel_rfl) (fun hb => ?_) (fun hb => ?_)
  · replace hF := of_t hb hF
    refine wp_reg_seq tok (orc := orcL []) (fz := []) (l := [4]) (c := _) (.inr fun i h => h) h (by kernel_rfl) (AllP.nil) ?_
    intro a w h
    cases hF
    exact wp_ret (ret_okR tok h rfl (by kernel_rfl)).1
  · replace hF := of_f hb hF
    refine wp_skip ?_
    refine wp_seq ?_
    obtain ⟨r1, hr2, hF⟩ := of_bind hF
    refine wp_reg_seq tok (orc := orcL [(14, [⟨.bool, r1⟩])]) (fz := []) (l := [15]) (c := _) (.inr fun i h => h) h (by kernel_rfl) (AllP.cons (c222 k x0.2 x1.2 r1 hr2) AllP.nil) ?_
    intro a w h
    refine wp_if h (b := (!r1)) (by kernel_rfl) (fun hb => ?_) (fun hb => ?_)
    · replace hF := of_t hb hF
      refine wp_reg_seq tok (orc := orcL []) (fz := []) (l := [4]) (c := _) (.inr fun i h => h) h (by kernel_rfl) (AllP.nil) ?_
      intro a w h
      cases hF
      exact wp_ret (ret_okR tok h rfl (by kernel_rfl)).1
    · replace hF := of_f hb hF
      refine wp_skip ?_
      refine wp_reg_seq tok (orc := orcL []) (fz := []) (l := [4]) (c := _) (.inr fun i h => h) h (by kernel_rfl) (AllP.nil) ?_
      intro a w h
      cases hF
      exact wp_ret (ret_okR tok h rfl (by kernel_rfl)).1

def f85.l30 (k : Nat) (x0 : (List (Int × (Int × Int)))) (x1 : (List (Int × (Int × Int)))) : Nat → Int → Option Bool
  | 0, _ => none
  | m30 + 1, v50 => if (decide ((v50 : Int) < (List.length x0 : Int))) then (if (0 ≤ v50 ∧ v50 < (List.length x0 : Int)) then (if (0 ≤ v50 ∧ v50 < (List.length x1 : Int)) then ((f174 k (List.getD x0 (Int.toNat v50) ((0 : Int), ((0 : Int), (0 : Int)))) (List.getD x1 (Int.toNat v50) ((0 : Int), ((0 : Int), (0 : Int))))).bind fun r55 => (if (!r55) then (some false) else ((f85.l30 k x0 x1) m30 (IntKind.i64.wrap (v50 + (1 : Int)))))) else none) else none) else (some true)
def f85 (k : Nat) (x0 : (List (Int × (Int × Int)))) (x1 : (List (Int × (Int × Int)))) : Option Bool := if (((List.length x0 : Int) : Int) != (List.length x1 : Int)) then (some false) else (f85.l30 k x0 x1 k (0 : Int))
set_option maxRecDepth 100000 in
/-- 'laws.eqSpotS'. -/
theorem c85 (k : Nat) (x0 : (List (Int × (Int × Int)))) (x1 : (List (Int × (Int × Int)))) (r : Bool) (hF : f85 k x0 x1 = some r) : PCall Try.prog 85 [⟨sh19, x0⟩, ⟨sh19, x1⟩] [⟨.bool, r⟩] := by
  refine pcall_intro Try.func85 rfl rfl (Nat.le_of_ble_eq_true rfl) ?_
  intro w0 Zi a w h
  rw [f85] at hF
  refine wp_reg_seq tok (orc := orcL []) (fz := []) (l := [0, 1]) (c := _) (.inr fun i h => h) h (by kernel_rfl) (AllP.nil) ?_
  intro a w h
  refine wp_seq ?_
  refine wp_reg_seq tok (orc := orcL []) (fz := []) (l := [0, 1, 10]) (c := _) (.inr fun i h => h) h (by kernel_rfl) (AllP.nil) ?_
  intro a w h
  refine wp_if h (b := (((List.length x0 : Int) : Int) != (List.length x1 : Int))) (by kernel_rfl) (fun hb => ?_) (fun hb => ?_)
  · replace hF := of_t hb hF
    refine wp_reg_seq tok (orc := orcL []) (fz := []) (l := [4]) (c := _) (.inr fun i h => h) h (by kernel_rfl) (AllP.nil) ?_
    intro a w h
    cases hF
    exact wp_ret (ret_okR tok h rfl (by kernel_rfl)).1
  · replace hF := of_f hb hF
    refine wp_skip ?_
    refine wp_seq ?_
    refine wp_reg_seq tok (orc := orcL []) (fz := []) (l := [0, 1, 5]) (c := _) (.inr fun i h => h) h (by kernel_rfl) (AllP.nil) ?_
    intro a w h
    refine wp_block ?_
    refine wp_loop_fuel (f85.l30 k x0 x1) (fun (v50 : Int) => [(0, .val sh19 x0), (1, .val sh19 x1), (5, .val (.int .i64) v50)]) (fun v h => by rw [f85.l30] at h; cases h) ?_ hF (h.arrive (fz := []) (l := [0, 1, 5]) (.inr fun i h => h) (by kernel_rfl))
    intro m30 v50 a w hF h
    rw [f85.l30] at hF
    refine wp_seq ?_
    refine wp_reg_seq tok (orc := orcL []) (fz := []) (l := [0, 1, 5, 14]) (c := _) (.inr fun i h => h) h (by kernel_rfl) (AllP.nil) ?_
    intro a w h
    refine wp_if h (b := (decide ((v50 : Int) < (List.length x0 : Int)))) (by kernel_rfl) (fun hb => ?_) (fun hb => ?_)
    · replace hF := of_t hb hF
      refine wp_skip ?_
      refine wp_seq <| wp_block ?_
      obtain ⟨hc56, hF⟩ := of_if hF
      obtain ⟨hc57, hF⟩ := of_if hF
      obtain ⟨r55, hr58, hF⟩ := of_bind hF
      refine wp_regy_seq tok (orc := orcL [(25, [⟨.bool, r55⟩])]) (fz := []) (l := [0, 1, 5, 26]) (c := _) ([], [], [], []) 10 (.inr fun i h => h) h (by kernel_rfl) (by kernel_rfl) (AllP.cons hc56 (AllP.cons hc57 (AllP.cons (c174 k (List.getD x0 (Int.toNat v50) ((0 : Int), ((0 : Int), (0 : Int)))) (List.getD x1 (Int.toNat v50) ((0 : Int), ((0 : Int), (0 : Int)))) r55 hr58) AllP.nil))) ?_
      intro a w h
      refine wp_if h (b := (!r55)) (by kernel_rfl) (fun hb => ?_) (fun hb => ?_)
      · replace hF := of_t hb hF
        refine wp_reg_seq tok (orc := orcL []) (fz := []) (l := [4]) (c := _) (.inr fun i h => h) h (by kernel_rfl) (AllP.nil) ?_
        intro a w h
        cases hF
        exact wp_ret (ret_okR tok h rfl (by kernel_rfl)).1
      · replace hF := of_f hb hF
        refine wp_skip ?_
        refine wp_reg tok (orc := orcL []) (fz := []) (l := [0, 1, 5]) (c := _) (.inr fun i h => h) h (by kernel_rfl) (AllP.nil) ?_
        intro a w h
        exact ⟨(IntKind.i64.wrap (v50 + (1 : Int))), hF, h.arrive (fz := []) (l := [0, 1, 5]) (.inr fun i h => h) (by kernel_rfl)⟩
    · replace hF := of_f hb hF
      refine wp_exit ?_
      refine wp_reg_seq tok (orc := orcL []) (fz := []) (l := [4]) (c := _) (.inr fun i h => h) h (by kernel_rfl) (AllP.nil) ?_
      intro a w h
      cases hF
      exact wp_ret (ret_okR tok h rfl (by kernel_rfl)).1

def f175 (k : Nat) (x0 : (Int × (Int × (Int × (Int × (Int × ByteArray)))))) (x1 : (Int × (Int × (Int × (Int × (Int × ByteArray)))))) : Option Bool := if ((x0.1 : Int) != x1.1) then (some false) else (if ((x0.2.1 : Int) != x1.2.1) then (some false) else (if ((x0.2.2.1 : Int) != x1.2.2.1) then (some false) else (if ((x0.2.2.2.1 : Int) != x1.2.2.2.1) then (some false) else (if ((x0.2.2.2.2.1 : Int) != x1.2.2.2.2.1) then (some false) else (if (!(ByteArray.toList x0.2.2.2.2.2 == ByteArray.toList x1.2.2.2.2.2)) then (some false) else (some true))))))
set_option maxRecDepth 100000 in
/-- 'laws.eqRoad'. -/
theorem c175 (k : Nat) (x0 : (Int × (Int × (Int × (Int × (Int × ByteArray)))))) (x1 : (Int × (Int × (Int × (Int × (Int × ByteArray)))))) (r : Bool) (hF : f175 k x0 x1 = some r) : PCall Try.prog 175 [⟨sh1, x0⟩, ⟨sh1, x1⟩] [⟨.bool, r⟩] := by
  refine pcall_intro Try.func175 rfl rfl (Nat.le_of_ble_eq_true rfl) ?_
  intro w0 Zi a w h
  rw [f175] at hF
  refine wp_reg_seq tok (orc := orcL []) (fz := []) (l := [2, 3]) (c := _) (.inr fun i h => h) h (by kernel_rfl) (AllP.nil) ?_
  intro a w h
  refine wp_seq ?_
  refine wp_reg_seq tok (orc := orcL []) (fz := []) (l := [2, 3, 9]) (c := _) (.inr fun i h => h) h (by kernel_rfl) (AllP.nil) ?_
  intro a w h
  refine wp_if h (b := ((x0.1 : Int) != x1.1)) (by kernel_rfl) (fun hb => ?_) (fun hb => ?_)
  · replace hF := of_t hb hF
    refine wp_reg_seq tok (orc := orcL []) (fz := []) (l := [4]) (c := _) (.inr fun i h => h) h (by kernel_rfl) (AllP.nil) ?_
    intro a w h
    cases hF
    exact wp_ret (ret_okR tok h rfl (by kernel_rfl)).1
  · replace hF := of_f hb hF
    refine wp_skip ?_
    refine wp_seq ?_
    refine wp_reg_seq tok (orc := orcL []) (fz := []) (l := [2, 3, 14]) (c := _) (.inr fun i h => h) h (by kernel_rfl) (AllP.nil) ?_
    intro a w h
    refine wp_if h (b := ((x0.2.1 : Int) != x1.2.1)) (by kernel_rfl) (fun hb => ?_) (fun hb => ?_)
    · replace hF := of_t hb hF
      refine wp_reg_seq tok (orc := orcL []) (fz := []) (l := [4]) (c := _) (.inr fun i h => h) h (by kernel_rfl) (AllP.nil) ?_
      intro a w h
      cases hF
      exact wp_ret (ret_okR tok h rfl (by kernel_rfl)).1
    · replace hF := of_f hb hF
      refine wp_skip ?_
      refine wp_seq ?_
      refine wp_reg_seq tok (orc := orcL []) (fz := []) (l := [2, 3, 19]) (c := _) (.inr fun i h => h) h (by kernel_rfl) (AllP.nil) ?_
      intro a w h
      refine wp_if h (b := ((x0.2.2.1 : Int) != x1.2.2.1)) (by kernel_rfl) (fun hb => ?_) (fun hb => ?_)
      · replace hF := of_t hb hF
        refine wp_reg_seq tok (orc := orcL []) (fz := []) (l := [4]) (c := _) (.inr fun i h => h) h (by kernel_rfl) (AllP.nil) ?_
        intro a w h
        cases hF
        exact wp_ret (ret_okR tok h rfl (by kernel_rfl)).1
      · replace hF := of_f hb hF
        refine wp_skip ?_
        refine wp_seq ?_
        refine wp_reg_seq tok (orc := orcL []) (fz := []) (l := [2, 3, 24]) (c := _) (.inr fun i h => h) h (by kernel_rfl) (AllP.nil) ?_
        intro a w h
        refine wp_if h (b := ((x0.2.2.2.1 : Int) != x1.2.2.2.1)) (by kernel_rfl) (fun hb => ?_) (fun hb => ?_)
        · replace hF := of_t hb hF
          refine wp_reg_seq tok (orc := orcL []) (fz := []) (l := [4]) (c := _) (.inr fun i h => h) h (by kernel_rfl) (AllP.nil) ?_
          intro a w h
          cases hF
          exact wp_ret (ret_okR tok h rfl (by kernel_rfl)).1
        · replace hF := of_f hb hF
          refine wp_skip ?_
          refine wp_seq ?_
          refine wp_reg_seq tok (orc := orcL []) (fz := []) (l := [2, 3, 29]) (c := _) (.inr fun i h => h) h (by kernel_rfl) (AllP.nil) ?_
          intro a w h
          refine wp_if h (b := ((x0.2.2.2.2.1 : Int) != x1.2.2.2.2.1)) (by kernel_rfl) (fun hb => ?_) (fun hb => ?_)
          · replace hF := of_t hb hF
            refine wp_reg_seq tok (orc := orcL []) (fz := []) (l := [4]) (c := _) (.inr fun i h => h) h (by kernel_rfl) (AllP.nil) ?_
            intro a w h
            cases hF
            exact wp_ret (ret_okR tok h rfl (by kernel_rfl)).1
          · replace hF := of_f hb hF
            refine wp_skip ?_
            refine wp_seq ?_
            refine wp_reg_seq tok (orc := orcL []) (fz := []) (l := [34]) (c := _) (.inr fun i h => h) h (by kernel_rfl) (AllP.nil) ?_
            intro a w h
            refine wp_if h (b := (!(ByteArray.toList x0.2.2.2.2.2 == ByteArray.toList x1.2.2.2.2.2))) (by kernel_rfl) (fun hb => ?_) (fun hb => ?_)
            · replace hF := of_t hb hF
              refine wp_reg_seq tok (orc := orcL []) (fz := []) (l := [4]) (c := _) (.inr fun i h => h) h (by kernel_rfl) (AllP.nil) ?_
              intro a w h
              cases hF
              exact wp_ret (ret_okR tok h rfl (by kernel_rfl)).1
            · replace hF := of_f hb hF
              refine wp_skip ?_
              refine wp_reg_seq tok (orc := orcL []) (fz := []) (l := [4]) (c := _) (.inr fun i h => h) h (by kernel_rfl) (AllP.nil) ?_
              intro a w h
              cases hF
              exact wp_ret (ret_okR tok h rfl (by kernel_rfl)).1

def f86.l30 (k : Nat) (x0 : (List (Int × (Int × (Int × (Int × (Int × ByteArray))))))) (x1 : (List (Int × (Int × (Int × (Int × (Int × ByteArray))))))) : Nat → Int → Option Bool
  | 0, _ => none
  | m30 + 1, v50 => if (decide ((v50 : Int) < (List.length x0 : Int))) then (if (0 ≤ v50 ∧ v50 < (List.length x0 : Int)) then (if (0 ≤ v50 ∧ v50 < (List.length x1 : Int)) then ((f175 k (List.getD x0 (Int.toNat v50) ((0 : Int), ((0 : Int), ((0 : Int), ((0 : Int), ((0 : Int), (⟨#[]⟩ : ByteArray))))))) (List.getD x1 (Int.toNat v50) ((0 : Int), ((0 : Int), ((0 : Int), ((0 : Int), ((0 : Int), (⟨#[]⟩ : ByteArray)))))))).bind fun r55 => (if (!r55) then (some false) else ((f86.l30 k x0 x1) m30 (IntKind.i64.wrap (v50 + (1 : Int)))))) else none) else none) else (some true)
def f86 (k : Nat) (x0 : (List (Int × (Int × (Int × (Int × (Int × ByteArray))))))) (x1 : (List (Int × (Int × (Int × (Int × (Int × ByteArray))))))) : Option Bool := if (((List.length x0 : Int) : Int) != (List.length x1 : Int)) then (some false) else (f86.l30 k x0 x1 k (0 : Int))
set_option maxRecDepth 100000 in
/-- 'laws.eqRoadS'. -/
theorem c86 (k : Nat) (x0 : (List (Int × (Int × (Int × (Int × (Int × ByteArray))))))) (x1 : (List (Int × (Int × (Int × (Int × (Int × ByteArray))))))) (r : Bool) (hF : f86 k x0 x1 = some r) : PCall Try.prog 86 [⟨sh20, x0⟩, ⟨sh20, x1⟩] [⟨.bool, r⟩] := by
  refine pcall_intro Try.func86 rfl rfl (Nat.le_of_ble_eq_true rfl) ?_
  intro w0 Zi a w h
  rw [f86] at hF
  refine wp_reg_seq tok (orc := orcL []) (fz := []) (l := [0, 1]) (c := _) (.inr fun i h => h) h (by kernel_rfl) (AllP.nil) ?_
  intro a w h
  refine wp_seq ?_
  refine wp_reg_seq tok (orc := orcL []) (fz := []) (l := [0, 1, 10]) (c := _) (.inr fun i h => h) h (by kernel_rfl) (AllP.nil) ?_
  intro a w h
  refine wp_if h (b := (((List.length x0 : Int) : Int) != (List.length x1 : Int))) (by kernel_rfl) (fun hb => ?_) (fun hb => ?_)
  · replace hF := of_t hb hF
    refine wp_reg_seq tok (orc := orcL []) (fz := []) (l := [4]) (c := _) (.inr fun i h => h) h (by kernel_rfl) (AllP.nil) ?_
    intro a w h
    cases hF
    exact wp_ret (ret_okR tok h rfl (by kernel_rfl)).1
  · replace hF := of_f hb hF
    refine wp_skip ?_
    refine wp_seq ?_
    refine wp_reg_seq tok (orc := orcL []) (fz := []) (l := [0, 1, 5]) (c := _) (.inr fun i h => h) h (by kernel_rfl) (AllP.nil) ?_
    intro a w h
    refine wp_block ?_
    refine wp_loop_fuel (f86.l30 k x0 x1) (fun (v50 : Int) => [(0, .val sh20 x0), (1, .val sh20 x1), (5, .val (.int .i64) v50)]) (fun v h => by rw [f86.l30] at h; cases h) ?_ hF (h.arrive (fz := []) (l := [0, 1, 5]) (.inr fun i h => h) (by kernel_rfl))
    intro m30 v50 a w hF h
    rw [f86.l30] at hF
    refine wp_seq ?_
    refine wp_reg_seq tok (orc := orcL []) (fz := []) (l := [0, 1, 5, 14]) (c := _) (.inr fun i h => h) h (by kernel_rfl) (AllP.nil) ?_
    intro a w h
    refine wp_if h (b := (decide ((v50 : Int) < (List.length x0 : Int)))) (by kernel_rfl) (fun hb => ?_) (fun hb => ?_)
    · replace hF := of_t hb hF
      refine wp_skip ?_
      refine wp_seq <| wp_block ?_
      obtain ⟨hc56, hF⟩ := of_if hF
      obtain ⟨hc57, hF⟩ := of_if hF
      obtain ⟨r55, hr58, hF⟩ := of_bind hF
      refine wp_regy_seq tok (orc := orcL [(25, [⟨.bool, r55⟩])]) (fz := []) (l := [0, 1, 5, 26]) (c := _) ([], [], [], []) 10 (.inr fun i h => h) h (by kernel_rfl) (by kernel_rfl) (AllP.cons hc56 (AllP.cons hc57 (AllP.cons (c175 k (List.getD x0 (Int.toNat v50) ((0 : Int), ((0 : Int), ((0 : Int), ((0 : Int), ((0 : Int), (⟨#[]⟩ : ByteArray))))))) (List.getD x1 (Int.toNat v50) ((0 : Int), ((0 : Int), ((0 : Int), ((0 : Int), ((0 : Int), (⟨#[]⟩ : ByteArray))))))) r55 hr58) AllP.nil))) ?_
      intro a w h
      refine wp_if h (b := (!r55)) (by kernel_rfl) (fun hb => ?_) (fun hb => ?_)
      · replace hF := of_t hb hF
        refine wp_reg_seq tok (orc := orcL []) (fz := []) (l := [4]) (c := _) (.inr fun i h => h) h (by kernel_rfl) (AllP.nil) ?_
        intro a w h
        cases hF
        exact wp_ret (ret_okR tok h rfl (by kernel_rfl)).1
      · replace hF := of_f hb hF
        refine wp_skip ?_
        refine wp_reg tok (orc := orcL []) (fz := []) (l := [0, 1, 5]) (c := _) (.inr fun i h => h) h (by kernel_rfl) (AllP.nil) ?_
        intro a w h
        exact ⟨(IntKind.i64.wrap (v50 + (1 : Int))), hF, h.arrive (fz := []) (l := [0, 1, 5]) (.inr fun i h => h) (by kernel_rfl)⟩
    · replace hF := of_f hb hF
      refine wp_exit ?_
      refine wp_reg_seq tok (orc := orcL []) (fz := []) (l := [4]) (c := _) (.inr fun i h => h) h (by kernel_rfl) (AllP.nil) ?_
      intro a w h
      cases hF
      exact wp_ret (ret_okR tok h rfl (by kernel_rfl)).1

def f176 (k : Nat) (x0 : (Int × Int)) (x1 : (Int × Int)) : Option Bool := if ((x0.1 : Int) != x1.1) then (some false) else (if ((x0.2 : Int) != x1.2) then (some false) else (some true))
set_option maxRecDepth 100000 in
/-- 'laws.eqBan'. -/
theorem c176 (k : Nat) (x0 : (Int × Int)) (x1 : (Int × Int)) (r : Bool) (hF : f176 k x0 x1 = some r) : PCall Try.prog 176 [⟨sh5, x0⟩, ⟨sh5, x1⟩] [⟨.bool, r⟩] := by
  refine pcall_intro Try.func176 rfl rfl (Nat.le_of_ble_eq_true rfl) ?_
  intro w0 Zi a w h
  rw [f176] at hF
  refine wp_reg_seq tok (orc := orcL []) (fz := []) (l := [2, 3]) (c := _) (.inr fun i h => h) h (by kernel_rfl) (AllP.nil) ?_
  intro a w h
  refine wp_seq ?_
  refine wp_reg_seq tok (orc := orcL []) (fz := []) (l := [2, 3, 9]) (c := _) (.inr fun i h => h) h (by kernel_rfl) (AllP.nil) ?_
  intro a w h
  refine wp_if h (b := ((x0.1 : Int) != x1.1)) (by kernel_rfl) (fun hb => ?_) (fun hb => ?_)
  · replace hF := of_t hb hF
    refine wp_reg_seq tok (orc := orcL []) (fz := []) (l := [4]) (c := _) (.inr fun i h => h) h (by kernel_rfl) (AllP.nil) ?_
    intro a w h
    cases hF
    exact wp_ret (ret_okR tok h rfl (by kernel_rfl)).1
  · replace hF := of_f hb hF
    refine wp_skip ?_
    refine wp_seq ?_
    refine wp_reg_seq tok (orc := orcL []) (fz := []) (l := [14]) (c := _) (.inr fun i h => h) h (by kernel_rfl) (AllP.nil) ?_
    intro a w h
    refine wp_if h (b := ((x0.2 : Int) != x1.2)) (by kernel_rfl) (fun hb => ?_) (fun hb => ?_)
    · replace hF := of_t hb hF
      refine wp_reg_seq tok (orc := orcL []) (fz := []) (l := [4]) (c := _) (.inr fun i h => h) h (by kernel_rfl) (AllP.nil) ?_
      intro a w h
      cases hF
      exact wp_ret (ret_okR tok h rfl (by kernel_rfl)).1
    · replace hF := of_f hb hF
      refine wp_skip ?_
      refine wp_reg_seq tok (orc := orcL []) (fz := []) (l := [4]) (c := _) (.inr fun i h => h) h (by kernel_rfl) (AllP.nil) ?_
      intro a w h
      cases hF
      exact wp_ret (ret_okR tok h rfl (by kernel_rfl)).1

def f87.l30 (k : Nat) (x0 : (List (Int × Int))) (x1 : (List (Int × Int))) : Nat → Int → Option Bool
  | 0, _ => none
  | m30 + 1, v50 => if (decide ((v50 : Int) < (List.length x0 : Int))) then (if (0 ≤ v50 ∧ v50 < (List.length x0 : Int)) then (if (0 ≤ v50 ∧ v50 < (List.length x1 : Int)) then ((f176 k (List.getD x0 (Int.toNat v50) ((0 : Int), (0 : Int))) (List.getD x1 (Int.toNat v50) ((0 : Int), (0 : Int)))).bind fun r55 => (if (!r55) then (some false) else ((f87.l30 k x0 x1) m30 (IntKind.i64.wrap (v50 + (1 : Int)))))) else none) else none) else (some true)
def f87 (k : Nat) (x0 : (List (Int × Int))) (x1 : (List (Int × Int))) : Option Bool := if (((List.length x0 : Int) : Int) != (List.length x1 : Int)) then (some false) else (f87.l30 k x0 x1 k (0 : Int))
set_option maxRecDepth 100000 in
/-- 'laws.eqBanS'. -/
theorem c87 (k : Nat) (x0 : (List (Int × Int))) (x1 : (List (Int × Int))) (r : Bool) (hF : f87 k x0 x1 = some r) : PCall Try.prog 87 [⟨sh21, x0⟩, ⟨sh21, x1⟩] [⟨.bool, r⟩] := by
  refine pcall_intro Try.func87 rfl rfl (Nat.le_of_ble_eq_true rfl) ?_
  intro w0 Zi a w h
  rw [f87] at hF
  refine wp_reg_seq tok (orc := orcL []) (fz := []) (l := [0, 1]) (c := _) (.inr fun i h => h) h (by kernel_rfl) (AllP.nil) ?_
  intro a w h
  refine wp_seq ?_
  refine wp_reg_seq tok (orc := orcL []) (fz := []) (l := [0, 1, 10]) (c := _) (.inr fun i h => h) h (by kernel_rfl) (AllP.nil) ?_
  intro a w h
  refine wp_if h (b := (((List.length x0 : Int) : Int) != (List.length x1 : Int))) (by kernel_rfl) (fun hb => ?_) (fun hb => ?_)
  · replace hF := of_t hb hF
    refine wp_reg_seq tok (orc := orcL []) (fz := []) (l := [4]) (c := _) (.inr fun i h => h) h (by kernel_rfl) (AllP.nil) ?_
    intro a w h
    cases hF
    exact wp_ret (ret_okR tok h rfl (by kernel_rfl)).1
  · replace hF := of_f hb hF
    refine wp_skip ?_
    refine wp_seq ?_
    refine wp_reg_seq tok (orc := orcL []) (fz := []) (l := [0, 1, 5]) (c := _) (.inr fun i h => h) h (by kernel_rfl) (AllP.nil) ?_
    intro a w h
    refine wp_block ?_
    refine wp_loop_fuel (f87.l30 k x0 x1) (fun (v50 : Int) => [(0, .val sh21 x0), (1, .val sh21 x1), (5, .val (.int .i64) v50)]) (fun v h => by rw [f87.l30] at h; cases h) ?_ hF (h.arrive (fz := []) (l := [0, 1, 5]) (.inr fun i h => h) (by kernel_rfl))
    intro m30 v50 a w hF h
    rw [f87.l30] at hF
    refine wp_seq ?_
    refine wp_reg_seq tok (orc := orcL []) (fz := []) (l := [0, 1, 5, 14]) (c := _) (.inr fun i h => h) h (by kernel_rfl) (AllP.nil) ?_
    intro a w h
    refine wp_if h (b := (decide ((v50 : Int) < (List.length x0 : Int)))) (by kernel_rfl) (fun hb => ?_) (fun hb => ?_)
    · replace hF := of_t hb hF
      refine wp_skip ?_
      refine wp_seq <| wp_block ?_
      obtain ⟨hc56, hF⟩ := of_if hF
      obtain ⟨hc57, hF⟩ := of_if hF
      obtain ⟨r55, hr58, hF⟩ := of_bind hF
      refine wp_regy_seq tok (orc := orcL [(25, [⟨.bool, r55⟩])]) (fz := []) (l := [0, 1, 5, 26]) (c := _) ([], [], [], []) 10 (.inr fun i h => h) h (by kernel_rfl) (by kernel_rfl) (AllP.cons hc56 (AllP.cons hc57 (AllP.cons (c176 k (List.getD x0 (Int.toNat v50) ((0 : Int), (0 : Int))) (List.getD x1 (Int.toNat v50) ((0 : Int), (0 : Int))) r55 hr58) AllP.nil))) ?_
      intro a w h
      refine wp_if h (b := (!r55)) (by kernel_rfl) (fun hb => ?_) (fun hb => ?_)
      · replace hF := of_t hb hF
        refine wp_reg_seq tok (orc := orcL []) (fz := []) (l := [4]) (c := _) (.inr fun i h => h) h (by kernel_rfl) (AllP.nil) ?_
        intro a w h
        cases hF
        exact wp_ret (ret_okR tok h rfl (by kernel_rfl)).1
      · replace hF := of_f hb hF
        refine wp_skip ?_
        refine wp_reg tok (orc := orcL []) (fz := []) (l := [0, 1, 5]) (c := _) (.inr fun i h => h) h (by kernel_rfl) (AllP.nil) ?_
        intro a w h
        exact ⟨(IntKind.i64.wrap (v50 + (1 : Int))), hF, h.arrive (fz := []) (l := [0, 1, 5]) (.inr fun i h => h) (by kernel_rfl)⟩
    · replace hF := of_f hb hF
      refine wp_exit ?_
      refine wp_reg_seq tok (orc := orcL []) (fz := []) (l := [4]) (c := _) (.inr fun i h => h) h (by kernel_rfl) (AllP.nil) ?_
      intro a w h
      cases hF
      exact wp_ret (ret_okR tok h rfl (by kernel_rfl)).1

def f20 (k : Nat) (x0 : ((List (Int × (Int × Int))) × ((List (Int × (Int × (Int × (Int × (Int × ByteArray)))))) × (List (Int × Int))))) (x1 : ((List (Int × (Int × Int))) × ((List (Int × (Int × (Int × (Int × (Int × ByteArray)))))) × (List (Int × Int))))) : Option Bool := (f85 k x0.1 x1.1).bind fun r1 => (if (!r1) then (some false) else ((f86 k x0.2.1 x1.2.1).bind fun r2 => (if (!r2) then (some false) else ((f87 k x0.2.2 x1.2.2).bind fun r3 => (if (!r3) then (some false) else (some true))))))
set_option maxRecDepth 100000 in
/-- 'laws.eqGraph'. -/
theorem c20 (k : Nat) (x0 : ((List (Int × (Int × Int))) × ((List (Int × (Int × (Int × (Int × (Int × ByteArray)))))) × (List (Int × Int))))) (x1 : ((List (Int × (Int × Int))) × ((List (Int × (Int × (Int × (Int × (Int × ByteArray)))))) × (List (Int × Int))))) (r : Bool) (hF : f20 k x0 x1 = some r) : PCall Try.prog 20 [⟨sh12, x0⟩, ⟨sh12, x1⟩] [⟨.bool, r⟩] := by
  refine pcall_intro Try.func20 rfl rfl (Nat.le_of_ble_eq_true rfl) ?_
  intro w0 Zi a w h
  rw [f20] at hF
  refine wp_reg_seq tok (orc := orcL []) (fz := []) (l := [2, 3]) (c := _) (.inr fun i h => h) h (by kernel_rfl) (AllP.nil) ?_
  intro a w h
  refine wp_seq ?_
  obtain ⟨r1, hr6, hF⟩ := of_bind hF
  refine wp_reg_seq tok (orc := orcL [(9, [⟨.bool, r1⟩])]) (fz := []) (l := [2, 3, 10]) (c := _) (.inr fun i h => h) h (by kernel_rfl) (AllP.cons (c85 k x0.1 x1.1 r1 hr6) AllP.nil) ?_
  intro a w h
  refine wp_if h (b := (!r1)) (by kernel_rfl) (fun hb => ?_) (fun hb => ?_)
  · replace hF := of_t hb hF
    refine wp_reg_seq tok (orc := orcL []) (fz := []) (l := [4]) (c := _) (.inr fun i h => h) h (by kernel_rfl) (AllP.nil) ?_
    intro a w h
    cases hF
    exact wp_ret (ret_okR tok h rfl (by kernel_rfl)).1
  · replace hF := of_f hb hF
    refine wp_skip ?_
    refine wp_seq ?_
    obtain ⟨r2, hr5, hF⟩ := of_bind hF
    refine wp_reg_seq tok (orc := orcL [(15, [⟨.bool, r2⟩])]) (fz := []) (l := [2, 3, 16]) (c := _) (.inr fun i h => h) h (by kernel_rfl) (AllP.cons (c86 k x0.2.1 x1.2.1 r2 hr5) AllP.nil) ?_
    intro a w h
    refine wp_if h (b := (!r2)) (by kernel_rfl) (fun hb => ?_) (fun hb => ?_)
    · replace hF := of_t hb hF
      refine wp_reg_seq tok (orc := orcL []) (fz := []) (l := [4]) (c := _) (.inr fun i h => h) h (by kernel_rfl) (AllP.nil) ?_
      intro a w h
      cases hF
      exact wp_ret (ret_okR tok h rfl (by kernel_rfl)).1
    · replace hF := of_f hb hF
      refine wp_skip ?_
      refine wp_seq ?_
      obtain ⟨r3, hr4, hF⟩ := of_bind hF
      refine wp_reg_seq tok (orc := orcL [(21, [⟨.bool, r3⟩])]) (fz := []) (l := [22]) (c := _) (.inr fun i h => h) h (by kernel_rfl) (AllP.cons (c87 k x0.2.2 x1.2.2 r3 hr4) AllP.nil) ?_
      intro a w h
      refine wp_if h (b := (!r3)) (by kernel_rfl) (fun hb => ?_) (fun hb => ?_)
      · replace hF := of_t hb hF
        refine wp_reg_seq tok (orc := orcL []) (fz := []) (l := [4]) (c := _) (.inr fun i h => h) h (by kernel_rfl) (AllP.nil) ?_
        intro a w h
        cases hF
        exact wp_ret (ret_okR tok h rfl (by kernel_rfl)).1
      · replace hF := of_f hb hF
        refine wp_skip ?_
        refine wp_reg_seq tok (orc := orcL []) (fz := []) (l := [4]) (c := _) (.inr fun i h => h) h (by kernel_rfl) (AllP.nil) ?_
        intro a w h
        cases hF
        exact wp_ret (ret_okR tok h rfl (by kernel_rfl)).1

def f21.l18 (k : Nat) (x0 : (List Int)) (x1 : (List Int)) : Nat → Int → Option Bool
  | 0, _ => none
  | m18 + 1, v30 => if (decide ((v30 : Int) < (List.length x0 : Int))) then (if (0 ≤ v30 ∧ v30 < (List.length x0 : Int)) then (if (0 ≤ v30 ∧ v30 < (List.length x1 : Int)) then (if (((List.getD x0 (Int.toNat v30) (0 : Int)) : Int) != (List.getD x1 (Int.toNat v30) (0 : Int))) then (some false) else ((f21.l18 k x0 x1) m18 (IntKind.i64.wrap (v30 + (1 : Int))))) else none) else none) else (some true)
def f21 (k : Nat) (x0 : (List Int)) (x1 : (List Int)) : Option Bool := if (((List.length x0 : Int) : Int) != (List.length x1 : Int)) then (some false) else (f21.l18 k x0 x1 k (0 : Int))
set_option maxRecDepth 100000 in
/-- 'laws.eqInt64S'. -/
theorem c21 (k : Nat) (x0 : (List Int)) (x1 : (List Int)) (r : Bool) (hF : f21 k x0 x1 = some r) : PCall Try.prog 21 [⟨(.sl false 2 (.int .i64)), x0⟩, ⟨(.sl false 2 (.int .i64)), x1⟩] [⟨.bool, r⟩] := by
  refine pcall_intro Try.func21 rfl rfl (Nat.le_of_ble_eq_true rfl) ?_
  intro w0 Zi a w h
  rw [f21] at hF
  refine wp_reg_seq tok (orc := orcL []) (fz := []) (l := [0, 1]) (c := _) (.inr fun i h => h) h (by kernel_rfl) (AllP.nil) ?_
  intro a w h
  refine wp_seq ?_
  refine wp_reg_seq tok (orc := orcL []) (fz := []) (l := [0, 1, 10]) (c := _) (.inr fun i h => h) h (by kernel_rfl) (AllP.nil) ?_
  intro a w h
  refine wp_if h (b := (((List.length x0 : Int) : Int) != (List.length x1 : Int))) (by kernel_rfl) (fun hb => ?_) (fun hb => ?_)
  · replace hF := of_t hb hF
    refine wp_reg_seq tok (orc := orcL []) (fz := []) (l := [4]) (c := _) (.inr fun i h => h) h (by kernel_rfl) (AllP.nil) ?_
    intro a w h
    cases hF
    exact wp_ret (ret_okR tok h rfl (by kernel_rfl)).1
  · replace hF := of_f hb hF
    refine wp_skip ?_
    refine wp_seq ?_
    refine wp_reg_seq tok (orc := orcL []) (fz := []) (l := [0, 1, 5]) (c := _) (.inr fun i h => h) h (by kernel_rfl) (AllP.nil) ?_
    intro a w h
    refine wp_block ?_
    refine wp_loop_fuel (f21.l18 k x0 x1) (fun (v30 : Int) => [(0, .val (.sl false 2 (.int .i64)) x0), (1, .val (.sl false 2 (.int .i64)) x1), (5, .val (.int .i64) v30)]) (fun v h => by rw [f21.l18] at h; cases h) ?_ hF (h.arrive (fz := []) (l := [0, 1, 5]) (.inr fun i h => h) (by kernel_rfl))
    intro m18 v30 a w hF h
    rw [f21.l18] at hF
    refine wp_seq ?_
    refine wp_reg_seq tok (orc := orcL []) (fz := []) (l := [0, 1, 5, 14]) (c := _) (.inr fun i h => h) h (by kernel_rfl) (AllP.nil) ?_
    intro a w h
    refine wp_if h (b := (decide ((v30 : Int) < (List.length x0 : Int)))) (by kernel_rfl) (fun hb => ?_) (fun hb => ?_)
    · replace hF := of_t hb hF
      refine wp_skip ?_
      refine wp_seq <| wp_block ?_
      obtain ⟨hc33, hF⟩ := of_if hF
      obtain ⟨hc34, hF⟩ := of_if hF
      refine wp_regy_seq tok (orc := orcL []) (fz := []) (l := [0, 1, 5, 25]) (c := _) ([], [], [], []) 9 (.inr fun i h => h) h (by kernel_rfl) (by kernel_rfl) (AllP.cons hc33 (AllP.cons hc34 AllP.nil)) ?_
      intro a w h
      refine wp_if h (b := (((List.getD x0 (Int.toNat v30) (0 : Int)) : Int) != (List.getD x1 (Int.toNat v30) (0 : Int)))) (by kernel_rfl) (fun hb => ?_) (fun hb => ?_)
      · replace hF := of_t hb hF
        refine wp_reg_seq tok (orc := orcL []) (fz := []) (l := [4]) (c := _) (.inr fun i h => h) h (by kernel_rfl) (AllP.nil) ?_
        intro a w h
        cases hF
        exact wp_ret (ret_okR tok h rfl (by kernel_rfl)).1
      · replace hF := of_f hb hF
        refine wp_skip ?_
        refine wp_reg tok (orc := orcL []) (fz := []) (l := [0, 1, 5]) (c := _) (.inr fun i h => h) h (by kernel_rfl) (AllP.nil) ?_
        intro a w h
        exact ⟨(IntKind.i64.wrap (v30 + (1 : Int))), hF, h.arrive (fz := []) (l := [0, 1, 5]) (.inr fun i h => h) (by kernel_rfl)⟩
    · replace hF := of_f hb hF
      refine wp_exit ?_
      refine wp_reg_seq tok (orc := orcL []) (fz := []) (l := [4]) (c := _) (.inr fun i h => h) h (by kernel_rfl) (AllP.nil) ?_
      intro a w h
      cases hF
      exact wp_ret (ret_okR tok h rfl (by kernel_rfl)).1

def f88.l44 (k : Nat) : Nat → ((List (Int × (Int × Int))) × Int × Int) → Option (Int × (List (Int × (Int × Int))))
  | 0, _ => none
  | m44 + 1, (v74, v75, v76) => if (decide ((v76 : Int) < (List.length v74 : Int))) then (if (0 ≤ v76 ∧ v76 < (List.length v74 : Int)) then (if (0 ≤ v76 ∧ v76 < (List.length (List.set v74 (Int.toNat v76) (v75, (List.getD v74 (Int.toNat v76) ((0 : Int), ((0 : Int), (0 : Int)))).2)) : Int)) then ((some ((List.set (List.set v74 (Int.toNat v76) (v75, (List.getD v74 (Int.toNat v76) ((0 : Int), ((0 : Int), (0 : Int)))).2)) (Int.toNat v76) ((List.getD (List.set v74 (Int.toNat v76) (v75, (List.getD v74 (Int.toNat v76) ((0 : Int), ((0 : Int), (0 : Int)))).2)) (Int.toNat v76) ((0 : Int), ((0 : Int), (0 : Int)))).1, ((IntKind.i64.wrap (v75 + (1 : Int))), (List.getD (List.set v74 (Int.toNat v76) (v75, (List.getD v74 (Int.toNat v76) ((0 : Int), ((0 : Int), (0 : Int)))).2)) (Int.toNat v76) ((0 : Int), ((0 : Int), (0 : Int)))).2.2))) : (List (Int × (Int × Int))))).bind fun v82 => (if (0 ≤ v76 ∧ v76 < (List.length v82 : Int)) then ((f88.l44 k) m44 ((List.set v82 (Int.toNat v76) ((List.getD v82 (Int.toNat v76) ((0 : Int), ((0 : Int), (0 : Int)))).1, ((List.getD v82 (Int.toNat v76) ((0 : Int), ((0 : Int), (0 : Int)))).2.1, (IntKind.i64.wrap ((IntKind.i64.wrap (v75 + (1 : Int))) + (1 : Int)))))), (IntKind.i64.wrap ((IntKind.i64.wrap ((IntKind.i64.wrap (v75 + (1 : Int))) + (1 : Int))) + (1 : Int))), (IntKind.i64.wrap (v76 + (1 : Int))))) else none)) else none) else none) else (some (v75, v74))
def f88 (k : Nat) (x0 : (List (Int × (Int × Int)))) (x1 : Int) : Option (Int × (List (Int × (Int × Int)))) := f88.l44 k k (x0, x1, (0 : Int))
set_option maxRecDepth 100000 in
/-- 'laws.markSpotS'. -/
theorem c88 (k : Nat) (x0 : (List (Int × (Int × Int)))) (x1 : Int) (r : (Int × (List (Int × (Int × Int))))) (hF : f88 k x0 x1 = some r) : PMut Try.prog 88 [⟨sh7, x0⟩, ⟨(.int .i64), x1⟩] [⟨(.int .i64), r.1⟩] (List.set [⟨sh7, x0⟩, ⟨(.int .i64), x1⟩] 0 ⟨sh7, r.2⟩) := by
  refine pmut_intro (j := 0) (fin := ⟨sh7, r.2⟩) Try.func88 rfl rfl (Nat.le_of_ble_eq_true rfl) (Nat.le_of_ble_eq_true rfl) (by kernel_rfl) ?_
  intro w0 Zi f0 v0 a w h
  rw [f88] at hF
  refine wp_reg_seq tok (orc := orcL []) (fz := []) (l := [0, 1]) (c := _) (.inl rfl) h (by kernel_rfl) (AllP.nil) ?_
  intro a w h
  refine wp_seq ?_
  refine wp_reg_seq tok (orc := orcL []) (fz := []) (l := [0, 1, 5]) (c := _) (.inl rfl) h (by kernel_rfl) (AllP.nil) ?_
  intro a w h
  refine wp_block ?_
  refine wp_loop_fuel (f88.l44 k) (fun ((v74, v75, v76) : ((List (Int × (Int × Int))) × Int × Int)) => [(0, .val sh7 v74), (1, .val (.int .i64) v75), (5, .val (.int .i64) v76)]) (fun v h => by obtain ⟨v74, v75, v76⟩ := v; rw [f88.l44] at h; cases h) ?_ hF (h.arrive (fz := []) (l := [0, 1, 5]) (.inl rfl) (by kernel_rfl))
  intro m44 v a w hF h
  obtain ⟨v74, v75, v76⟩ := v
  rw [f88.l44] at hF
  refine wp_seq ?_
  refine wp_reg_seq tok (orc := orcL []) (fz := []) (l := [0, 1, 5, 9]) (c := _) (.inl rfl) h (by kernel_rfl) (AllP.nil) ?_
  intro a w h
  refine wp_if h (b := (decide ((v76 : Int) < (List.length v74 : Int)))) (by kernel_rfl) (fun hb => ?_) (fun hb => ?_)
  · replace hF := of_t hb hF
    refine wp_skip ?_
    refine wp_seq <| wp_block ?_
    obtain ⟨hc86, hF⟩ := of_if hF
    refine wp_reg_seq tok (orc := orcL []) (fz := []) (l := [0, 1, 5]) (c := _) (.inl rfl) h (by kernel_rfl) (AllP.cons hc86 AllP.nil) ?_
    intro a w h
    refine wp_reg_seq tok (orc := orcL []) (fz := []) (l := [0, 1, 5]) (c := _) (.inl rfl) h (by kernel_rfl) (AllP.nil) ?_
    intro a w h
    obtain ⟨hc85, hF⟩ := of_if hF
    refine wp_reg_seq tok (orc := orcL []) (fz := []) (l := [0, 1, 5]) (c := _) (.inl rfl) h (by kernel_rfl) (AllP.cons hc85 AllP.nil) ?_
    intro a w h
    obtain ⟨v82, hv84, hF⟩ := of_bind hF
    replace h := h.cast (S' := [(0, .val sh7 v82), (1, .val (.int .i64) (IntKind.i64.wrap (v75 + (1 : Int)))), (5, .val (.int .i64) v76)]) (by cases hv84; kernel_rfl)
    refine wp_reg_seq tok (orc := orcL []) (fz := []) (l := [0, 1, 5]) (c := _) (.inl rfl) h (by kernel_rfl) (AllP.nil) ?_
    intro a w h
    obtain ⟨hc83, hF⟩ := of_if hF
    refine wp_reg_seq tok (orc := orcL []) (fz := []) (l := [0, 1, 5]) (c := _) (.inl rfl) h (by kernel_rfl) (AllP.cons hc83 AllP.nil) ?_
    intro a w h
    refine wp_reg tok (orc := orcL []) (fz := []) (l := [0, 1, 5]) (c := _) (.inl rfl) h (by kernel_rfl) (AllP.nil) ?_
    intro a w h
    refine wp_reg tok (orc := orcL []) (fz := []) (l := [0, 1, 5]) (c := _) (.inl rfl) h (by kernel_rfl) (AllP.nil) ?_
    intro a w h
    exact ⟨((List.set v82 (Int.toNat v76) ((List.getD v82 (Int.toNat v76) ((0 : Int), ((0 : Int), (0 : Int)))).1, ((List.getD v82 (Int.toNat v76) ((0 : Int), ((0 : Int), (0 : Int)))).2.1, (IntKind.i64.wrap ((IntKind.i64.wrap (v75 + (1 : Int))) + (1 : Int)))))), (IntKind.i64.wrap ((IntKind.i64.wrap ((IntKind.i64.wrap (v75 + (1 : Int))) + (1 : Int))) + (1 : Int))), (IntKind.i64.wrap (v76 + (1 : Int)))), hF, h.arrive (fz := []) (l := [0, 1, 5]) (.inl rfl) (by kernel_rfl)⟩
  · replace hF := of_f hb hF
    refine wp_exit ?_
    refine wp_reg_seq tok (orc := orcL []) (fz := []) (l := [0, 4]) (c := _) (.inl rfl) h (by kernel_rfl) (AllP.nil) ?_
    intro a w h
    cases hF
    exact wp_ret (retM_ok tok h rfl (by kernel_rfl) (by kernel_rfl)).1

def f91.l19 (k : Nat) : Nat → (Int × ByteArray) → Option ByteArray
  | 0, _ => none
  | m19 + 1, (v32, v33) => if (decide ((v32 : Int) > (0 : Int))) then (if (((10 : Int) : Int) ≠ 0) then (if (ByteArray.size (strOfNums [(IntKind.u8.wrap (IntKind.i64.wrap ((48 : Int) + (Int.tmod v32 (10 : Int)))))]) + ByteArray.size v33 ≤ 9223372036854775807) then (if (((10 : Int) : Int) ≠ 0) then ((f91.l19 k) m19 ((IntKind.i64.wrap (Int.tdiv v32 (10 : Int))), ((strOfNums [(IntKind.u8.wrap (IntKind.i64.wrap ((48 : Int) + (Int.tmod v32 (10 : Int)))))]) ++ v33))) else none) else none) else none) else (if (ByteArray.size (⟨#[109]⟩ : ByteArray) + ByteArray.size v33 ≤ 9223372036854775807) then (some ((⟨#[109]⟩ : ByteArray) ++ v33)) else none)
def f91 (k : Nat) (x0 : Int) : Option ByteArray := if (decide ((x0 : Int) ≤ (0 : Int))) then (some (⟨#[109, 48]⟩ : ByteArray)) else (f91.l19 k k (x0, (⟨#[]⟩ : ByteArray)))
set_option maxRecDepth 100000 in
/-- 'laws.markText'. -/
theorem c91 (k : Nat) (x0 : Int) (r : ByteArray) (hF : f91 k x0 = some r) : PCall Try.prog 91 [⟨(.int .i64), x0⟩] [⟨.str, r⟩] := by
  refine pcall_intro Try.func91 rfl rfl (Nat.le_of_ble_eq_true rfl) ?_
  intro w0 Zi a w h
  rw [f91] at hF
  refine wp_reg_seq tok (orc := orcL []) (fz := []) (l := [0]) (c := _) (.inr fun i h => h) h (by kernel_rfl) (AllP.nil) ?_
  intro a w h
  refine wp_seq ?_
  refine wp_reg_seq tok (orc := orcL []) (fz := []) (l := [0, 5]) (c := _) (.inr fun i h => h) h (by kernel_rfl) (AllP.nil) ?_
  intro a w h
  refine wp_if h (b := (decide ((x0 : Int) ≤ (0 : Int)))) (by kernel_rfl) (fun hb => ?_) (fun hb => ?_)
  · replace hF := of_t hb hF
    refine wp_reg_seq tok (orc := orcL []) (fz := []) (l := [2]) (c := _) (.inr fun i h => h) h (by kernel_rfl) (AllP.nil) ?_
    intro a w h
    cases hF
    exact wp_ret (ret_okR tok h rfl (by kernel_rfl)).1
  · replace hF := of_f hb hF
    refine wp_skip ?_
    refine wp_reg_seq tok (orc := orcL []) (fz := []) (l := [0, 3]) (c := _) (.inr fun i h => h) h (by kernel_rfl) (AllP.nil) ?_
    intro a w h
    refine wp_seq <| wp_block ?_
    refine wp_loop_fuel (f91.l19 k) (fun ((v32, v33) : (Int × ByteArray)) => [(0, .val (.int .i64) v32), (3, .val .str v33)]) (fun v h => by obtain ⟨v32, v33⟩ := v; rw [f91.l19] at h; cases h) ?_ hF (h.arrive (fz := []) (l := [0, 3]) (.inr fun i h => h) (by kernel_rfl))
    intro m19 v a w hF h
    obtain ⟨v32, v33⟩ := v
    rw [f91.l19] at hF
    refine wp_seq ?_
    refine wp_reg_seq tok (orc := orcL []) (fz := []) (l := [0, 3, 7]) (c := _) (.inr fun i h => h) h (by kernel_rfl) (AllP.nil) ?_
    intro a w h
    refine wp_if h (b := (decide ((v32 : Int) > (0 : Int)))) (by kernel_rfl) (fun hb => ?_) (fun hb => ?_)
    · replace hF := of_t hb hF
      refine wp_skip ?_
      refine wp_block ?_
      obtain ⟨hc35, hF⟩ := of_if hF
      obtain ⟨hc36, hF⟩ := of_if hF
      refine wp_reg_seq tok (orc := orcL []) (fz := []) (l := [0, 3]) (c := _) (.inr fun i h => h) h (by kernel_rfl) (AllP.cons hc35 (AllP.cons hc36 AllP.nil)) ?_
      intro a w h
      obtain ⟨hc34, hF⟩ := of_if hF
      refine wp_reg tok (orc := orcL []) (fz := []) (l := [0, 3]) (c := _) (.inr fun i h => h) h (by kernel_rfl) (AllP.cons hc34 AllP.nil) ?_
      intro a w h
      exact ⟨((IntKind.i64.wrap (Int.tdiv v32 (10 : Int))), ((strOfNums [(IntKind.u8.wrap (IntKind.i64.wrap ((48 : Int) + (Int.tmod v32 (10 : Int)))))]) ++ v33)), hF, h.arrive (fz := []) (l := [0, 3]) (.inr fun i h => h) (by kernel_rfl)⟩
    · replace hF := of_f hb hF
      refine wp_exit ?_
      obtain ⟨hc37, hF⟩ := of_if hF
      refine wp_reg_seq tok (orc := orcL []) (fz := []) (l := [2]) (c := _) (.inr fun i h => h) h (by kernel_rfl) (AllP.cons hc37 AllP.nil) ?_
      intro a w h
      cases hF
      exact wp_ret (ret_okR tok h rfl (by kernel_rfl)).1

def f89.l110 (k : Nat) : Nat → ((List (Int × (Int × (Int × (Int × (Int × ByteArray)))))) × Int × Int) → Option (Int × (List (Int × (Int × (Int × (Int × (Int × ByteArray)))))))
  | 0, _ => none
  | m110 + 1, (v184, v185, v186) => if (decide ((v186 : Int) < (List.length v184 : Int))) then (if (0 ≤ v186 ∧ v186 < (List.length v184 : Int)) then (if (0 ≤ v186 ∧ v186 < (List.length (List.set v184 (Int.toNat v186) (v185, (List.getD v184 (Int.toNat v186) ((0 : Int), ((0 : Int), ((0 : Int), ((0 : Int), ((0 : Int), (⟨#[]⟩ : ByteArray))))))).2)) : Int)) then ((some ((List.set (List.set v184 (Int.toNat v186) (v185, (List.getD v184 (Int.toNat v186) ((0 : Int), ((0 : Int), ((0 : Int), ((0 : Int), ((0 : Int), (⟨#[]⟩ : ByteArray))))))).2)) (Int.toNat v186) ((List.getD (List.set v184 (Int.toNat v186) (v185, (List.getD v184 (Int.toNat v186) ((0 : Int), ((0 : Int), ((0 : Int), ((0 : Int), ((0 : Int), (⟨#[]⟩ : ByteArray))))))).2)) (Int.toNat v186) ((0 : Int), ((0 : Int), ((0 : Int), ((0 : Int), ((0 : Int), (⟨#[]⟩ : ByteArray))))))).1, ((IntKind.i64.wrap (v185 + (1 : Int))), (List.getD (List.set v184 (Int.toNat v186) (v185, (List.getD v184 (Int.toNat v186) ((0 : Int), ((0 : Int), ((0 : Int), ((0 : Int), ((0 : Int), (⟨#[]⟩ : ByteArray))))))).2)) (Int.toNat v186) ((0 : Int), ((0 : Int), ((0 : Int), ((0 : Int), ((0 : Int), (⟨#[]⟩ : ByteArray))))))).2.2))) : (List (Int × (Int × (Int × (Int × (Int × ByteArray)))))))).bind fun v203 => (if (0 ≤ v186 ∧ v186 < (List.length v203 : Int)) then (if (0 ≤ v186 ∧ v186 < (List.length (List.set v203 (Int.toNat v186) ((List.getD v203 (Int.toNat v186) ((0 : Int), ((0 : Int), ((0 : Int), ((0 : Int), ((0 : Int), (⟨#[]⟩ : ByteArray))))))).1, ((List.getD v203 (Int.toNat v186) ((0 : Int), ((0 : Int), ((0 : Int), ((0 : Int), ((0 : Int), (⟨#[]⟩ : ByteArray))))))).2.1, ((IntKind.i64.wrap ((IntKind.i64.wrap (v185 + (1 : Int))) + (1 : Int))), (List.getD v203 (Int.toNat v186) ((0 : Int), ((0 : Int), ((0 : Int), ((0 : Int), ((0 : Int), (⟨#[]⟩ : ByteArray))))))).2.2.2)))) : Int)) then ((some ((List.set (List.set v203 (Int.toNat v186) ((List.getD v203 (Int.toNat v186) ((0 : Int), ((0 : Int), ((0 : Int), ((0 : Int), ((0 : Int), (⟨#[]⟩ : ByteArray))))))).1, ((List.getD v203 (Int.toNat v186) ((0 : Int), ((0 : Int), ((0 : Int), ((0 : Int), ((0 : Int), (⟨#[]⟩ : ByteArray))))))).2.1, ((IntKind.i64.wrap ((IntKind.i64.wrap (v185 + (1 : Int))) + (1 : Int))), (List.getD v203 (Int.toNat v186) ((0 : Int), ((0 : Int), ((0 : Int), ((0 : Int), ((0 : Int), (⟨#[]⟩ : ByteArray))))))).2.2.2)))) (Int.toNat v186) ((List.getD (List.set v203 (Int.toNat v186) ((List.getD v203 (Int.toNat v186) ((0 : Int), ((0 : Int), ((0 : Int), ((0 : Int), ((0 : Int), (⟨#[]⟩ : ByteArray))))))).1, ((List.getD v203 (Int.toNat v186) ((0 : Int), ((0 : Int), ((0 : Int), ((0 : Int), ((0 : Int), (⟨#[]⟩ : ByteArray))))))).2.1, ((IntKind.i64.wrap ((IntKind.i64.wrap (v185 + (1 : Int))) + (1 : Int))), (List.getD v203 (Int.toNat v186) ((0 : Int), ((0 : Int), ((0 : Int), ((0 : Int), ((0 : Int), (⟨#[]⟩ : ByteArray))))))).2.2.2)))) (Int.toNat v186) ((0 : Int), ((0 : Int), ((0 : Int), ((0 : Int), ((0 : Int), (⟨#[]⟩ : ByteArray))))))).1, ((List.getD (List.set v203 (Int.toNat v186) ((List.getD v203 (Int.toNat v186) ((0 : Int), ((0 : Int), ((0 : Int), ((0 : Int), ((0 : Int), (⟨#[]⟩ : ByteArray))))))).1, ((List.getD v203 (Int.toNat v186) ((0 : Int), ((0 : Int), ((0 : Int), ((0 : Int), ((0 : Int), (⟨#[]⟩ : ByteArray))))))).2.1, ((IntKind.i64.wrap ((IntKind.i64.wrap (v185 + (1 : Int))) + (1 : Int))), (List.getD v203 (Int.toNat v186) ((0 : Int), ((0 : Int), ((0 : Int), ((0 : Int), ((0 : Int), (⟨#[]⟩ : ByteArray))))))).2.2.2)))) (Int.toNat v186) ((0 : Int), ((0 : Int), ((0 : Int), ((0 : Int), ((0 : Int), (⟨#[]⟩ : ByteArray))))))).2.1, ((List.getD (List.set v203 (Int.toNat v186) ((List.getD v203 (Int.toNat v186) ((0 : Int), ((0 : Int), ((0 : Int), ((0 : Int), ((0 : Int), (⟨#[]⟩ : ByteArray))))))).1, ((List.getD v203 (Int.toNat v186) ((0 : Int), ((0 : Int), ((0 : Int), ((0 : Int), ((0 : Int), (⟨#[]⟩ : ByteArray))))))).2.1, ((IntKind.i64.wrap ((IntKind.i64.wrap (v185 + (1 : Int))) + (1 : Int))), (List.getD v203 (Int.toNat v186) ((0 : Int), ((0 : Int), ((0 : Int), ((0 : Int), ((0 : Int), (⟨#[]⟩ : ByteArray))))))).2.2.2)))) (Int.toNat v186) ((0 : Int), ((0 : Int), ((0 : Int), ((0 : Int), ((0 : Int), (⟨#[]⟩ : ByteArray))))))).2.2.1, ((IntKind.i64.wrap ((IntKind.i64.wrap ((IntKind.i64.wrap (v185 + (1 : Int))) + (1 : Int))) + (1 : Int))), (List.getD (List.set v203 (Int.toNat v186) ((List.getD v203 (Int.toNat v186) ((0 : Int), ((0 : Int), ((0 : Int), ((0 : Int), ((0 : Int), (⟨#[]⟩ : ByteArray))))))).1, ((List.getD v203 (Int.toNat v186) ((0 : Int), ((0 : Int), ((0 : Int), ((0 : Int), ((0 : Int), (⟨#[]⟩ : ByteArray))))))).2.1, ((IntKind.i64.wrap ((IntKind.i64.wrap (v185 + (1 : Int))) + (1 : Int))), (List.getD v203 (Int.toNat v186) ((0 : Int), ((0 : Int), ((0 : Int), ((0 : Int), ((0 : Int), (⟨#[]⟩ : ByteArray))))))).2.2.2)))) (Int.toNat v186) ((0 : Int), ((0 : Int), ((0 : Int), ((0 : Int), ((0 : Int), (⟨#[]⟩ : ByteArray))))))).2.2.2.2))))) : (List (Int × (Int × (Int × (Int × (Int × ByteArray)))))))).bind fun v204 => (if (0 ≤ v186 ∧ v186 < (List.length v204 : Int)) then ((some ((List.set v204 (Int.toNat v186) ((List.getD v204 (Int.toNat v186) ((0 : Int), ((0 : Int), ((0 : Int), ((0 : Int), ((0 : Int), (⟨#[]⟩ : ByteArray))))))).1, ((List.getD v204 (Int.toNat v186) ((0 : Int), ((0 : Int), ((0 : Int), ((0 : Int), ((0 : Int), (⟨#[]⟩ : ByteArray))))))).2.1, ((List.getD v204 (Int.toNat v186) ((0 : Int), ((0 : Int), ((0 : Int), ((0 : Int), ((0 : Int), (⟨#[]⟩ : ByteArray))))))).2.2.1, ((List.getD v204 (Int.toNat v186) ((0 : Int), ((0 : Int), ((0 : Int), ((0 : Int), ((0 : Int), (⟨#[]⟩ : ByteArray))))))).2.2.2.1, ((IntKind.i64.wrap ((IntKind.i64.wrap ((IntKind.i64.wrap ((IntKind.i64.wrap (v185 + (1 : Int))) + (1 : Int))) + (1 : Int))) + (1 : Int))), (List.getD v204 (Int.toNat v186) ((0 : Int), ((0 : Int), ((0 : Int), ((0 : Int), ((0 : Int), (⟨#[]⟩ : ByteArray))))))).2.2.2.2.2)))))) : (List (Int × (Int × (Int × (Int × (Int × ByteArray)))))))).bind fun v205 => ((f91 k (IntKind.i64.wrap ((IntKind.i64.wrap ((IntKind.i64.wrap ((IntKind.i64.wrap ((IntKind.i64.wrap (v185 + (1 : Int))) + (1 : Int))) + (1 : Int))) + (1 : Int))) + (1 : Int)))).bind fun r206 => (if (0 ≤ v186 ∧ v186 < (List.length v205 : Int)) then ((some ((List.set v205 (Int.toNat v186) ((List.getD v205 (Int.toNat v186) ((0 : Int), ((0 : Int), ((0 : Int), ((0 : Int), ((0 : Int), (⟨#[]⟩ : ByteArray))))))).1, ((List.getD v205 (Int.toNat v186) ((0 : Int), ((0 : Int), ((0 : Int), ((0 : Int), ((0 : Int), (⟨#[]⟩ : ByteArray))))))).2.1, ((List.getD v205 (Int.toNat v186) ((0 : Int), ((0 : Int), ((0 : Int), ((0 : Int), ((0 : Int), (⟨#[]⟩ : ByteArray))))))).2.2.1, ((List.getD v205 (Int.toNat v186) ((0 : Int), ((0 : Int), ((0 : Int), ((0 : Int), ((0 : Int), (⟨#[]⟩ : ByteArray))))))).2.2.2.1, ((List.getD v205 (Int.toNat v186) ((0 : Int), ((0 : Int), ((0 : Int), ((0 : Int), ((0 : Int), (⟨#[]⟩ : ByteArray))))))).2.2.2.2.1, r206)))))) : (List (Int × (Int × (Int × (Int × (Int × ByteArray)))))))).bind fun v207 => ((f89.l110 k) m110 (v207, (IntKind.i64.wrap ((IntKind.i64.wrap ((IntKind.i64.wrap ((IntKind.i64.wrap ((IntKind.i64.wrap ((IntKind.i64.wrap (v185 + (1 : Int))) + (1 : Int))) + (1 : Int))) + (1 : Int))) + (1 : Int))) + (1 : Int))), (IntKind.i64.wrap (v186 + (1 : Int)))))) else none))) else none)) else none) else none)) else none) else none) else (some (v185, v184))
def f89 (k : Nat) (x0 : (List (Int × (Int × (Int × (Int × (Int × ByteArray))))))) (x1 : Int) : Option (Int × (List (Int × (Int × (Int × (Int × (Int × ByteArray))))))) := f89.l110 k k (x0, x1, (0 : Int))
set_option maxRecDepth 100000 in
/-- 'laws.markRoadS'. -/
theorem c89 (k : Nat) (x0 : (List (Int × (Int × (Int × (Int × (Int × ByteArray))))))) (x1 : Int) (r : (Int × (List (Int × (Int × (Int × (Int × (Int × ByteArray)))))))) (hF : f89 k x0 x1 = some r) : PMut Try.prog 89 [⟨sh8, x0⟩, ⟨(.int .i64), x1⟩] [⟨(.int .i64), r.1⟩] (List.set [⟨sh8, x0⟩, ⟨(.int .i64), x1⟩] 0 ⟨sh8, r.2⟩) := by
  refine pmut_intro (j := 0) (fin := ⟨sh8, r.2⟩) Try.func89 rfl rfl (Nat.le_of_ble_eq_true rfl) (Nat.le_of_ble_eq_true rfl) (by kernel_rfl) ?_
  intro w0 Zi f0 v0 a w h
  rw [f89] at hF
  refine wp_reg_seq tok (orc := orcL []) (fz := []) (l := [0, 1]) (c := _) (.inl rfl) h (by kernel_rfl) (AllP.nil) ?_
  intro a w h
  refine wp_seq ?_
  refine wp_reg_seq tok (orc := orcL []) (fz := []) (l := [0, 1, 5]) (c := _) (.inl rfl) h (by kernel_rfl) (AllP.nil) ?_
  intro a w h
  refine wp_block ?_
  refine wp_loop_fuel (f89.l110 k) (fun ((v184, v185, v186) : ((List (Int × (Int × (Int × (Int × (Int × ByteArray)))))) × Int × Int)) => [(0, .val sh8 v184), (1, .val (.int .i64) v185), (5, .val (.int .i64) v186)]) (fun v h => by obtain ⟨v184, v185, v186⟩ := v; rw [f89.l110] at h; cases h) ?_ hF (h.arrive (fz := []) (l := [0, 1, 5]) (.inl rfl) (by kernel_rfl))
  intro m110 v a w hF h
  obtain ⟨v184, v185, v186⟩ := v
  rw [f89.l110] at hF
  refine wp_seq ?_
  refine wp_reg_seq tok (orc := orcL []) (fz := []) (l := [0, 1, 5, 9]) (c := _) (.inl rfl) h (by kernel_rfl) (AllP.nil) ?_
  intro a w h
  refine wp_if h (b := (decide ((v186 : Int) < (List.length v184 : Int)))) (by kernel_rfl) (fun hb => ?_) (fun hb => ?_)
  · replace hF := of_t hb hF
    refine wp_skip ?_
    refine wp_seq <| wp_block ?_
    obtain ⟨hc218, hF⟩ := of_if hF
    refine wp_reg_seq tok (orc := orcL []) (fz := []) (l := [0, 1, 5]) (c := _) (.inl rfl) h (by kernel_rfl) (AllP.cons hc218 AllP.nil) ?_
    intro a w h
    refine wp_reg_seq tok (orc := orcL []) (fz := []) (l := [0, 1, 5]) (c := _) (.inl rfl) h (by kernel_rfl) (AllP.nil) ?_
    intro a w h
    obtain ⟨hc217, hF⟩ := of_if hF
    refine wp_reg_seq tok (orc := orcL []) (fz := []) (l := [0, 1, 5]) (c := _) (.inl rfl) h (by kernel_rfl) (AllP.cons hc217 AllP.nil) ?_
    intro a w h
    obtain ⟨v203, hv216, hF⟩ := of_bind hF
    replace h := h.cast (S' := [(0, .val sh8 v203), (1, .val (.int .i64) (IntKind.i64.wrap (v185 + (1 : Int)))), (5, .val (.int .i64) v186)]) (by cases hv216; kernel_rfl)
    refine wp_reg_seq tok (orc := orcL []) (fz := []) (l := [0, 1, 5]) (c := _) (.inl rfl) h (by kernel_rfl) (AllP.nil) ?_
    intro a w h
    obtain ⟨hc215, hF⟩ := of_if hF
    refine wp_reg_seq tok (orc := orcL []) (fz := []) (l := [0, 1, 5]) (c := _) (.inl rfl) h (by kernel_rfl) (AllP.cons hc215 AllP.nil) ?_
    intro a w h
    refine wp_reg_seq tok (orc := orcL []) (fz := []) (l := [0, 1, 5]) (c := _) (.inl rfl) h (by kernel_rfl) (AllP.nil) ?_
    intro a w h
    obtain ⟨hc214, hF⟩ := of_if hF
    refine wp_reg_seq tok (orc := orcL []) (fz := []) (l := [0, 1, 5]) (c := _) (.inl rfl) h (by kernel_rfl) (AllP.cons hc214 AllP.nil) ?_
    intro a w h
    obtain ⟨v204, hv213, hF⟩ := of_bind hF
    replace h := h.cast (S' := [(0, .val sh8 v204), (1, .val (.int .i64) (IntKind.i64.wrap ((IntKind.i64.wrap ((IntKind.i64.wrap (v185 + (1 : Int))) + (1 : Int))) + (1 : Int)))), (5, .val (.int .i64) v186)]) (by cases hv213; kernel_rfl)
    refine wp_reg_seq tok (orc := orcL []) (fz := []) (l := [0, 1, 5]) (c := _) (.inl rfl) h (by kernel_rfl) (AllP.nil) ?_
    intro a w h
    obtain ⟨hc212, hF⟩ := of_if hF
    refine wp_reg_seq tok (orc := orcL []) (fz := []) (l := [0, 1, 5]) (c := _) (.inl rfl) h (by kernel_rfl) (AllP.cons hc212 AllP.nil) ?_
    intro a w h
    obtain ⟨v205, hv211, hF⟩ := of_bind hF
    replace h := h.cast (S' := [(0, .val sh8 v205), (1, .val (.int .i64) (IntKind.i64.wrap ((IntKind.i64.wrap ((IntKind.i64.wrap ((IntKind.i64.wrap (v185 + (1 : Int))) + (1 : Int))) + (1 : Int))) + (1 : Int)))), (5, .val (.int .i64) v186)]) (by cases hv211; kernel_rfl)
    refine wp_reg_seq tok (orc := orcL []) (fz := []) (l := [0, 1, 5]) (c := _) (.inl rfl) h (by kernel_rfl) (AllP.nil) ?_
    intro a w h
    obtain ⟨r206, hr209, hF⟩ := of_bind hF
    obtain ⟨hc210, hF⟩ := of_if hF
    refine wp_reg_seq tok (orc := orcL [(50, [⟨.str, r206⟩])]) (fz := []) (l := [0, 1, 5]) (c := _) (.inl rfl) h (by kernel_rfl) (AllP.cons (c91 k (IntKind.i64.wrap ((IntKind.i64.wrap ((IntKind.i64.wrap ((IntKind.i64.wrap ((IntKind.i64.wrap (v185 + (1 : Int))) + (1 : Int))) + (1 : Int))) + (1 : Int))) + (1 : Int))) r206 hr209) (AllP.cons hc210 AllP.nil)) ?_
    intro a w h
    obtain ⟨v207, hv208, hF⟩ := of_bind hF
    replace h := h.cast (S' := [(0, .val sh8 v207), (1, .val (.int .i64) (IntKind.i64.wrap ((IntKind.i64.wrap ((IntKind.i64.wrap ((IntKind.i64.wrap ((IntKind.i64.wrap (v185 + (1 : Int))) + (1 : Int))) + (1 : Int))) + (1 : Int))) + (1 : Int)))), (5, .val (.int .i64) v186)]) (by cases hv208; kernel_rfl)
    refine wp_reg tok (orc := orcL []) (fz := []) (l := [0, 1, 5]) (c := _) (.inl rfl) h (by kernel_rfl) (AllP.nil) ?_
    intro a w h
    refine wp_reg tok (orc := orcL []) (fz := []) (l := [0, 1, 5]) (c := _) (.inl rfl) h (by kernel_rfl) (AllP.nil) ?_
    intro a w h
    exact ⟨(v207, (IntKind.i64.wrap ((IntKind.i64.wrap ((IntKind.i64.wrap ((IntKind.i64.wrap ((IntKind.i64.wrap ((IntKind.i64.wrap (v185 + (1 : Int))) + (1 : Int))) + (1 : Int))) + (1 : Int))) + (1 : Int))) + (1 : Int))), (IntKind.i64.wrap (v186 + (1 : Int)))), hF, h.arrive (fz := []) (l := [0, 1, 5]) (.inl rfl) (by kernel_rfl)⟩
  · replace hF := of_f hb hF
    refine wp_exit ?_
    refine wp_reg_seq tok (orc := orcL []) (fz := []) (l := [0, 4]) (c := _) (.inl rfl) h (by kernel_rfl) (AllP.nil) ?_
    intro a w h
    cases hF
    exact wp_ret (retM_ok tok h rfl (by kernel_rfl) (by kernel_rfl)).1

def f90.l26 (k : Nat) : Nat → ((List (Int × Int)) × Int × Int) → Option (Int × (List (Int × Int)))
  | 0, _ => none
  | m26 + 1, (v44, v45, v46) => if (decide ((v46 : Int) < (List.length v44 : Int))) then (if (0 ≤ v46 ∧ v46 < (List.length v44 : Int)) then (if (0 ≤ v46 ∧ v46 < (List.length (List.set v44 (Int.toNat v46) (v45, (List.getD v44 (Int.toNat v46) ((0 : Int), (0 : Int))).2)) : Int)) then ((f90.l26 k) m26 ((List.set (List.set v44 (Int.toNat v46) (v45, (List.getD v44 (Int.toNat v46) ((0 : Int), (0 : Int))).2)) (Int.toNat v46) ((List.getD (List.set v44 (Int.toNat v46) (v45, (List.getD v44 (Int.toNat v46) ((0 : Int), (0 : Int))).2)) (Int.toNat v46) ((0 : Int), (0 : Int))).1, (IntKind.i64.wrap (v45 + (1 : Int))))), (IntKind.i64.wrap ((IntKind.i64.wrap (v45 + (1 : Int))) + (1 : Int))), (IntKind.i64.wrap (v46 + (1 : Int))))) else none) else none) else (some (v45, v44))
def f90 (k : Nat) (x0 : (List (Int × Int))) (x1 : Int) : Option (Int × (List (Int × Int))) := f90.l26 k k (x0, x1, (0 : Int))
set_option maxRecDepth 100000 in
/-- 'laws.markBanS'. -/
theorem c90 (k : Nat) (x0 : (List (Int × Int))) (x1 : Int) (r : (Int × (List (Int × Int)))) (hF : f90 k x0 x1 = some r) : PMut Try.prog 90 [⟨sh9, x0⟩, ⟨(.int .i64), x1⟩] [⟨(.int .i64), r.1⟩] (List.set [⟨sh9, x0⟩, ⟨(.int .i64), x1⟩] 0 ⟨sh9, r.2⟩) := by
  refine pmut_intro (j := 0) (fin := ⟨sh9, r.2⟩) Try.func90 rfl rfl (Nat.le_of_ble_eq_true rfl) (Nat.le_of_ble_eq_true rfl) (by kernel_rfl) ?_
  intro w0 Zi f0 v0 a w h
  rw [f90] at hF
  refine wp_reg_seq tok (orc := orcL []) (fz := []) (l := [0, 1]) (c := _) (.inl rfl) h (by kernel_rfl) (AllP.nil) ?_
  intro a w h
  refine wp_seq ?_
  refine wp_reg_seq tok (orc := orcL []) (fz := []) (l := [0, 1, 5]) (c := _) (.inl rfl) h (by kernel_rfl) (AllP.nil) ?_
  intro a w h
  refine wp_block ?_
  refine wp_loop_fuel (f90.l26 k) (fun ((v44, v45, v46) : ((List (Int × Int)) × Int × Int)) => [(0, .val sh9 v44), (1, .val (.int .i64) v45), (5, .val (.int .i64) v46)]) (fun v h => by obtain ⟨v44, v45, v46⟩ := v; rw [f90.l26] at h; cases h) ?_ hF (h.arrive (fz := []) (l := [0, 1, 5]) (.inl rfl) (by kernel_rfl))
  intro m26 v a w hF h
  obtain ⟨v44, v45, v46⟩ := v
  rw [f90.l26] at hF
  refine wp_seq ?_
  refine wp_reg_seq tok (orc := orcL []) (fz := []) (l := [0, 1, 5, 9]) (c := _) (.inl rfl) h (by kernel_rfl) (AllP.nil) ?_
  intro a w h
  refine wp_if h (b := (decide ((v46 : Int) < (List.length v44 : Int)))) (by kernel_rfl) (fun hb => ?_) (fun hb => ?_)
  · replace hF := of_t hb hF
    refine wp_skip ?_
    refine wp_seq <| wp_block ?_
    obtain ⟨hc50, hF⟩ := of_if hF
    refine wp_reg_seq tok (orc := orcL []) (fz := []) (l := [0, 1, 5]) (c := _) (.inl rfl) h (by kernel_rfl) (AllP.cons hc50 AllP.nil) ?_
    intro a w h
    refine wp_reg_seq tok (orc := orcL []) (fz := []) (l := [0, 1, 5]) (c := _) (.inl rfl) h (by kernel_rfl) (AllP.nil) ?_
    intro a w h
    obtain ⟨hc49, hF⟩ := of_if hF
    refine wp_reg_seq tok (orc := orcL []) (fz := []) (l := [0, 1, 5]) (c := _) (.inl rfl) h (by kernel_rfl) (AllP.cons hc49 AllP.nil) ?_
    intro a w h
    refine wp_reg tok (orc := orcL []) (fz := []) (l := [0, 1, 5]) (c := _) (.inl rfl) h (by kernel_rfl) (AllP.nil) ?_
    intro a w h
    refine wp_reg tok (orc := orcL []) (fz := []) (l := [0, 1, 5]) (c := _) (.inl rfl) h (by kernel_rfl) (AllP.nil) ?_
    intro a w h
    exact ⟨((List.set (List.set v44 (Int.toNat v46) (v45, (List.getD v44 (Int.toNat v46) ((0 : Int), (0 : Int))).2)) (Int.toNat v46) ((List.getD (List.set v44 (Int.toNat v46) (v45, (List.getD v44 (Int.toNat v46) ((0 : Int), (0 : Int))).2)) (Int.toNat v46) ((0 : Int), (0 : Int))).1, (IntKind.i64.wrap (v45 + (1 : Int))))), (IntKind.i64.wrap ((IntKind.i64.wrap (v45 + (1 : Int))) + (1 : Int))), (IntKind.i64.wrap (v46 + (1 : Int)))), hF, h.arrive (fz := []) (l := [0, 1, 5]) (.inl rfl) (by kernel_rfl)⟩
  · replace hF := of_f hb hF
    refine wp_exit ?_
    refine wp_reg_seq tok (orc := orcL []) (fz := []) (l := [0, 4]) (c := _) (.inl rfl) h (by kernel_rfl) (AllP.nil) ?_
    intro a w h
    cases hF
    exact wp_ret (retM_ok tok h rfl (by kernel_rfl) (by kernel_rfl)).1

def f22 (k : Nat) (x0 : ((List (Int × (Int × Int))) × ((List (Int × (Int × (Int × (Int × (Int × ByteArray)))))) × (List (Int × Int))))) (x1 : Int) : Option (Int × ((List (Int × (Int × Int))) × ((List (Int × (Int × (Int × (Int × (Int × ByteArray)))))) × (List (Int × Int))))) := (f88 k x0.1 x1).bind fun r1 => ((f89 k x0.2.1 r1.1).bind fun r2 => ((f90 k x0.2.2 r2.1).bind fun r3 => (some (r3.1, (r1.2, (r2.2, r3.2))))))
set_option maxRecDepth 100000 in
/-- 'laws.markGraph'. -/
theorem c22 (k : Nat) (x0 : ((List (Int × (Int × Int))) × ((List (Int × (Int × (Int × (Int × (Int × ByteArray)))))) × (List (Int × Int))))) (x1 : Int) (r : (Int × ((List (Int × (Int × Int))) × ((List (Int × (Int × (Int × (Int × (Int × ByteArray)))))) × (List (Int × Int)))))) (hF : f22 k x0 x1 = some r) : PMut Try.prog 22 [⟨sh10, x0⟩, ⟨(.int .i64), x1⟩] [⟨(.int .i64), r.1⟩] (List.set [⟨sh10, x0⟩, ⟨(.int .i64), x1⟩] 0 ⟨sh10, r.2⟩) := by
  refine pmut_intro (j := 0) (fin := ⟨sh10, r.2⟩) Try.func22 rfl rfl (Nat.le_of_ble_eq_true rfl) (Nat.le_of_ble_eq_true rfl) (by kernel_rfl) ?_
  intro w0 Zi f0 v0 a w h
  rw [f22] at hF
  refine wp_reg_seq tok (orc := orcL []) (fz := []) (l := [0, 1, 2]) (c := _) (.inl rfl) h (by kernel_rfl) (AllP.nil) ?_
  intro a w h
  obtain ⟨r1, hr6, hF⟩ := of_bind hF
  refine wp_reg_seq tok (orc := orcL [(8, [⟨.pt false 4294967295 (.sl true 176 (.st (.pair (.int .i64) (.st (.pair (.int .i64) (.int .i64)))))), some r1.2⟩, ⟨(.int .i64), r1.1⟩])]) (fz := []) (l := [0, 1, 2]) (c := _) (.inl rfl) h (by kernel_rfl) (AllP.cons (c88 k x0.1 x1 r1 hr6) AllP.nil) ?_
  intro a w h
  obtain ⟨r2, hr5, hF⟩ := of_bind hF
  refine wp_reg_seq tok (orc := orcL [(12, [⟨.pt false 4294967295 (.sl true 110 (.st (.pair (.int .i64) (.pair (.int .i64) (.pair (.int .i64) (.pair (.int .i64) (.pair (.int .i64) .str))))))), some r2.2⟩, ⟨(.int .i64), r2.1⟩])]) (fz := []) (l := [0, 1, 2]) (c := _) (.inl rfl) h (by kernel_rfl) (AllP.cons (c89 k x0.2.1 r1.1 r2 hr5) AllP.nil) ?_
  intro a w h
  obtain ⟨r3, hr4, hF⟩ := of_bind hF
  refine wp_reg_seq tok (orc := orcL [(16, [⟨.pt false 4294967295 (.sl true 167 (.st (.pair (.int .i64) (.int .i64)))), some r3.2⟩, ⟨(.int .i64), r3.1⟩])]) (fz := []) (l := [0, 1, 2]) (c := _) (.inl rfl) h (by kernel_rfl) (AllP.cons (c90 k x0.2.2 r2.1 r3 hr4) AllP.nil) ?_
  intro a w h
  refine wp_reg_seq tok (orc := orcL []) (fz := []) (l := [0, 2, 4]) (c := _) (.inl rfl) h (by kernel_rfl) (AllP.nil) ?_
  intro a w h
  cases hF
  exact wp_ret (retMS_ok (d := 2) (t := 35) tok h rfl (by kernel_rfl) (by kernel_rfl)).1

def f23.l20 (k : Nat) : Nat → ((List Int) × Int × Int) → Option (Int × (List Int))
  | 0, _ => none
  | m20 + 1, (v34, v35, v36) => if (decide ((v36 : Int) < (List.length v34 : Int))) then (if (0 ≤ v36 ∧ v36 < (List.length v34 : Int)) then ((f23.l20 k) m20 ((List.set v34 (Int.toNat v36) v35), (IntKind.i64.wrap (v35 + (1 : Int))), (IntKind.i64.wrap (v36 + (1 : Int))))) else none) else (some (v35, v34))
def f23 (k : Nat) (x0 : (List Int)) (x1 : Int) : Option (Int × (List Int)) := f23.l20 k k (x0, x1, (0 : Int))
set_option maxRecDepth 100000 in
/-- 'laws.markInt64S'. -/
theorem c23 (k : Nat) (x0 : (List Int)) (x1 : Int) (r : (Int × (List Int))) (hF : f23 k x0 x1 = some r) : PMut Try.prog 23 [⟨(.sl true 2 (.int .i64)), x0⟩, ⟨(.int .i64), x1⟩] [⟨(.int .i64), r.1⟩] (List.set [⟨(.sl true 2 (.int .i64)), x0⟩, ⟨(.int .i64), x1⟩] 0 ⟨(.sl true 2 (.int .i64)), r.2⟩) := by
  refine pmut_intro (j := 0) (fin := ⟨(.sl true 2 (.int .i64)), r.2⟩) Try.func23 rfl rfl (Nat.le_of_ble_eq_true rfl) (Nat.le_of_ble_eq_true rfl) (by kernel_rfl) ?_
  intro w0 Zi f0 v0 a w h
  rw [f23] at hF
  refine wp_reg_seq tok (orc := orcL []) (fz := []) (l := [0, 1]) (c := _) (.inl rfl) h (by kernel_rfl) (AllP.nil) ?_
  intro a w h
  refine wp_seq ?_
  refine wp_reg_seq tok (orc := orcL []) (fz := []) (l := [0, 1, 5]) (c := _) (.inl rfl) h (by kernel_rfl) (AllP.nil) ?_
  intro a w h
  refine wp_block ?_
  refine wp_loop_fuel (f23.l20 k) (fun ((v34, v35, v36) : ((List Int) × Int × Int)) => [(0, .val (.sl true 2 (.int .i64)) v34), (1, .val (.int .i64) v35), (5, .val (.int .i64) v36)]) (fun v h => by obtain ⟨v34, v35, v36⟩ := v; rw [f23.l20] at h; cases h) ?_ hF (h.arrive (fz := []) (l := [0, 1, 5]) (.inl rfl) (by kernel_rfl))
  intro m20 v a w hF h
  obtain ⟨v34, v35, v36⟩ := v
  rw [f23.l20] at hF
  refine wp_seq ?_
  refine wp_reg_seq tok (orc := orcL []) (fz := []) (l := [0, 1, 5, 9]) (c := _) (.inl rfl) h (by kernel_rfl) (AllP.nil) ?_
  intro a w h
  refine wp_if h (b := (decide ((v36 : Int) < (List.length v34 : Int)))) (by kernel_rfl) (fun hb => ?_) (fun hb => ?_)
  · replace hF := of_t hb hF
    refine wp_skip ?_
    refine wp_seq <| wp_block ?_
    obtain ⟨hc38, hF⟩ := of_if hF
    refine wp_reg_seq tok (orc := orcL []) (fz := []) (l := [0, 1, 5]) (c := _) (.inl rfl) h (by kernel_rfl) (AllP.cons hc38 AllP.nil) ?_
    intro a w h
    refine wp_reg tok (orc := orcL []) (fz := []) (l := [0, 1, 5]) (c := _) (.inl rfl) h (by kernel_rfl) (AllP.nil) ?_
    intro a w h
    refine wp_reg tok (orc := orcL []) (fz := []) (l := [0, 1, 5]) (c := _) (.inl rfl) h (by kernel_rfl) (AllP.nil) ?_
    intro a w h
    exact ⟨((List.set v34 (Int.toNat v36) v35), (IntKind.i64.wrap (v35 + (1 : Int))), (IntKind.i64.wrap (v36 + (1 : Int)))), hF, h.arrive (fz := []) (l := [0, 1, 5]) (.inl rfl) (by kernel_rfl)⟩
  · replace hF := of_f hb hF
    refine wp_exit ?_
    refine wp_reg_seq tok (orc := orcL []) (fz := []) (l := [0, 4]) (c := _) (.inl rfl) h (by kernel_rfl) (AllP.nil) ?_
    intro a w h
    cases hF
    exact wp_ret (retM_ok tok h rfl (by kernel_rfl) (by kernel_rfl)).1

def f24.l92 (k : Nat) : Nat → ((List (Int × (Int × (ByteArray × (Int × Int))))) × Int × Int) → Option (Int × (List (Int × (Int × (ByteArray × (Int × Int))))))
  | 0, _ => none
  | m92 + 1, (v154, v155, v156) => if (decide ((v156 : Int) < (List.length v154 : Int))) then (if (0 ≤ v156 ∧ v156 < (List.length v154 : Int)) then (if (0 ≤ v156 ∧ v156 < (List.length (List.set v154 (Int.toNat v156) (v155, (List.getD v154 (Int.toNat v156) ((0 : Int), ((0 : Int), ((⟨#[]⟩ : ByteArray), ((0 : Int), (0 : Int)))))).2)) : Int)) then ((some ((List.set (List.set v154 (Int.toNat v156) (v155, (List.getD v154 (Int.toNat v156) ((0 : Int), ((0 : Int), ((⟨#[]⟩ : ByteArray), ((0 : Int), (0 : Int)))))).2)) (Int.toNat v156) ((List.getD (List.set v154 (Int.toNat v156) (v155, (List.getD v154 (Int.toNat v156) ((0 : Int), ((0 : Int), ((⟨#[]⟩ : ByteArray), ((0 : Int), (0 : Int)))))).2)) (Int.toNat v156) ((0 : Int), ((0 : Int), ((⟨#[]⟩ : ByteArray), ((0 : Int), (0 : Int)))))).1, ((IntKind.i64.wrap (v155 + (1 : Int))), (List.getD (List.set v154 (Int.toNat v156) (v155, (List.getD v154 (Int.toNat v156) ((0 : Int), ((0 : Int), ((⟨#[]⟩ : ByteArray), ((0 : Int), (0 : Int)))))).2)) (Int.toNat v156) ((0 : Int), ((0 : Int), ((⟨#[]⟩ : ByteArray), ((0 : Int), (0 : Int)))))).2.2))) : (List (Int × (Int × (ByteArray × (Int × Int))))))).bind fun v170 => ((f91 k (IntKind.i64.wrap ((IntKind.i64.wrap (v155 + (1 : Int))) + (1 : Int)))).bind fun r171 => (if (0 ≤ v156 ∧ v156 < (List.length v170 : Int)) then (if (0 ≤ v156 ∧ v156 < (List.length (List.set v170 (Int.toNat v156) ((List.getD v170 (Int.toNat v156) ((0 : Int), ((0 : Int), ((⟨#[]⟩ : ByteArray), ((0 : Int), (0 : Int)))))).1, ((List.getD v170 (Int.toNat v156) ((0 : Int), ((0 : Int), ((⟨#[]⟩ : ByteArray), ((0 : Int), (0 : Int)))))).2.1, (r171, (List.getD v170 (Int.toNat v156) ((0 : Int), ((0 : Int), ((⟨#[]⟩ : ByteArray), ((0 : Int), (0 : Int)))))).2.2.2)))) : Int)) then ((some ((List.set (List.set v170 (Int.toNat v156) ((List.getD v170 (Int.toNat v156) ((0 : Int), ((0 : Int), ((⟨#[]⟩ : ByteArray), ((0 : Int), (0 : Int)))))).1, ((List.getD v170 (Int.toNat v156) ((0 : Int), ((0 : Int), ((⟨#[]⟩ : ByteArray), ((0 : Int), (0 : Int)))))).2.1, (r171, (List.getD v170 (Int.toNat v156) ((0 : Int), ((0 : Int), ((⟨#[]⟩ : ByteArray), ((0 : Int), (0 : Int)))))).2.2.2)))) (Int.toNat v156) ((List.getD (List.set v170 (Int.toNat v156) ((List.getD v170 (Int.toNat v156) ((0 : Int), ((0 : Int), ((⟨#[]⟩ : ByteArray), ((0 : Int), (0 : Int)))))).1, ((List.getD v170 (Int.toNat v156) ((0 : Int), ((0 : Int), ((⟨#[]⟩ : ByteArray), ((0 : Int), (0 : Int)))))).2.1, (r171, (List.getD v170 (Int.toNat v156) ((0 : Int), ((0 : Int), ((⟨#[]⟩ : ByteArray), ((0 : Int), (0 : Int)))))).2.2.2)))) (Int.toNat v156) ((0 : Int), ((0 : Int), ((⟨#[]⟩ : ByteArray), ((0 : Int), (0 : Int)))))).1, ((List.getD (List.set v170 (Int.toNat v156) ((List.getD v170 (Int.toNat v156) ((0 : Int), ((0 : Int), ((⟨#[]⟩ : ByteArray), ((0 : Int), (0 : Int)))))).1, ((List.getD v170 (Int.toNat v156) ((0 : Int), ((0 : Int), ((⟨#[]⟩ : ByteArray), ((0 : Int), (0 : Int)))))).2.1, (r171, (List.getD v170 (Int.toNat v156) ((0 : Int), ((0 : Int), ((⟨#[]⟩ : ByteArray), ((0 : Int), (0 : Int)))))).2.2.2)))) (Int.toNat v156) ((0 : Int), ((0 : Int), ((⟨#[]⟩ : ByteArray), ((0 : Int), (0 : Int)))))).2.1, ((List.getD (List.set v170 (Int.toNat v156) ((List.getD v170 (Int.toNat v156) ((0 : Int), ((0 : Int), ((⟨#[]⟩ : ByteArray), ((0 : Int), (0 : Int)))))).1, ((List.getD v170 (Int.toNat v156) ((0 : Int), ((0 : Int), ((⟨#[]⟩ : ByteArray), ((0 : Int), (0 : Int)))))).2.1, (r171, (List.getD v170 (Int.toNat v156) ((0 : Int), ((0 : Int), ((⟨#[]⟩ : ByteArray), ((0 : Int), (0 : Int)))))).2.2.2)))) (Int.toNat v156) ((0 : Int), ((0 : Int), ((⟨#[]⟩ : ByteArray), ((0 : Int), (0 : Int)))))).2.2.1, ((IntKind.i64.wrap ((IntKind.i64.wrap ((IntKind.i64.wrap (v155 + (1 : Int))) + (1 : Int))) + (1 : Int))), (List.getD (List.set v170 (Int.toNat v156) ((List.getD v170 (Int.toNat v156) ((0 : Int), ((0 : Int), ((⟨#[]⟩ : ByteArray), ((0 : Int), (0 : Int)))))).1, ((List.getD v170 (Int.toNat v156) ((0 : Int), ((0 : Int), ((⟨#[]⟩ : ByteArray), ((0 : Int), (0 : Int)))))).2.1, (r171, (List.getD v170 (Int.toNat v156) ((0 : Int), ((0 : Int), ((⟨#[]⟩ : ByteArray), ((0 : Int), (0 : Int)))))).2.2.2)))) (Int.toNat v156) ((0 : Int), ((0 : Int), ((⟨#[]⟩ : ByteArray), ((0 : Int), (0 : Int)))))).2.2.2.2))))) : (List (Int × (Int × (ByteArray × (Int × Int))))))).bind fun v172 => (if (0 ≤ v156 ∧ v156 < (List.length v172 : Int)) then ((some ((List.set v172 (Int.toNat v156) ((List.getD v172 (Int.toNat v156) ((0 : Int), ((0 : Int), ((⟨#[]⟩ : ByteArray), ((0 : Int), (0 : Int)))))).1, ((List.getD v172 (Int.toNat v156) ((0 : Int), ((0 : Int), ((⟨#[]⟩ : ByteArray), ((0 : Int), (0 : Int)))))).2.1, ((List.getD v172 (Int.toNat v156) ((0 : Int), ((0 : Int), ((⟨#[]⟩ : ByteArray), ((0 : Int), (0 : Int)))))).2.2.1, ((List.getD v172 (Int.toNat v156) ((0 : Int), ((0 : Int), ((⟨#[]⟩ : ByteArray), ((0 : Int), (0 : Int)))))).2.2.2.1, (IntKind.i64.wrap ((IntKind.i64.wrap ((IntKind.i64.wrap ((IntKind.i64.wrap (v155 + (1 : Int))) + (1 : Int))) + (1 : Int))) + (1 : Int)))))))) : (List (Int × (Int × (ByteArray × (Int × Int))))))).bind fun v173 => ((f24.l92 k) m92 (v173, (IntKind.i64.wrap ((IntKind.i64.wrap ((IntKind.i64.wrap ((IntKind.i64.wrap ((IntKind.i64.wrap (v155 + (1 : Int))) + (1 : Int))) + (1 : Int))) + (1 : Int))) + (1 : Int))), (IntKind.i64.wrap (v156 + (1 : Int)))))) else none)) else none) else none))) else none) else none) else (some (v155, v154))
def f24 (k : Nat) (x0 : (List (Int × (Int × (ByteArray × (Int × Int)))))) (x1 : Int) : Option (Int × (List (Int × (Int × (ByteArray × (Int × Int)))))) := f24.l92 k k (x0, x1, (0 : Int))
set_option maxRecDepth 100000 in
/-- 'laws.markTurningS'. -/
theorem c24 (k : Nat) (x0 : (List (Int × (Int × (ByteArray × (Int × Int)))))) (x1 : Int) (r : (Int × (List (Int × (Int × (ByteArray × (Int × Int))))))) (hF : f24 k x0 x1 = some r) : PMut Try.prog 24 [⟨sh16, x0⟩, ⟨(.int .i64), x1⟩] [⟨(.int .i64), r.1⟩] (List.set [⟨sh16, x0⟩, ⟨(.int .i64), x1⟩] 0 ⟨sh16, r.2⟩) := by
  refine pmut_intro (j := 0) (fin := ⟨sh16, r.2⟩) Try.func24 rfl rfl (Nat.le_of_ble_eq_true rfl) (Nat.le_of_ble_eq_true rfl) (by kernel_rfl) ?_
  intro w0 Zi f0 v0 a w h
  rw [f24] at hF
  refine wp_reg_seq tok (orc := orcL []) (fz := []) (l := [0, 1]) (c := _) (.inl rfl) h (by kernel_rfl) (AllP.nil) ?_
  intro a w h
  refine wp_seq ?_
  refine wp_reg_seq tok (orc := orcL []) (fz := []) (l := [0, 1, 5]) (c := _) (.inl rfl) h (by kernel_rfl) (AllP.nil) ?_
  intro a w h
  refine wp_block ?_
  refine wp_loop_fuel (f24.l92 k) (fun ((v154, v155, v156) : ((List (Int × (Int × (ByteArray × (Int × Int))))) × Int × Int)) => [(0, .val sh16 v154), (1, .val (.int .i64) v155), (5, .val (.int .i64) v156)]) (fun v h => by obtain ⟨v154, v155, v156⟩ := v; rw [f24.l92] at h; cases h) ?_ hF (h.arrive (fz := []) (l := [0, 1, 5]) (.inl rfl) (by kernel_rfl))
  intro m92 v a w hF h
  obtain ⟨v154, v155, v156⟩ := v
  rw [f24.l92] at hF
  refine wp_seq ?_
  refine wp_reg_seq tok (orc := orcL []) (fz := []) (l := [0, 1, 5, 9]) (c := _) (.inl rfl) h (by kernel_rfl) (AllP.nil) ?_
  intro a w h
  refine wp_if h (b := (decide ((v156 : Int) < (List.length v154 : Int)))) (by kernel_rfl) (fun hb => ?_) (fun hb => ?_)
  · replace hF := of_t hb hF
    refine wp_skip ?_
    refine wp_seq <| wp_block ?_
    obtain ⟨hc182, hF⟩ := of_if hF
    refine wp_reg_seq tok (orc := orcL []) (fz := []) (l := [0, 1, 5]) (c := _) (.inl rfl) h (by kernel_rfl) (AllP.cons hc182 AllP.nil) ?_
    intro a w h
    refine wp_reg_seq tok (orc := orcL []) (fz := []) (l := [0, 1, 5]) (c := _) (.inl rfl) h (by kernel_rfl) (AllP.nil) ?_
    intro a w h
    obtain ⟨hc181, hF⟩ := of_if hF
    refine wp_reg_seq tok (orc := orcL []) (fz := []) (l := [0, 1, 5]) (c := _) (.inl rfl) h (by kernel_rfl) (AllP.cons hc181 AllP.nil) ?_
    intro a w h
    obtain ⟨v170, hv180, hF⟩ := of_bind hF
    replace h := h.cast (S' := [(0, .val sh16 v170), (1, .val (.int .i64) (IntKind.i64.wrap (v155 + (1 : Int)))), (5, .val (.int .i64) v156)]) (by cases hv180; kernel_rfl)
    refine wp_reg_seq tok (orc := orcL []) (fz := []) (l := [0, 1, 5]) (c := _) (.inl rfl) h (by kernel_rfl) (AllP.nil) ?_
    intro a w h
    obtain ⟨r171, hr178, hF⟩ := of_bind hF
    obtain ⟨hc179, hF⟩ := of_if hF
    refine wp_reg_seq tok (orc := orcL [(29, [⟨.str, r171⟩])]) (fz := []) (l := [0, 1, 5]) (c := _) (.inl rfl) h (by kernel_rfl) (AllP.cons (c91 k (IntKind.i64.wrap ((IntKind.i64.wrap (v155 + (1 : Int))) + (1 : Int))) r171 hr178) (AllP.cons hc179 AllP.nil)) ?_
    intro a w h
    refine wp_reg_seq tok (orc := orcL []) (fz := []) (l := [0, 1, 5]) (c := _) (.inl rfl) h (by kernel_rfl) (AllP.nil) ?_
    intro a w h
    obtain ⟨hc177, hF⟩ := of_if hF
    refine wp_reg_seq tok (orc := orcL []) (fz := []) (l := [0, 1, 5]) (c := _) (.inl rfl) h (by kernel_rfl) (AllP.cons hc177 AllP.nil) ?_
    intro a w h
    obtain ⟨v172, hv176, hF⟩ := of_bind hF
    replace h := h.cast (S' := [(0, .val sh16 v172), (1, .val (.int .i64) (IntKind.i64.wrap ((IntKind.i64.wrap ((IntKind.i64.wrap (v155 + (1 : Int))) + (1 : Int))) + (1 : Int)))), (5, .val (.int .i64) v156)]) (by cases hv176; kernel_rfl)
    refine wp_reg_seq tok (orc := orcL []) (fz := []) (l := [0, 1, 5]) (c := _) (.inl rfl) h (by kernel_rfl) (AllP.nil) ?_
    intro a w h
    obtain ⟨hc175, hF⟩ := of_if hF
    refine wp_reg_seq tok (orc := orcL []) (fz := []) (l := [0, 1, 5]) (c := _) (.inl rfl) h (by kernel_rfl) (AllP.cons hc175 AllP.nil) ?_
    intro a w h
    obtain ⟨v173, hv174, hF⟩ := of_bind hF
    replace h := h.cast (S' := [(0, .val sh16 v173), (1, .val (.int .i64) (IntKind.i64.wrap ((IntKind.i64.wrap ((IntKind.i64.wrap ((IntKind.i64.wrap (v155 + (1 : Int))) + (1 : Int))) + (1 : Int))) + (1 : Int)))), (5, .val (.int .i64) v156)]) (by cases hv174; kernel_rfl)
    refine wp_reg tok (orc := orcL []) (fz := []) (l := [0, 1, 5]) (c := _) (.inl rfl) h (by kernel_rfl) (AllP.nil) ?_
    intro a w h
    refine wp_reg tok (orc := orcL []) (fz := []) (l := [0, 1, 5]) (c := _) (.inl rfl) h (by kernel_rfl) (AllP.nil) ?_
    intro a w h
    exact ⟨(v173, (IntKind.i64.wrap ((IntKind.i64.wrap ((IntKind.i64.wrap ((IntKind.i64.wrap ((IntKind.i64.wrap (v155 + (1 : Int))) + (1 : Int))) + (1 : Int))) + (1 : Int))) + (1 : Int))), (IntKind.i64.wrap (v156 + (1 : Int)))), hF, h.arrive (fz := []) (l := [0, 1, 5]) (.inl rfl) (by kernel_rfl)⟩
  · replace hF := of_f hb hF
    refine wp_exit ?_
    refine wp_reg_seq tok (orc := orcL []) (fz := []) (l := [0, 4]) (c := _) (.inl rfl) h (by kernel_rfl) (AllP.nil) ?_
    intro a w h
    cases hF
    exact wp_ret (retM_ok tok h rfl (by kernel_rfl) (by kernel_rfl)).1

def f25.l52 (k : Nat) (x0 : (List (Int × (Int × (ByteArray × (Int × Int)))))) : Nat → (Int × Int) → Option Int
  | 0, _ => none
  | m52 + 1, (v87, v88) => if (decide ((v88 : Int) < (List.length x0 : Int))) then (if (0 ≤ v88 ∧ v88 < (List.length x0 : Int)) then (if (((List.getD x0 (Int.toNat v88) ((0 : Int), ((0 : Int), ((⟨#[]⟩ : ByteArray), ((0 : Int), (0 : Int)))))).1 : Int) != v87) then (some (-1 : Int)) else (if (0 ≤ v88 ∧ v88 < (List.length x0 : Int)) then (if (((List.getD x0 (Int.toNat v88) ((0 : Int), ((0 : Int), ((⟨#[]⟩ : ByteArray), ((0 : Int), (0 : Int)))))).2.1 : Int) != (IntKind.i64.wrap (v87 + (1 : Int)))) then (some (-1 : Int)) else (if (0 ≤ v88 ∧ v88 < (List.length x0 : Int)) then ((f91 k (IntKind.i64.wrap ((IntKind.i64.wrap (v87 + (1 : Int))) + (1 : Int)))).bind fun r96 => (if (!(ByteArray.toList (List.getD x0 (Int.toNat v88) ((0 : Int), ((0 : Int), ((⟨#[]⟩ : ByteArray), ((0 : Int), (0 : Int)))))).2.2.1 == ByteArray.toList r96)) then (some (-1 : Int)) else (if (0 ≤ v88 ∧ v88 < (List.length x0 : Int)) then (if (((List.getD x0 (Int.toNat v88) ((0 : Int), ((0 : Int), ((⟨#[]⟩ : ByteArray), ((0 : Int), (0 : Int)))))).2.2.2.1 : Int) != (IntKind.i64.wrap ((IntKind.i64.wrap ((IntKind.i64.wrap (v87 + (1 : Int))) + (1 : Int))) + (1 : Int)))) then (some (-1 : Int)) else (if (0 ≤ v88 ∧ v88 < (List.length x0 : Int)) then (if (((List.getD x0 (Int.toNat v88) ((0 : Int), ((0 : Int), ((⟨#[]⟩ : ByteArray), ((0 : Int), (0 : Int)))))).2.2.2.2 : Int) != (IntKind.i64.wrap ((IntKind.i64.wrap ((IntKind.i64.wrap ((IntKind.i64.wrap (v87 + (1 : Int))) + (1 : Int))) + (1 : Int))) + (1 : Int)))) then (some (-1 : Int)) else ((f25.l52 k x0) m52 ((IntKind.i64.wrap ((IntKind.i64.wrap ((IntKind.i64.wrap ((IntKind.i64.wrap ((IntKind.i64.wrap (v87 + (1 : Int))) + (1 : Int))) + (1 : Int))) + (1 : Int))) + (1 : Int))), (IntKind.i64.wrap (v88 + (1 : Int)))))) else none)) else none))) else none)) else none)) else none) else (some v87)
def f25 (k : Nat) (x0 : (List (Int × (Int × (ByteArray × (Int × Int)))))) (x1 : Int) : Option Int := f25.l52 k x0 k (x1, (0 : Int))
set_option maxRecDepth 100000 in
/-- 'laws.heldTurningS'. -/
theorem c25 (k : Nat) (x0 : (List (Int × (Int × (ByteArray × (Int × Int)))))) (x1 : Int) (r : Int) (hF : f25 k x0 x1 = some r) : PCall Try.prog 25 [⟨sh25, x0⟩, ⟨(.int .i64), x1⟩] [⟨(.int .i64), r⟩] := by
  refine pcall_intro Try.func25 rfl rfl (Nat.le_of_ble_eq_true rfl) ?_
  intro w0 Zi a w h
  rw [f25] at hF
  refine wp_reg_seq tok (orc := orcL []) (fz := []) (l := [0, 1]) (c := _) (.inr fun i h => h) h (by kernel_rfl) (AllP.nil) ?_
  intro a w h
  refine wp_seq ?_
  refine wp_reg_seq tok (orc := orcL []) (fz := []) (l := [0, 1, 5]) (c := _) (.inr fun i h => h) h (by kernel_rfl) (AllP.nil) ?_
  intro a w h
  refine wp_block ?_
  refine wp_loop_fuel (f25.l52 k x0) (fun ((v87, v88) : (Int × Int)) => [(0, .val sh25 x0), (1, .val (.int .i64) v87), (5, .val (.int .i64) v88)]) (fun v h => by obtain ⟨v87, v88⟩ := v; rw [f25.l52] at h; cases h) ?_ hF (h.arrive (fz := []) (l := [0, 1, 5]) (.inr fun i h => h) (by kernel_rfl))
  intro m52 v a w hF h
  obtain ⟨v87, v88⟩ := v
  rw [f25.l52] at hF
  refine wp_seq ?_
  refine wp_reg_seq tok (orc := orcL []) (fz := []) (l := [0, 1, 5, 9]) (c := _) (.inr fun i h => h) h (by kernel_rfl) (AllP.nil) ?_
  intro a w h
  refine wp_if h (b := (decide ((v88 : Int) < (List.length x0 : Int)))) (by kernel_rfl) (fun hb => ?_) (fun hb => ?_)
  · replace hF := of_t hb hF
    refine wp_skip ?_
    refine wp_seq <| wp_block ?_
    refine wp_seq ?_
    obtain ⟨hc102, hF⟩ := of_if hF
    refine wp_reg_seq tok (orc := orcL []) (fz := []) (l := [0, 1, 5, 18]) (c := _) (.inr fun i h => h) h (by kernel_rfl) (AllP.cons hc102 AllP.nil) ?_
    intro a w h
    refine wp_if h (b := (((List.getD x0 (Int.toNat v88) ((0 : Int), ((0 : Int), ((⟨#[]⟩ : ByteArray), ((0 : Int), (0 : Int)))))).1 : Int) != v87)) (by kernel_rfl) (fun hb => ?_) (fun hb => ?_)
    · replace hF := of_t hb hF
      refine wp_reg_seq tok (orc := orcL []) (fz := []) (l := [4]) (c := _) (.inr fun i h => h) h (by kernel_rfl) (AllP.nil) ?_
      intro a w h
      cases hF
      exact wp_ret (ret_okR tok h rfl (by kernel_rfl)).1
    · replace hF := of_f hb hF
      refine wp_skip ?_
      refine wp_reg_seq tok (orc := orcL []) (fz := []) (l := [0, 1, 5]) (c := _) (.inr fun i h => h) h (by kernel_rfl) (AllP.nil) ?_
      intro a w h
      refine wp_seq ?_
      obtain ⟨hc101, hF⟩ := of_if hF
      refine wp_reg_seq tok (orc := orcL []) (fz := []) (l := [0, 1, 5, 27]) (c := _) (.inr fun i h => h) h (by kernel_rfl) (AllP.cons hc101 AllP.nil) ?_
      intro a w h
      refine wp_if h (b := (((List.getD x0 (Int.toNat v88) ((0 : Int), ((0 : Int), ((⟨#[]⟩ : ByteArray), ((0 : Int), (0 : Int)))))).2.1 : Int) != (IntKind.i64.wrap (v87 + (1 : Int))))) (by kernel_rfl) (fun hb => ?_) (fun hb => ?_)
      · replace hF := of_t hb hF
        refine wp_reg_seq tok (orc := orcL []) (fz := []) (l := [4]) (c := _) (.inr fun i h => h) h (by kernel_rfl) (AllP.nil) ?_
        intro a w h
        cases hF
        exact wp_ret (ret_okR tok h rfl (by kernel_rfl)).1
      · replace hF := of_f hb hF
        refine wp_skip ?_
        refine wp_reg_seq tok (orc := orcL []) (fz := []) (l := [0, 1, 5]) (c := _) (.inr fun i h => h) h (by kernel_rfl) (AllP.nil) ?_
        intro a w h
        refine wp_seq ?_
        obtain ⟨hc99, hF⟩ := of_if hF
        obtain ⟨r96, hr100, hF⟩ := of_bind hF
        refine wp_regy_seq tok (orc := orcL [(36, [⟨.str, r96⟩])]) (fz := []) (l := [0, 1, 5, 37]) (c := _) ([], [], [], []) 8 (.inr fun i h => h) h (by kernel_rfl) (by kernel_rfl) (AllP.cons hc99 (AllP.cons (c91 k (IntKind.i64.wrap ((IntKind.i64.wrap (v87 + (1 : Int))) + (1 : Int))) r96 hr100) AllP.nil)) ?_
        intro a w h
        refine wp_if h (b := (!(ByteArray.toList (List.getD x0 (Int.toNat v88) ((0 : Int), ((0 : Int), ((⟨#[]⟩ : ByteArray), ((0 : Int), (0 : Int)))))).2.2.1 == ByteArray.toList r96))) (by kernel_rfl) (fun hb => ?_) (fun hb => ?_)
        · replace hF := of_t hb hF
          refine wp_reg_seq tok (orc := orcL []) (fz := []) (l := [4]) (c := _) (.inr fun i h => h) h (by kernel_rfl) (AllP.nil) ?_
          intro a w h
          cases hF
          exact wp_ret (ret_okR tok h rfl (by kernel_rfl)).1
        · replace hF := of_f hb hF
          refine wp_skip ?_
          refine wp_reg_seq tok (orc := orcL []) (fz := []) (l := [0, 1, 5]) (c := _) (.inr fun i h => h) h (by kernel_rfl) (AllP.nil) ?_
          intro a w h
          refine wp_seq ?_
          obtain ⟨hc98, hF⟩ := of_if hF
          refine wp_reg_seq tok (orc := orcL []) (fz := []) (l := [0, 1, 5, 46]) (c := _) (.inr fun i h => h) h (by kernel_rfl) (AllP.cons hc98 AllP.nil) ?_
          intro a w h
          refine wp_if h (b := (((List.getD x0 (Int.toNat v88) ((0 : Int), ((0 : Int), ((⟨#[]⟩ : ByteArray), ((0 : Int), (0 : Int)))))).2.2.2.1 : Int) != (IntKind.i64.wrap ((IntKind.i64.wrap ((IntKind.i64.wrap (v87 + (1 : Int))) + (1 : Int))) + (1 : Int))))) (by kernel_rfl) (fun hb => ?_) (fun hb => ?_)
          · replace hF := of_t hb hF
            refine wp_reg_seq tok (orc := orcL []) (fz := []) (l := [4]) (c := _) (.inr fun i h => h) h (by kernel_rfl) (AllP.nil) ?_
            intro a w h
            cases hF
            exact wp_ret (ret_okR tok h rfl (by kernel_rfl)).1
          · replace hF := of_f hb hF
            refine wp_skip ?_
            refine wp_reg_seq tok (orc := orcL []) (fz := []) (l := [0, 1, 5]) (c := _) (.inr fun i h => h) h (by kernel_rfl) (AllP.nil) ?_
            intro a w h
            refine wp_seq ?_
            obtain ⟨hc97, hF⟩ := of_if hF
            refine wp_reg_seq tok (orc := orcL []) (fz := []) (l := [0, 1, 5, 55]) (c := _) (.inr fun i h => h) h (by kernel_rfl) (AllP.cons hc97 AllP.nil) ?_
            intro a w h
            refine wp_if h (b := (((List.getD x0 (Int.toNat v88) ((0 : Int), ((0 : Int), ((⟨#[]⟩ : ByteArray), ((0 : Int), (0 : Int)))))).2.2.2.2 : Int) != (IntKind.i64.wrap ((IntKind.i64.wrap ((IntKind.i64.wrap ((IntKind.i64.wrap (v87 + (1 : Int))) + (1 : Int))) + (1 : Int))) + (1 : Int))))) (by kernel_rfl) (fun hb => ?_) (fun hb => ?_)
            · replace hF := of_t hb hF
              refine wp_reg_seq tok (orc := orcL []) (fz := []) (l := [4]) (c := _) (.inr fun i h => h) h (by kernel_rfl) (AllP.nil) ?_
              intro a w h
              cases hF
              exact wp_ret (ret_okR tok h rfl (by kernel_rfl)).1
            · replace hF := of_f hb hF
              refine wp_skip ?_
              refine wp_reg tok (orc := orcL []) (fz := []) (l := [0, 1, 5]) (c := _) (.inr fun i h => h) h (by kernel_rfl) (AllP.nil) ?_
              intro a w h
              refine wp_reg tok (orc := orcL []) (fz := []) (l := [0, 1, 5]) (c := _) (.inr fun i h => h) h (by kernel_rfl) (AllP.nil) ?_
              intro a w h
              exact ⟨((IntKind.i64.wrap ((IntKind.i64.wrap ((IntKind.i64.wrap ((IntKind.i64.wrap ((IntKind.i64.wrap (v87 + (1 : Int))) + (1 : Int))) + (1 : Int))) + (1 : Int))) + (1 : Int))), (IntKind.i64.wrap (v88 + (1 : Int)))), hF, h.arrive (fz := []) (l := [0, 1, 5]) (.inr fun i h => h) (by kernel_rfl)⟩
  · replace hF := of_f hb hF
    refine wp_exit ?_
    refine wp_reg_seq tok (orc := orcL []) (fz := []) (l := [4]) (c := _) (.inr fun i h => h) h (by kernel_rfl) (AllP.nil) ?_
    intro a w h
    cases hF
    exact wp_ret (ret_okR tok h rfl (by kernel_rfl)).1

def f3 (k : Nat) (x0 : ((List (Int × (Int × Int))) × ((List (Int × (Int × (Int × (Int × (Int × ByteArray)))))) × (List (Int × Int))))) (x1 : (List Int)) : Option Bool := if (decide (((List.length x1 : Int) : Int) > (1048576 : Int))) then (some true) else ((f14 k x0 (1048576 : Int)).bind fun r1 => (if (decide ((r1 : Int) < (0 : Int))) then (some true) else ((f16 k x0).bind fun r2 => ((f17 k x1).bind fun r3 => ((f15 k r2 r3).bind fun r4 => ((f16 k x0).bind fun r5 => ((f17 k x1).bind fun r6 => ((f18 k r5 r6).bind fun r7 => ((f19 k r7 r4).bind fun r8 => (if (!r8) then (some false) else ((f16 k x0).bind fun r9 => ((f20 k r5 r9).bind fun r10 => (if (!r10) then (some false) else ((f17 k x1).bind fun r11 => ((f21 k r6 r11).bind fun r12 => (if (!r12) then (some false) else ((f22 k r5 (1 : Int)).bind fun r13 => ((f23 k r6 r13.1).bind fun r14 => ((if ((decide ((r14.1 : Int) < (0 : Int))) = false) then f19 k r7 r4 else some default).bind fun r15 => (if (bif (decide ((r14.1 : Int) < (0 : Int))) then true else (!r15)) then (some false) else ((f24 k r7 (1 : Int)).bind fun r16 => ((f25 k r16.2 (1 : Int)).bind fun r17 => (if (decide ((r17 : Int) < (0 : Int))) then (some false) else (if ((r17 : Int) != r16.1) then (some false) else ((f16 k x0).bind fun r18 => ((f17 k x1).bind fun r19 => ((f18 k r18 r19).bind fun r20 => ((f19 k r20 r4).bind fun r21 => (if (!r21) then (some false) else ((f25 k r16.2 (1 : Int)).bind fun r22 => (if (decide ((r22 : Int) < (0 : Int))) then (some false) else (if ((r22 : Int) != r16.1) then (some false) else (some true)))))))))))))))))))))))))))))))))
set_option maxRecDepth 100000 in
/-- 'laws.FnExactGuide'. -/
theorem c3 (k : Nat) (x0 : ((List (Int × (Int × Int))) × ((List (Int × (Int × (Int × (Int × (Int × ByteArray)))))) × (List (Int × Int))))) (x1 : (List Int)) (r : Bool) (hF : f3 k x0 x1 = some r) : PCall Try.prog 3 [⟨sh4, x0⟩, ⟨(.sl false 2 (.int .i64)), x1⟩] [⟨.bool, r⟩] := by
  refine pcall_intro Try.func3 rfl rfl (Nat.le_of_ble_eq_true rfl) ?_
  intro w0 Zi a w h
  rw [f3] at hF
  refine wp_reg_seq tok (orc := orcL []) (fz := []) (l := [1, 2]) (c := _) (.inr fun i h => h) h (by kernel_rfl) (AllP.nil) ?_
  intro a w h
  refine wp_seq ?_
  refine wp_reg_seq tok (orc := orcL []) (fz := []) (l := [1, 2, 16]) (c := _) (.inr fun i h => h) h (by kernel_rfl) (AllP.nil) ?_
  intro a w h
  refine wp_if h (b := (decide (((List.length x1 : Int) : Int) > (1048576 : Int)))) (by kernel_rfl) (fun hb => ?_) (fun hb => ?_)
  · replace hF := of_t hb hF
    refine wp_reg_seq tok (orc := orcL []) (fz := []) (l := [4]) (c := _) (.inr fun i h => h) h (by kernel_rfl) (AllP.nil) ?_
    intro a w h
    cases hF
    exact wp_ret (ret_okR tok h rfl (by kernel_rfl)).1
  · replace hF := of_f hb hF
    refine wp_skip ?_
    refine wp_reg_seq tok (orc := orcL []) (fz := []) (l := [1, 2, 5]) (c := _) (.inr fun i h => h) h (by kernel_rfl) (AllP.nil) ?_
    intro a w h
    obtain ⟨r1, hr44, hF⟩ := of_bind hF
    refine wp_reg_seq tok (orc := orcL [(19, [⟨(.int .i64), r1⟩])]) (fz := []) (l := [1, 2, 5]) (c := _) (.inr fun i h => h) h (by kernel_rfl) (AllP.cons (c14 k x0 (1048576 : Int) r1 hr44) AllP.nil) ?_
    intro a w h
    refine wp_seq ?_
    refine wp_reg_seq tok (orc := orcL []) (fz := []) (l := [1, 2, 21]) (c := _) (.inr fun i h => h) h (by kernel_rfl) (AllP.nil) ?_
    intro a w h
    refine wp_if h (b := (decide ((r1 : Int) < (0 : Int)))) (by kernel_rfl) (fun hb => ?_) (fun hb => ?_)
    · replace hF := of_t hb hF
      refine wp_reg_seq tok (orc := orcL []) (fz := []) (l := [4]) (c := _) (.inr fun i h => h) h (by kernel_rfl) (AllP.nil) ?_
      intro a w h
      cases hF
      exact wp_ret (ret_okR tok h rfl (by kernel_rfl)).1
    · replace hF := of_f hb hF
      refine wp_skip ?_
      obtain ⟨r2, hr41, hF⟩ := of_bind hF
      obtain ⟨r3, hr42, hF⟩ := of_bind hF
      obtain ⟨r4, hr43, hF⟩ := of_bind hF
      refine wp_reg_seq tok (orc := orcL [(23, [⟨sh10, r2⟩]), (25, [⟨(.sl true 2 (.int .i64)), r3⟩]), (26, [⟨sh16, r4⟩])]) (fz := []) (l := [1, 2, 6]) (c := _) (.inr fun i h => h) h (by kernel_rfl) (AllP.cons (c16 k x0 r2 hr41) (AllP.cons (c17 k x1 r3 hr42) (AllP.cons (c15 k r2 r3 r4 hr43) AllP.nil))) ?_
      intro a w h
      obtain ⟨r5, hr40, hF⟩ := of_bind hF
      refine wp_reg_seq tok (orc := orcL [(28, [⟨sh10, r5⟩])]) (fz := []) (l := [1, 2, 6, 7]) (c := _) (.inr fun i h => h) h (by kernel_rfl) (AllP.cons (c16 k x0 r5 hr40) AllP.nil) ?_
      intro a w h
      obtain ⟨r6, hr39, hF⟩ := of_bind hF
      refine wp_reg_seq tok (orc := orcL [(30, [⟨(.sl true 2 (.int .i64)), r6⟩])]) (fz := []) (l := [1, 2, 6, 7, 8]) (c := _) (.inr fun i h => h) h (by kernel_rfl) (AllP.cons (c17 k x1 r6 hr39) AllP.nil) ?_
      intro a w h
      obtain ⟨r7, hr38, hF⟩ := of_bind hF
      refine wp_reg_seq tok (orc := orcL [(33, [⟨sh16, r7⟩])]) (fz := []) (l := [1, 2, 6, 7, 8, 9]) (c := _) (.inr fun i h => h) h (by kernel_rfl) (AllP.cons (c18 k r5 r6 r7 hr38) AllP.nil) ?_
      intro a w h
      refine wp_seq ?_
      obtain ⟨r8, hr37, hF⟩ := of_bind hF
      refine wp_reg_seq tok (orc := orcL [(36, [⟨.bool, r8⟩])]) (fz := []) (l := [1, 2, 6, 7, 8, 9, 37]) (c := _) (.inr fun i h => h) h (by kernel_rfl) (AllP.cons (c19 k r7 r4 r8 hr37) AllP.nil) ?_
      intro a w h
      refine wp_if h (b := (!r8)) (by kernel_rfl) (fun hb => ?_) (fun hb => ?_)
      · replace hF := of_t hb hF
        refine wp_reg_seq tok (orc := orcL []) (fz := []) (l := [4]) (c := _) (.inr fun i h => h) h (by kernel_rfl) (AllP.nil) ?_
        intro a w h
        cases hF
        exact wp_ret (ret_okR tok h rfl (by kernel_rfl)).1
      · replace hF := of_f hb hF
        refine wp_skip ?_
        refine wp_seq ?_
        obtain ⟨r9, hr35, hF⟩ := of_bind hF
        obtain ⟨r10, hr36, hF⟩ := of_bind hF
        refine wp_regy_seq tok (orc := orcL [(40, [⟨sh10, r9⟩]), (41, [⟨.bool, r10⟩])]) (fz := []) (l := [1, 2, 6, 7, 8, 9, 42]) (c := _) ([], [], [], []) 5 (.inr fun i h => h) h (by kernel_rfl) (by kernel_rfl) (AllP.cons (c16 k x0 r9 hr35) (AllP.cons (c20 k r5 r9 r10 hr36) AllP.nil)) ?_
        intro a w h
        refine wp_if h (b := (!r10)) (by kernel_rfl) (fun hb => ?_) (fun hb => ?_)
        · replace hF := of_t hb hF
          refine wp_reg_seq tok (orc := orcL []) (fz := []) (l := [4]) (c := _) (.inr fun i h => h) h (by kernel_rfl) (AllP.nil) ?_
          intro a w h
          cases hF
          exact wp_ret (ret_okR tok h rfl (by kernel_rfl)).1
        · replace hF := of_f hb hF
          refine wp_skip ?_
          refine wp_seq ?_
          obtain ⟨r11, hr33, hF⟩ := of_bind hF
          obtain ⟨r12, hr34, hF⟩ := of_bind hF
          refine wp_reg_seq tok (orc := orcL [(45, [⟨(.sl true 2 (.int .i64)), r11⟩]), (46, [⟨.bool, r12⟩])]) (fz := []) (l := [1, 2, 6, 7, 8, 9, 47]) (c := _) (.inr fun i h => h) h (by kernel_rfl) (AllP.cons (c17 k x1 r11 hr33) (AllP.cons (c21 k r6 r11 r12 hr34) AllP.nil)) ?_
          intro a w h
          refine wp_if h (b := (!r12)) (by kernel_rfl) (fun hb => ?_) (fun hb => ?_)
          · replace hF := of_t hb hF
            refine wp_reg_seq tok (orc := orcL []) (fz := []) (l := [4]) (c := _) (.inr fun i h => h) h (by kernel_rfl) (AllP.nil) ?_
            intro a w h
            cases hF
            exact wp_ret (ret_okR tok h rfl (by kernel_rfl)).1
          · replace hF := of_f hb hF
            refine wp_skip ?_
            refine wp_reg_seq tok (orc := orcL []) (fz := []) (l := [1, 2, 6, 7, 8, 9, 10]) (c := _) (.inr fun i h => h) h (by kernel_rfl) (AllP.nil) ?_
            intro a w h
            obtain ⟨r13, hr32, hF⟩ := of_bind hF
            refine wp_reg_seq tok (orc := orcL [(50, [⟨.pt false 4294967295 (.st (.pair (.sl true 176 (.st (.pair (.int .i64) (.st (.pair (.int .i64) (.int .i64)))))) (.pair (.sl true 110 (.st (.pair (.int .i64) (.pair (.int .i64) (.pair (.int .i64) (.pair (.int .i64) (.pair (.int .i64) .str))))))) (.sl true 167 (.st (.pair (.int .i64) (.int .i64))))))), some r13.2⟩, ⟨(.int .i64), r13.1⟩])]) (fz := []) (l := [1, 2, 6, 8, 9, 10]) (c := _) (.inr fun i h => h) h (by kernel_rfl) (AllP.cons (c22 k r5 (1 : Int) r13 hr32) AllP.nil) ?_
            intro a w h
            obtain ⟨r14, hr31, hF⟩ := of_bind hF
            refine wp_reg_seq tok (orc := orcL [(53, [⟨.pt false 4294967295 (.sl true 2 (.int .i64)), some r14.2⟩, ⟨(.int .i64), r14.1⟩])]) (fz := []) (l := [1, 2, 6, 9, 10]) (c := _) (.inr fun i h => h) h (by kernel_rfl) (AllP.cons (c23 k r6 r13.1 r14 hr31) AllP.nil) ?_
            intro a w h
            refine wp_seq ?_
            obtain ⟨r15, hr30, hF⟩ := of_bind hF
            refine wp_reg_seq tok (orc := orcL [(59, [⟨.bool, r15⟩])]) (fz := []) (l := [1, 2, 6, 9, 61]) (c := _) (.inr fun i h => h) h (by kernel_rfl) (AllP.cons (fun (hg : ((decide ((r14.1 : Int) < (0 : Int))) = false)) => c19 k r7 r4 r15 (of_g hg hr30)) AllP.nil) ?_
            intro a w h
            refine wp_if h (b := (bif (decide ((r14.1 : Int) < (0 : Int))) then true else (!r15))) (by kernel_rfl) (fun hb => ?_) (fun hb => ?_)
            · replace hF := of_t hb hF
              refine wp_reg_seq tok (orc := orcL []) (fz := []) (l := [4]) (c := _) (.inr fun i h => h) h (by kernel_rfl) (AllP.nil) ?_
              intro a w h
              cases hF
              exact wp_ret (ret_okR tok h rfl (by kernel_rfl)).1
            · replace hF := of_f hb hF
              refine wp_skip ?_
              refine wp_reg_seq tok (orc := orcL []) (fz := []) (l := [1, 2, 6, 9, 11]) (c := _) (.inr fun i h => h) h (by kernel_rfl) (AllP.nil) ?_
              intro a w h
              obtain ⟨r16, hr29, hF⟩ := of_bind hF
              refine wp_reg_seq tok (orc := orcL [(64, [⟨.pt false 4294967295 (.sl true 114 (.st (.pair (.int .i64) (.pair (.int .i64) (.pair .str (.pair (.int .i64) (.int .i64))))))), some r16.2⟩, ⟨(.int .i64), r16.1⟩])]) (fz := []) (l := [1, 2, 6, 9, 11]) (c := _) (.inr fun i h => h) h (by kernel_rfl) (AllP.cons (c24 k r7 (1 : Int) r16 hr29) AllP.nil) ?_
              intro a w h
              refine wp_reg_seq tok (orc := orcL []) (fz := []) (l := [1, 2, 6, 9, 11, 12]) (c := _) (.inr fun i h => h) h (by kernel_rfl) (AllP.nil) ?_
              intro a w h
              obtain ⟨r17, hr28, hF⟩ := of_bind hF
              refine wp_reg_seq tok (orc := orcL [(67, [⟨(.int .i64), r17⟩])]) (fz := []) (l := [1, 2, 6, 9, 11, 12]) (c := _) (.inr fun i h => h) h (by kernel_rfl) (AllP.cons (c25 k r16.2 (1 : Int) r17 hr28) AllP.nil) ?_
              intro a w h
              refine wp_seq ?_
              refine wp_reg_seq tok (orc := orcL []) (fz := []) (l := [1, 2, 6, 9, 11, 12, 69]) (c := _) (.inr fun i h => h) h (by kernel_rfl) (AllP.nil) ?_
              intro a w h
              refine wp_if h (b := (decide ((r17 : Int) < (0 : Int)))) (by kernel_rfl) (fun hb => ?_) (fun hb => ?_)
              · replace hF := of_t hb hF
                refine wp_reg_seq tok (orc := orcL []) (fz := []) (l := [4]) (c := _) (.inr fun i h => h) h (by kernel_rfl) (AllP.nil) ?_
                intro a w h
                cases hF
                exact wp_ret (ret_okR tok h rfl (by kernel_rfl)).1
              · replace hF := of_f hb hF
                refine wp_skip ?_
                refine wp_seq ?_
                refine wp_reg_seq tok (orc := orcL []) (fz := []) (l := [1, 2, 6, 9, 11, 72]) (c := _) (.inr fun i h => h) h (by kernel_rfl) (AllP.nil) ?_
                intro a w h
                refine wp_if h (b := ((r17 : Int) != r16.1)) (by kernel_rfl) (fun hb => ?_) (fun hb => ?_)
                · replace hF := of_t hb hF
                  refine wp_reg_seq tok (orc := orcL []) (fz := []) (l := [4]) (c := _) (.inr fun i h => h) h (by kernel_rfl) (AllP.nil) ?_
                  intro a w h
                  cases hF
                  exact wp_ret (ret_okR tok h rfl (by kernel_rfl)).1
                · replace hF := of_f hb hF
                  refine wp_skip ?_
                  obtain ⟨r18, hr25, hF⟩ := of_bind hF
                  obtain ⟨r19, hr26, hF⟩ := of_bind hF
                  obtain ⟨r20, hr27, hF⟩ := of_bind hF
                  refine wp_reg_seq tok (orc := orcL [(74, [⟨sh10, r18⟩]), (76, [⟨(.sl true 2 (.int .i64)), r19⟩]), (77, [⟨sh16, r20⟩])]) (fz := []) (l := [6, 9, 11, 13]) (c := _) (.inr fun i h => h) h (by kernel_rfl) (AllP.cons (c16 k x0 r18 hr25) (AllP.cons (c17 k x1 r19 hr26) (AllP.cons (c18 k r18 r19 r20 hr27) AllP.nil))) ?_
                  intro a w h
                  refine wp_seq ?_
                  obtain ⟨r21, hr24, hF⟩ := of_bind hF
                  refine wp_reg_seq tok (orc := orcL [(80, [⟨.bool, r21⟩])]) (fz := []) (l := [9, 11, 81]) (c := _) (.inr fun i h => h) h (by kernel_rfl) (AllP.cons (c19 k r20 r4 r21 hr24) AllP.nil) ?_
                  intro a w h
                  refine wp_if h (b := (!r21)) (by kernel_rfl) (fun hb => ?_) (fun hb => ?_)
                  · replace hF := of_t hb hF
                    refine wp_reg_seq tok (orc := orcL []) (fz := []) (l := [4]) (c := _) (.inr fun i h => h) h (by kernel_rfl) (AllP.nil) ?_
                    intro a w h
                    cases hF
                    exact wp_ret (ret_okR tok h rfl (by kernel_rfl)).1
                  · replace hF := of_f hb hF
                    refine wp_skip ?_
                    refine wp_reg_seq tok (orc := orcL []) (fz := []) (l := [9, 11, 12]) (c := _) (.inr fun i h => h) h (by kernel_rfl) (AllP.nil) ?_
                    intro a w h
                    obtain ⟨r22, hr23, hF⟩ := of_bind hF
                    refine wp_reg_seq tok (orc := orcL [(84, [⟨(.int .i64), r22⟩])]) (fz := []) (l := [11, 12]) (c := _) (.inr fun i h => h) h (by kernel_rfl) (AllP.cons (c25 k r16.2 (1 : Int) r22 hr23) AllP.nil) ?_
                    intro a w h
                    refine wp_seq ?_
                    refine wp_reg_seq tok (orc := orcL []) (fz := []) (l := [11, 12, 86]) (c := _) (.inr fun i h => h) h (by kernel_rfl) (AllP.nil) ?_
                    intro a w h
                    refine wp_if h (b := (decide ((r22 : Int) < (0 : Int)))) (by kernel_rfl) (fun hb => ?_) (fun hb => ?_)
                    · replace hF := of_t hb hF
                      refine wp_reg_seq tok (orc := orcL []) (fz := []) (l := [4]) (c := _) (.inr fun i h => h) h (by kernel_rfl) (AllP.nil) ?_
                      intro a w h
                      cases hF
                      exact wp_ret (ret_okR tok h rfl (by kernel_rfl)).1
                    · replace hF := of_f hb hF
                      refine wp_skip ?_
                      refine wp_seq ?_
                      refine wp_reg_seq tok (orc := orcL []) (fz := []) (l := [89]) (c := _) (.inr fun i h => h) h (by kernel_rfl) (AllP.nil) ?_
                      intro a w h
                      refine wp_if h (b := ((r22 : Int) != r16.1)) (by kernel_rfl) (fun hb => ?_) (fun hb => ?_)
                      · replace hF := of_t hb hF
                        refine wp_reg_seq tok (orc := orcL []) (fz := []) (l := [4]) (c := _) (.inr fun i h => h) h (by kernel_rfl) (AllP.nil) ?_
                        intro a w h
                        cases hF
                        exact wp_ret (ret_okR tok h rfl (by kernel_rfl)).1
                      · replace hF := of_f hb hF
                        refine wp_skip ?_
                        refine wp_reg_seq tok (orc := orcL []) (fz := []) (l := [4]) (c := _) (.inr fun i h => h) h (by kernel_rfl) (AllP.nil) ?_
                        intro a w h
                        cases hF
                        exact wp_ret (ret_okR tok h rfl (by kernel_rfl)).1
end Go.Proofs.Ytchbpdnaodicaaa.V
