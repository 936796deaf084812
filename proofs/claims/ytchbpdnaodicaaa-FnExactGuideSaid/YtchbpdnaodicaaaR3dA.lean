/-
  THE CONTRACTS OF SOME FUNCTIONS OF THIS SEAT, PRINTED BY A PROGRAM OF THIS PROJECT (wip/gen/vgen.py).
-/
import Derived.Test.YtchbpdnaodicaaaProg
import Derived.Test.YtchbpdnaodicaaaVmW
import Derived.Test.YtchbpdnaodicaaaVmZ
import Derived.KernelRfl
set_option linter.unusedVariables false
open Go Go.Vm Go.Proofs
namespace Go.Proofs.Ytchbpdnaodicaaa.V
abbrev sh0 : Sh := (.sl false 213 (.st (.pair (.int .i64) (.st (.pair (.int .i64) (.int .i64))))))
abbrev sh1 : Sh := (.st (.pair (.int .i64) (.pair (.int .i64) (.pair (.int .i64) (.pair (.int .i64) (.pair (.int .i64) .str))))))
abbrev sh2 : Sh := (.sl false 205 (.st (.pair (.int .i64) (.pair (.int .i64) (.pair (.int .i64) (.pair (.int .i64) (.pair (.int .i64) .str)))))))
abbrev sh3 : Sh := (.sl false 216 (.st (.pair (.int .i64) (.int .i64))))
abbrev sh4 : Sh := (.st (.pair (.sl false 213 (.st (.pair (.int .i64) (.st (.pair (.int .i64) (.int .i64)))))) (.pair (.sl false 205 (.st (.pair (.int .i64) (.pair (.int .i64) (.pair (.int .i64) (.pair (.int .i64) (.pair (.int .i64) .str))))))) (.sl false 216 (.st (.pair (.int .i64) (.int .i64)))))))
abbrev sh5 : Sh := (.st (.pair (.int .i64) (.int .i64)))
abbrev sh6 : Sh := (.st (.pair (.int .i64) (.st (.pair (.int .i64) (.int .i64)))))
abbrev sh7 : Sh := (.sl true 176 (.st (.pair (.int .i64) (.st (.pair (.int .i64) (.int .i64))))))
abbrev sh8 : Sh := (.sl true 110 (.st (.pair (.int .i64) (.pair (.int .i64) (.pair (.int .i64) (.pair (.int .i64) (.pair (.int .i64) .str)))))))
abbrev sh9 : Sh := (.sl true 167 (.st (.pair (.int .i64) (.int .i64))))
abbrev sh10 : Sh := (.st (.pair (.sl true 176 (.st (.pair (.int .i64) (.st (.pair (.int .i64) (.int .i64)))))) (.pair (.sl true 110 (.st (.pair (.int .i64) (.pair (.int .i64) (.pair (.int .i64) (.pair (.int .i64) (.pair (.int .i64) .str))))))) (.sl true 167 (.st (.pair (.int .i64) (.int .i64)))))))
abbrev sh11 : Sh := (.pt true 35 (.st (.pair (.sl false 176 (.st (.pair (.int .i64) (.st (.pair (.int .i64) (.int .i64)))))) (.pair (.sl false 110 (.st (.pair (.int .i64) (.pair (.int .i64) (.pair (.int .i64) (.pair (.int .i64) (.pair (.int .i64) .str))))))) (.sl false 167 (.st (.pair (.int .i64) (.int .i64))))))))
abbrev sh12 : Sh := (.st (.pair (.sl false 176 (.st (.pair (.int .i64) (.st (.pair (.int .i64) (.int .i64)))))) (.pair (.sl false 110 (.st (.pair (.int .i64) (.pair (.int .i64) (.pair (.int .i64) (.pair (.int .i64) (.pair (.int .i64) .str))))))) (.sl false 167 (.st (.pair (.int .i64) (.int .i64)))))))
abbrev sh13 : Sh := (.pt true 167 (.st (.pair (.int .i64) (.int .i64))))
abbrev sh14 : Sh := (.sl true 27 (.sl true 2 (.int .i64)))
abbrev sh15 : Sh := (.sl false 27 (.sl false 2 (.int .i64)))
abbrev sh16 : Sh := (.sl true 114 (.st (.pair (.int .i64) (.pair (.int .i64) (.pair .str (.pair (.int .i64) (.int .i64)))))))
abbrev sh17 : Sh := (.pt true 110 (.st (.pair (.int .i64) (.pair (.int .i64) (.pair (.int .i64) (.pair (.int .i64) (.pair (.int .i64) .str)))))))
abbrev sh18 : Sh := (.pt true 114 (.st (.pair (.int .i64) (.pair (.int .i64) (.pair .str (.pair (.int .i64) (.int .i64)))))))
abbrev sh19 : Sh := (.sl false 176 (.st (.pair (.int .i64) (.st (.pair (.int .i64) (.int .i64))))))
abbrev sh20 : Sh := (.sl false 110 (.st (.pair (.int .i64) (.pair (.int .i64) (.pair (.int .i64) (.pair (.int .i64) (.pair (.int .i64) .str)))))))
abbrev sh21 : Sh := (.sl false 167 (.st (.pair (.int .i64) (.int .i64))))
abbrev sh22 : Sh := (.pt true 218 (.st (.pair (.st (.pair (.sl false 176 (.st (.pair (.int .i64) (.st (.pair (.int .i64) (.int .i64)))))) (.pair (.sl false 110 (.st (.pair (.int .i64) (.pair (.int .i64) (.pair (.int .i64) (.pair (.int .i64) (.pair (.int .i64) .str))))))) (.sl false 167 (.st (.pair (.int .i64) (.int .i64))))))) (.pair (.sl true 27 (.sl true 2 (.int .i64))) (.pair (.sl true 27 (.sl true 2 (.int .i64))) (.mp true (.st (.pair (.int .i64) (.int .i64))) .bool))))))
abbrev sh23 : Sh := (.pt false 0 (.st (.pair (.st (.pair (.sl false 176 (.st (.pair (.int .i64) (.st (.pair (.int .i64) (.int .i64)))))) (.pair (.sl false 110 (.st (.pair (.int .i64) (.pair (.int .i64) (.pair (.int .i64) (.pair (.int .i64) (.pair (.int .i64) .str))))))) (.sl false 167 (.st (.pair (.int .i64) (.int .i64))))))) (.pair (.sl false 27 (.sl false 2 (.int .i64))) (.pair (.sl false 27 (.sl false 2 (.int .i64))) (.mp false (.st (.pair (.int .i64) (.int .i64))) .bool))))))
abbrev sh24 : Sh := (.st (.pair (.int .i64) (.pair (.int .i64) (.pair .str (.pair (.int .i64) (.int .i64))))))
abbrev sh25 : Sh := (.sl false 114 (.st (.pair (.int .i64) (.pair (.int .i64) (.pair .str (.pair (.int .i64) (.int .i64)))))))
def tbl : Tbl := [⟨2, .int .i64, 1, 8, (.int .i64)⟩,
  ⟨3, .int .i64, 1, 8, (.int .i64)⟩,
  ⟨4, .bool, 1, 1, .bool⟩,
  ⟨5, .int .u8, 1, 1, (.int .u8)⟩,
  ⟨9, .string, 1, 16, .str⟩,
  ⟨22, .slice 213, 1, 24, (.sl true 213 (.st (.pair (.int .i64) (.st (.pair (.int .i64) (.int .i64))))))⟩,
  ⟨23, .slice 205, 1, 24, (.sl true 205 (.st (.pair (.int .i64) (.pair (.int .i64) (.pair (.int .i64) (.pair (.int .i64) (.pair (.int .i64) .str)))))))⟩,
  ⟨24, .slice 216, 1, 24, (.sl true 216 (.st (.pair (.int .i64) (.int .i64))))⟩,
  ⟨26, .struct [(22, 0), (23, 1), (24, 2)], 3, 72, (.st (.pair (.sl true 213 (.st (.pair (.int .i64) (.st (.pair (.int .i64) (.int .i64)))))) (.pair (.sl true 205 (.st (.pair (.int .i64) (.pair (.int .i64) (.pair (.int .i64) (.pair (.int .i64) (.pair (.int .i64) .str))))))) (.sl true 216 (.st (.pair (.int .i64) (.int .i64)))))))⟩,
  ⟨27, .slice 2, 1, 24, (.sl true 2 (.int .i64))⟩,
  ⟨29, .slice 114, 1, 24, (.sl true 114 (.st (.pair (.int .i64) (.pair (.int .i64) (.pair .str (.pair (.int .i64) (.int .i64)))))))⟩,
  ⟨31, .slice 176, 1, 24, (.sl true 176 (.st (.pair (.int .i64) (.st (.pair (.int .i64) (.int .i64))))))⟩,
  ⟨32, .slice 110, 1, 24, (.sl true 110 (.st (.pair (.int .i64) (.pair (.int .i64) (.pair (.int .i64) (.pair (.int .i64) (.pair (.int .i64) .str)))))))⟩,
  ⟨33, .slice 167, 1, 24, (.sl true 167 (.st (.pair (.int .i64) (.int .i64))))⟩,
  ⟨35, .struct [(31, 0), (32, 1), (33, 2)], 3, 72, (.st (.pair (.sl true 176 (.st (.pair (.int .i64) (.st (.pair (.int .i64) (.int .i64)))))) (.pair (.sl true 110 (.st (.pair (.int .i64) (.pair (.int .i64) (.pair (.int .i64) (.pair (.int .i64) (.pair (.int .i64) .str))))))) (.sl true 167 (.st (.pair (.int .i64) (.int .i64)))))))⟩,
  ⟨62, .slice 27, 1, 24, (.sl true 27 (.sl true 2 (.int .i64)))⟩,
  ⟨110, .struct [(2, 0), (2, 1), (2, 2), (2, 3), (2, 4), (9, 5)], 6, 56, (.st (.pair (.int .i64) (.pair (.int .i64) (.pair (.int .i64) (.pair (.int .i64) (.pair (.int .i64) .str))))))⟩,
  ⟨114, .struct [(2, 0), (2, 1), (9, 2), (2, 3), (2, 4)], 5, 48, (.st (.pair (.int .i64) (.pair (.int .i64) (.pair .str (.pair (.int .i64) (.int .i64))))))⟩,
  ⟨120, .ptr 218, 1, 8, (.pt true 218 (.st (.pair (.st (.pair (.sl true 176 (.st (.pair (.int .i64) (.st (.pair (.int .i64) (.int .i64)))))) (.pair (.sl true 110 (.st (.pair (.int .i64) (.pair (.int .i64) (.pair (.int .i64) (.pair (.int .i64) (.pair (.int .i64) .str))))))) (.sl true 167 (.st (.pair (.int .i64) (.int .i64))))))) (.pair (.sl true 27 (.sl true 2 (.int .i64))) (.pair (.sl true 27 (.sl true 2 (.int .i64))) (.mp true (.st (.pair (.int .i64) (.int .i64))) .bool))))))⟩,
  ⟨167, .struct [(2, 0), (2, 1)], 2, 16, (.st (.pair (.int .i64) (.int .i64)))⟩,
  ⟨168, .map 167 4, 1, 8, (.mp true (.st (.pair (.int .i64) (.int .i64))) .bool)⟩,
  ⟨174, .struct [(2, 0), (2, 1)], 2, 16, (.st (.pair (.int .i64) (.int .i64)))⟩,
  ⟨176, .struct [(2, 0), (174, 1)], 3, 24, (.st (.pair (.int .i64) (.st (.pair (.int .i64) (.int .i64)))))⟩,
  ⟨205, .struct [(2, 0), (2, 1), (2, 2), (2, 3), (2, 4), (9, 5)], 6, 56, (.st (.pair (.int .i64) (.pair (.int .i64) (.pair (.int .i64) (.pair (.int .i64) (.pair (.int .i64) .str))))))⟩,
  ⟨211, .struct [(2, 0), (2, 1)], 2, 16, (.st (.pair (.int .i64) (.int .i64)))⟩,
  ⟨213, .struct [(2, 0), (211, 1)], 3, 24, (.st (.pair (.int .i64) (.st (.pair (.int .i64) (.int .i64)))))⟩,
  ⟨216, .struct [(2, 0), (2, 1)], 2, 16, (.st (.pair (.int .i64) (.int .i64)))⟩,
  ⟨218, .struct [(35, 0), (62, 3), (62, 4), (168, 5)], 6, 128, (.st (.pair (.st (.pair (.sl true 176 (.st (.pair (.int .i64) (.st (.pair (.int .i64) (.int .i64)))))) (.pair (.sl true 110 (.st (.pair (.int .i64) (.pair (.int .i64) (.pair (.int .i64) (.pair (.int .i64) (.pair (.int .i64) .str))))))) (.sl true 167 (.st (.pair (.int .i64) (.int .i64))))))) (.pair (.sl true 27 (.sl true 2 (.int .i64))) (.pair (.sl true 27 (.sl true 2 (.int .i64))) (.mp true (.st (.pair (.int .i64) (.int .i64))) .bool)))))⟩,
  ⟨222, .slice 5, 1, 24, (.sl true 5 (.int .u8))⟩]
theorem tok : TOk Try.prog tbl := by unfold TOk; kernel_rfl

def f67 (k : Nat) (x0 : (List (Int × (Int × Int)))) (x1 : Int) : Option Int := if (decide (((IntKind.i64.wrap (x1 - (List.length x0 : Int))) : Int) < (0 : Int))) then (some (-1 : Int)) else (some (IntKind.i64.wrap (x1 - (List.length x0 : Int))))
set_option maxRecDepth 100000 in
/-- 'laws.szSpotS'. -/
theorem c67 (k : Nat) (x0 : (List (Int × (Int × Int)))) (x1 : Int) (r : Int) (hF : f67 k x0 x1 = some r) : PCall Try.prog 67 [⟨sh0, x0⟩, ⟨(.int .i64), x1⟩] [⟨(.int .i64), r⟩] := by
  refine pcall_intro Try.func67 rfl rfl (Nat.le_of_ble_eq_true rfl) ?_
  intro w0 Zi a w h
  rw [f67] at hF
  refine wp_reg_seq tok (orc := orcL []) (fz := []) (l := [0, 1]) (c := _) (.inr fun i h => h) h (by kernel_rfl) (AllP.nil) ?_
  intro a w h
  refine wp_reg_seq tok (orc := orcL []) (fz := []) (l := [1]) (c := _) (.inr fun i h => h) h (by kernel_rfl) (AllP.nil) ?_
  intro a w h
  refine wp_seq ?_
  refine wp_reg_seq tok (orc := orcL []) (fz := []) (l := [1, 10]) (c := _) (.inr fun i h => h) h (by kernel_rfl) (AllP.nil) ?_
  intro a w h
  refine wp_if h (b := (decide (((IntKind.i64.wrap (x1 - (List.length x0 : Int))) : Int) < (0 : Int)))) (by kernel_rfl) (fun hb => ?_) (fun hb => ?_)
  · replace hF := of_t hb hF
    refine wp_reg_seq tok (orc := orcL []) (fz := []) (l := [4]) (c := _) (.inr fun i h => h) h (by kernel_rfl) (AllP.nil) ?_
    intro a w h
    cases hF
    exact wp_ret (ret_okR tok h rfl (by kernel_rfl)).1
  · replace hF := of_f hb hF
    refine wp_skip ?_
    refine wp_reg_seq tok (orc := orcL []) (fz := []) (l := [4]) (c := _) (.inr fun i h => h) h (by kernel_rfl) (AllP.nil) ?_
    intro a w h
    cases hF
    exact wp_ret (ret_okR tok h rfl (by kernel_rfl)).1

def f157 (k : Nat) (x0 : (Int × (Int × (Int × (Int × (Int × ByteArray)))))) (x1 : Int) : Option Int := if (decide (((IntKind.i64.wrap (x1 - (ByteArray.size x0.2.2.2.2.2 : Int))) : Int) < (0 : Int))) then (some (-1 : Int)) else (some (IntKind.i64.wrap (x1 - (ByteArray.size x0.2.2.2.2.2 : Int))))
set_option maxRecDepth 100000 in
/-- 'laws.szRoad'. -/
theorem c157 (k : Nat) (x0 : (Int × (Int × (Int × (Int × (Int × ByteArray)))))) (x1 : Int) (r : Int) (hF : f157 k x0 x1 = some r) : PCall Try.prog 157 [⟨sh1, x0⟩, ⟨(.int .i64), x1⟩] [⟨(.int .i64), r⟩] := by
  refine pcall_intro Try.func157 rfl rfl (Nat.le_of_ble_eq_true rfl) ?_
  intro w0 Zi a w h
  rw [f157] at hF
  refine wp_reg_seq tok (orc := orcL []) (fz := []) (l := [1, 2]) (c := _) (.inr fun i h => h) h (by kernel_rfl) (AllP.nil) ?_
  intro a w h
  refine wp_reg_seq tok (orc := orcL []) (fz := []) (l := [1]) (c := _) (.inr fun i h => h) h (by kernel_rfl) (AllP.nil) ?_
  intro a w h
  refine wp_seq ?_
  refine wp_reg_seq tok (orc := orcL []) (fz := []) (l := [1, 11]) (c := _) (.inr fun i h => h) h (by kernel_rfl) (AllP.nil) ?_
  intro a w h
  refine wp_if h (b := (decide (((IntKind.i64.wrap (x1 - (ByteArray.size x0.2.2.2.2.2 : Int))) : Int) < (0 : Int)))) (by kernel_rfl) (fun hb => ?_) (fun hb => ?_)
  · replace hF := of_t hb hF
    refine wp_reg_seq tok (orc := orcL []) (fz := []) (l := [4]) (c := _) (.inr fun i h => h) h (by kernel_rfl) (AllP.nil) ?_
    intro a w h
    cases hF
    exact wp_ret (ret_okR tok h rfl (by kernel_rfl)).1
  · replace hF := of_f hb hF
    refine wp_skip ?_
    refine wp_reg_seq tok (orc := orcL []) (fz := []) (l := [4]) (c := _) (.inr fun i h => h) h (by kernel_rfl) (AllP.nil) ?_
    intro a w h
    cases hF
    exact wp_ret (ret_okR tok h rfl (by kernel_rfl)).1

def f68.l28 (k : Nat) (x0 : (List (Int × (Int × (Int × (Int × (Int × ByteArray))))))) : Nat → (Int × Int) → Option Int
  | 0, _ => none
  | m28 + 1, (v47, v48) => if (decide ((v48 : Int) < (List.length x0 : Int))) then (if (0 ≤ v48 ∧ v48 < (List.length x0 : Int)) then ((f157 k (List.getD x0 (Int.toNat v48) ((0 : Int), ((0 : Int), ((0 : Int), ((0 : Int), ((0 : Int), (⟨#[]⟩ : ByteArray))))))) v47).bind fun r52 => (if (decide ((r52 : Int) < (0 : Int))) then (some (-1 : Int)) else ((f68.l28 k x0) m28 (r52, (IntKind.i64.wrap (v48 + (1 : Int))))))) else none) else (some v47)
def f68 (k : Nat) (x0 : (List (Int × (Int × (Int × (Int × (Int × ByteArray))))))) (x1 : Int) : Option Int := if (decide (((IntKind.i64.wrap (x1 - (List.length x0 : Int))) : Int) < (0 : Int))) then (some (-1 : Int)) else (f68.l28 k x0 k ((IntKind.i64.wrap (x1 - (List.length x0 : Int))), (0 : Int)))
set_option maxRecDepth 100000 in
/-- 'laws.szRoadS'. -/
theorem c68 (k : Nat) (x0 : (List (Int × (Int × (Int × (Int × (Int × ByteArray))))))) (x1 : Int) (r : Int) (hF : f68 k x0 x1 = some r) : PCall Try.prog 68 [⟨sh2, x0⟩, ⟨(.int .i64), x1⟩] [⟨(.int .i64), r⟩] := by
  refine pcall_intro Try.func68 rfl rfl (Nat.le_of_ble_eq_true rfl) ?_
  intro w0 Zi a w h
  rw [f68] at hF
  refine wp_reg_seq tok (orc := orcL []) (fz := []) (l := [0, 1]) (c := _) (.inr fun i h => h) h (by kernel_rfl) (AllP.nil) ?_
  intro a w h
  refine wp_reg_seq tok (orc := orcL []) (fz := []) (l := [0, 1]) (c := _) (.inr fun i h => h) h (by kernel_rfl) (AllP.nil) ?_
  intro a w h
  refine wp_seq ?_
  refine wp_reg_seq tok (orc := orcL []) (fz := []) (l := [0, 1, 11]) (c := _) (.inr fun i h => h) h (by kernel_rfl) (AllP.nil) ?_
  intro a w h
  refine wp_if h (b := (decide (((IntKind.i64.wrap (x1 - (List.length x0 : Int))) : Int) < (0 : Int)))) (by kernel_rfl) (fun hb => ?_) (fun hb => ?_)
  · replace hF := of_t hb hF
    refine wp_reg_seq tok (orc := orcL []) (fz := []) (l := [4]) (c := _) (.inr fun i h => h) h (by kernel_rfl) (AllP.nil) ?_
    intro a w h
    cases hF
    exact wp_ret (ret_okR tok h rfl (by kernel_rfl)).1
  · replace hF := of_f hb hF
    refine wp_skip ?_
    refine wp_seq ?_
    refine wp_reg_seq tok (orc := orcL []) (fz := []) (l := [0, 1, 5]) (c := _) (.inr fun i h => h) h (by kernel_rfl) (AllP.nil) ?_
    intro a w h
    refine wp_block ?_
    refine wp_loop_fuel (f68.l28 k x0) (fun ((v47, v48) : (Int × Int)) => [(0, .val sh2 x0), (1, .val (.int .i64) v47), (5, .val (.int .i64) v48)]) (fun v h => by obtain ⟨v47, v48⟩ := v; rw [f68.l28] at h; cases h) ?_ hF (h.arrive (fz := []) (l := [0, 1, 5]) (.inr fun i h => h) (by kernel_rfl))
    intro m28 v a w hF h
    obtain ⟨v47, v48⟩ := v
    rw [f68.l28] at hF
    refine wp_seq ?_
    refine wp_reg_seq tok (orc := orcL []) (fz := []) (l := [0, 1, 5, 15]) (c := _) (.inr fun i h => h) h (by kernel_rfl) (AllP.nil) ?_
    intro a w h
    refine wp_if h (b := (decide ((v48 : Int) < (List.length x0 : Int)))) (by kernel_rfl) (fun hb => ?_) (fun hb => ?_)
    · replace hF := of_t hb hF
      refine wp_skip ?_
      refine wp_seq <| wp_block ?_
      obtain ⟨hc53, hF⟩ := of_if hF
      obtain ⟨r52, hr54, hF⟩ := of_bind hF
      refine wp_reg_seq tok (orc := orcL [(23, [⟨(.int .i64), r52⟩])]) (fz := []) (l := [0, 1, 5]) (c := _) (.inr fun i h => h) h (by kernel_rfl) (AllP.cons hc53 (AllP.cons (c157 k (List.getD x0 (Int.toNat v48) ((0 : Int), ((0 : Int), ((0 : Int), ((0 : Int), ((0 : Int), (⟨#[]⟩ : ByteArray))))))) v47 r52 hr54) AllP.nil)) ?_
      intro a w h
      refine wp_reg_seq tok (orc := orcL []) (fz := []) (l := [0, 1, 5, 25]) (c := _) (.inr fun i h => h) h (by kernel_rfl) (AllP.nil) ?_
      intro a w h
      refine wp_if h (b := (decide ((r52 : Int) < (0 : Int)))) (by kernel_rfl) (fun hb => ?_) (fun hb => ?_)
      · replace hF := of_t hb hF
        refine wp_reg_seq tok (orc := orcL []) (fz := []) (l := [4]) (c := _) (.inr fun i h => h) h (by kernel_rfl) (AllP.nil) ?_
        intro a w h
        cases hF
        exact wp_ret (ret_okR tok h rfl (by kernel_rfl)).1
      · replace hF := of_f hb hF
        refine wp_skip ?_
        refine wp_reg tok (orc := orcL []) (fz := []) (l := [0, 1, 5]) (c := _) (.inr fun i h => h) h (by kernel_rfl) (AllP.nil) ?_
        intro a w h
        exact ⟨(r52, (IntKind.i64.wrap (v48 + (1 : Int)))), hF, h.arrive (fz := []) (l := [0, 1, 5]) (.inr fun i h => h) (by kernel_rfl)⟩
    · replace hF := of_f hb hF
      refine wp_exit ?_
      refine wp_reg_seq tok (orc := orcL []) (fz := []) (l := [4]) (c := _) (.inr fun i h => h) h (by kernel_rfl) (AllP.nil) ?_
      intro a w h
      cases hF
      exact wp_ret (ret_okR tok h rfl (by kernel_rfl)).1

def f69 (k : Nat) (x0 : (List (Int × Int))) (x1 : Int) : Option Int := if (decide (((IntKind.i64.wrap (x1 - (List.length x0 : Int))) : Int) < (0 : Int))) then (some (-1 : Int)) else (some (IntKind.i64.wrap (x1 - (List.length x0 : Int))))
set_option maxRecDepth 100000 in
/-- 'laws.szBanS'. -/
theorem c69 (k : Nat) (x0 : (List (Int × Int))) (x1 : Int) (r : Int) (hF : f69 k x0 x1 = some r) : PCall Try.prog 69 [⟨sh3, x0⟩, ⟨(.int .i64), x1⟩] [⟨(.int .i64), r⟩] := by
  refine pcall_intro Try.func69 rfl rfl (Nat.le_of_ble_eq_true rfl) ?_
  intro w0 Zi a w h
  rw [f69] at hF
  refine wp_reg_seq tok (orc := orcL []) (fz := []) (l := [0, 1]) (c := _) (.inr fun i h => h) h (by kernel_rfl) (AllP.nil) ?_
  intro a w h
  refine wp_reg_seq tok (orc := orcL []) (fz := []) (l := [1]) (c := _) (.inr fun i h => h) h (by kernel_rfl) (AllP.nil) ?_
  intro a w h
  refine wp_seq ?_
  refine wp_reg_seq tok (orc := orcL []) (fz := []) (l := [1, 10]) (c := _) (.inr fun i h => h) h (by kernel_rfl) (AllP.nil) ?_
  intro a w h
  refine wp_if h (b := (decide (((IntKind.i64.wrap (x1 - (List.length x0 : Int))) : Int) < (0 : Int)))) (by kernel_rfl) (fun hb => ?_) (fun hb => ?_)
  · replace hF := of_t hb hF
    refine wp_reg_seq tok (orc := orcL []) (fz := []) (l := [4]) (c := _) (.inr fun i h => h) h (by kernel_rfl) (AllP.nil) ?_
    intro a w h
    cases hF
    exact wp_ret (ret_okR tok h rfl (by kernel_rfl)).1
  · replace hF := of_f hb hF
    refine wp_skip ?_
    refine wp_reg_seq tok (orc := orcL []) (fz := []) (l := [4]) (c := _) (.inr fun i h => h) h (by kernel_rfl) (AllP.nil) ?_
    intro a w h
    cases hF
    exact wp_ret (ret_okR tok h rfl (by kernel_rfl)).1

def f14 (k : Nat) (x0 : ((List (Int × (Int × Int))) × ((List (Int × (Int × (Int × (Int × (Int × ByteArray)))))) × (List (Int × Int))))) (x1 : Int) : Option Int := (f67 k x0.1 x1).bind fun r1 => (if (decide ((r1 : Int) < (0 : Int))) then (some (-1 : Int)) else ((f68 k x0.2.1 r1).bind fun r2 => (if (decide ((r2 : Int) < (0 : Int))) then (some (-1 : Int)) else ((f69 k x0.2.2 r2).bind fun r3 => (if (decide ((r3 : Int) < (0 : Int))) then (some (-1 : Int)) else (some r3))))))
set_option maxRecDepth 100000 in
/-- 'laws.szGraph'. -/
theorem c14 (k : Nat) (x0 : ((List (Int × (Int × Int))) × ((List (Int × (Int × (Int × (Int × (Int × ByteArray)))))) × (List (Int × Int))))) (x1 : Int) (r : Int) (hF : f14 k x0 x1 = some r) : PCall Try.prog 14 [⟨sh4, x0⟩, ⟨(.int .i64), x1⟩] [⟨(.int .i64), r⟩] := by
  refine pcall_intro Try.func14 rfl rfl (Nat.le_of_ble_eq_true rfl) ?_
  intro w0 Zi a w h
  rw [f14] at hF
  refine wp_reg_seq tok (orc := orcL []) (fz := []) (l := [1, 2]) (c := _) (.inr fun i h => h) h (by kernel_rfl) (AllP.nil) ?_
  intro a w h
  obtain ⟨r1, hr6, hF⟩ := of_bind hF
  refine wp_reg_seq tok (orc := orcL [(8, [⟨(.int .i64), r1⟩])]) (fz := []) (l := [1, 2]) (c := _) (.inr fun i h => h) h (by kernel_rfl) (AllP.cons (c67 k x0.1 x1 r1 hr6) AllP.nil) ?_
  intro a w h
  refine wp_seq ?_
  refine wp_reg_seq tok (orc := orcL []) (fz := []) (l := [1, 2, 10]) (c := _) (.inr fun i h => h) h (by kernel_rfl) (AllP.nil) ?_
  intro a w h
  refine wp_if h (b := (decide ((r1 : Int) < (0 : Int)))) (by kernel_rfl) (fun hb => ?_) (fun hb => ?_)
  · replace hF := of_t hb hF
    refine wp_reg_seq tok (orc := orcL []) (fz := []) (l := [4]) (c := _) (.inr fun i h => h) h (by kernel_rfl) (AllP.nil) ?_
    intro a w h
    cases hF
    exact wp_ret (ret_okR tok h rfl (by kernel_rfl)).1
  · replace hF := of_f hb hF
    refine wp_skip ?_
    obtain ⟨r2, hr5, hF⟩ := of_bind hF
    refine wp_reg_seq tok (orc := orcL [(14, [⟨(.int .i64), r2⟩])]) (fz := []) (l := [1, 2]) (c := _) (.inr fun i h => h) h (by kernel_rfl) (AllP.cons (c68 k x0.2.1 r1 r2 hr5) AllP.nil) ?_
    intro a w h
    refine wp_seq ?_
    refine wp_reg_seq tok (orc := orcL []) (fz := []) (l := [1, 2, 16]) (c := _) (.inr fun i h => h) h (by kernel_rfl) (AllP.nil) ?_
    intro a w h
    refine wp_if h (b := (decide ((r2 : Int) < (0 : Int)))) (by kernel_rfl) (fun hb => ?_) (fun hb => ?_)
    · replace hF := of_t hb hF
      refine wp_reg_seq tok (orc := orcL []) (fz := []) (l := [4]) (c := _) (.inr fun i h => h) h (by kernel_rfl) (AllP.nil) ?_
      intro a w h
      cases hF
      exact wp_ret (ret_okR tok h rfl (by kernel_rfl)).1
    · replace hF := of_f hb hF
      refine wp_skip ?_
      obtain ⟨r3, hr4, hF⟩ := of_bind hF
      refine wp_reg_seq tok (orc := orcL [(20, [⟨(.int .i64), r3⟩])]) (fz := []) (l := [1]) (c := _) (.inr fun i h => h) h (by kernel_rfl) (AllP.cons (c69 k x0.2.2 r2 r3 hr4) AllP.nil) ?_
      intro a w h
      refine wp_seq ?_
      refine wp_reg_seq tok (orc := orcL []) (fz := []) (l := [1, 22]) (c := _) (.inr fun i h => h) h (by kernel_rfl) (AllP.nil) ?_
      intro a w h
      refine wp_if h (b := (decide ((r3 : Int) < (0 : Int)))) (by kernel_rfl) (fun hb => ?_) (fun hb => ?_)
      · replace hF := of_t hb hF
        refine wp_reg_seq tok (orc := orcL []) (fz := []) (l := [4]) (c := _) (.inr fun i h => h) h (by kernel_rfl) (AllP.nil) ?_
        intro a w h
        cases hF
        exact wp_ret (ret_okR tok h rfl (by kernel_rfl)).1
      · replace hF := of_f hb hF
        refine wp_skip ?_
        refine wp_reg_seq tok (orc := orcL []) (fz := []) (l := [4]) (c := _) (.inr fun i h => h) h (by kernel_rfl) (AllP.nil) ?_
        intro a w h
        cases hF
        exact wp_ret (ret_okR tok h rfl (by kernel_rfl)).1

def f220 (k : Nat) (x0 : (Int × Int)) : Option (Int × Int) := some (x0.1, x0.2)
set_option maxRecDepth 100000 in
/-- 'laws.toPoint'. -/
theorem c220 (k : Nat) (x0 : (Int × Int)) (r : (Int × Int)) (hF : f220 k x0 = some r) : PCall Try.prog 220 [⟨sh5, x0⟩] [⟨sh5, r⟩] := by
  refine pcall_intro Try.func220 rfl rfl (Nat.le_of_ble_eq_true rfl) ?_
  intro w0 Zi a w h
  rw [f220] at hF
  refine wp_reg_seq tok (orc := orcL []) (fz := []) (l := [1, 2]) (c := _) (.inr fun i h => h) h (by kernel_rfl) (AllP.nil) ?_
  intro a w h
  refine wp_reg_seq tok (orc := orcL []) (fz := []) (l := [1, 2, 3]) (c := _) (.inr fun i h => h) h (by kernel_rfl) (AllP.nil) ?_
  intro a w h
  refine wp_reg_seq tok (orc := orcL []) (fz := []) (l := [1, 2, 3]) (c := _) (.inr fun i h => h) h (by kernel_rfl) (AllP.nil) ?_
  intro a w h
  refine wp_reg_seq tok (orc := orcL []) (fz := []) (l := [2, 3]) (c := _) (.inr fun i h => h) h (by kernel_rfl) (AllP.nil) ?_
  intro a w h
  refine wp_reg_seq tok (orc := orcL []) (fz := []) (l := [2]) (c := _) (.inr fun i h => h) h (by kernel_rfl) (AllP.nil) ?_
  intro a w h
  cases hF
  exact wp_ret (ret_okR tok h rfl (by kernel_rfl)).1

def f165 (k : Nat) (x0 : (Int × (Int × Int))) : Option (Int × (Int × Int)) := (f220 k x0.2).bind fun r1 => (some (x0.1, r1))
set_option maxRecDepth 100000 in
/-- 'laws.toSpot'. -/
theorem c165 (k : Nat) (x0 : (Int × (Int × Int))) (r : (Int × (Int × Int))) (hF : f165 k x0 = some r) : PCall Try.prog 165 [⟨sh6, x0⟩] [⟨sh6, r⟩] := by
  refine pcall_intro Try.func165 rfl rfl (Nat.le_of_ble_eq_true rfl) ?_
  intro w0 Zi a w h
  rw [f165] at hF
  refine wp_reg_seq tok (orc := orcL []) (fz := []) (l := [1, 2]) (c := _) (.inr fun i h => h) h (by kernel_rfl) (AllP.nil) ?_
  intro a w h
  refine wp_reg_seq tok (orc := orcL []) (fz := []) (l := [1, 2, 3]) (c := _) (.inr fun i h => h) h (by kernel_rfl) (AllP.nil) ?_
  intro a w h
  refine wp_reg_seq tok (orc := orcL []) (fz := []) (l := [1, 2, 3]) (c := _) (.inr fun i h => h) h (by kernel_rfl) (AllP.nil) ?_
  intro a w h
  obtain ⟨r1, hr2, hF⟩ := of_bind hF
  refine wp_reg_seq tok (orc := orcL [(9, [⟨sh5, r1⟩])]) (fz := []) (l := [2, 3]) (c := _) (.inr fun i h => h) h (by kernel_rfl) (AllP.cons (c220 k x0.2 r1 hr2) AllP.nil) ?_
  intro a w h
  refine wp_reg_seq tok (orc := orcL []) (fz := []) (l := [2]) (c := _) (.inr fun i h => h) h (by kernel_rfl) (AllP.nil) ?_
  intro a w h
  cases hF
  exact wp_ret (ret_okR tok h rfl (by kernel_rfl)).1

def f76.l34 (k : Nat) (x0 : (List (Int × (Int × Int)))) : Nat → ((List (Int × (Int × Int))) × Int) → Option (List (Int × (Int × Int)))
  | 0, _ => none
  | m34 + 1, (v57, v58) => if (decide ((v58 : Int) < (List.length x0 : Int))) then (if (0 ≤ v58 ∧ v58 < (List.length x0 : Int)) then ((f165 k (List.getD x0 (Int.toNat v58) ((0 : Int), ((0 : Int), (0 : Int))))).bind fun r63 => (if (0 ≤ v58 ∧ v58 < (List.length v57 : Int)) then ((f76.l34 k x0) m34 ((List.set v57 (Int.toNat v58) r63), (IntKind.i64.wrap (v58 + (1 : Int))))) else none)) else none) else (some v57)
def f76 (k : Nat) (x0 : (List (Int × (Int × Int)))) : Option (List (Int × (Int × Int))) := if (0 ≤ (List.length x0 : Int) ∧ Int.toNat (List.length x0 : Int) * 24 ≤ 140737488355328) then (f76.l34 k x0 k ((List.replicate (Int.toNat (List.length x0 : Int)) ((0 : Int), ((0 : Int), (0 : Int)))), (0 : Int))) else none
set_option maxRecDepth 100000 in
/-- 'laws.toSpotS'. -/
theorem c76 (k : Nat) (x0 : (List (Int × (Int × Int)))) (r : (List (Int × (Int × Int)))) (hF : f76 k x0 = some r) : PCall Try.prog 76 [⟨sh0, x0⟩] [⟨sh7, r⟩] := by
  refine pcall_intro Try.func76 rfl rfl (Nat.le_of_ble_eq_true rfl) ?_
  intro w0 Zi a w h
  rw [f76] at hF
  refine wp_reg_seq tok (orc := orcL []) (fz := []) (l := [0]) (c := _) (.inr fun i h => h) h (by kernel_rfl) (AllP.nil) ?_
  intro a w h
  obtain ⟨hc67, hF⟩ := of_if hF
  refine wp_reg_seq tok (orc := orcL []) (fz := []) (l := [0, 3]) (c := _) (.inr fun i h => h) h (by kernel_rfl) (AllP.cons hc67 AllP.nil) ?_
  intro a w h
  refine wp_seq ?_
  refine wp_reg_seq tok (orc := orcL []) (fz := []) (l := [0, 3, 4]) (c := _) (.inr fun i h => h) h (by kernel_rfl) (AllP.nil) ?_
  intro a w h
  refine wp_block ?_
  refine wp_loop_fuel (f76.l34 k x0) (fun ((v57, v58) : ((List (Int × (Int × Int))) × Int)) => [(0, .val sh0 x0), (3, .val sh7 v57), (4, .val (.int .i64) v58)]) (fun v h => by obtain ⟨v57, v58⟩ := v; rw [f76.l34] at h; cases h) ?_ hF (h.arrive (fz := []) (l := [0, 3, 4]) (.inr fun i h => h) (by kernel_rfl))
  intro m34 v a w hF h
  obtain ⟨v57, v58⟩ := v
  rw [f76.l34] at hF
  refine wp_seq ?_
  refine wp_reg_seq tok (orc := orcL []) (fz := []) (l := [0, 3, 4, 11]) (c := _) (.inr fun i h => h) h (by kernel_rfl) (AllP.nil) ?_
  intro a w h
  refine wp_if h (b := (decide ((v58 : Int) < (List.length x0 : Int)))) (by kernel_rfl) (fun hb => ?_) (fun hb => ?_)
  · replace hF := of_t hb hF
    refine wp_skip ?_
    refine wp_seq <| wp_block ?_
    obtain ⟨hc64, hF⟩ := of_if hF
    obtain ⟨r63, hr65, hF⟩ := of_bind hF
    obtain ⟨hc66, hF⟩ := of_if hF
    refine wp_reg tok (orc := orcL [(20, [⟨sh6, r63⟩])]) (fz := []) (l := [0, 3, 4]) (c := _) (.inr fun i h => h) h (by kernel_rfl) (AllP.cons hc64 (AllP.cons (c165 k (List.getD x0 (Int.toNat v58) ((0 : Int), ((0 : Int), (0 : Int)))) r63 hr65) (AllP.cons hc66 AllP.nil))) ?_
    intro a w h
    refine wp_reg tok (orc := orcL []) (fz := []) (l := [0, 3, 4]) (c := _) (.inr fun i h => h) h (by kernel_rfl) (AllP.nil) ?_
    intro a w h
    exact ⟨((List.set v57 (Int.toNat v58) r63), (IntKind.i64.wrap (v58 + (1 : Int)))), hF, h.arrive (fz := []) (l := [0, 3, 4]) (.inr fun i h => h) (by kernel_rfl)⟩
  · replace hF := of_f hb hF
    refine wp_exit ?_
    refine wp_reg_seq tok (orc := orcL []) (fz := []) (l := [2, 3]) (c := _) (.inr fun i h => h) h (by kernel_rfl) (AllP.nil) ?_
    intro a w h
    cases hF
    exact wp_ret (ret_okR tok h rfl (by kernel_rfl)).1

def f166 (k : Nat) (x0 : (Int × (Int × (Int × (Int × (Int × ByteArray)))))) : Option (Int × (Int × (Int × (Int × (Int × ByteArray))))) := some (x0.1, (x0.2.1, (x0.2.2.1, (x0.2.2.2.1, (x0.2.2.2.2.1, x0.2.2.2.2.2)))))
set_option maxRecDepth 100000 in
/-- 'laws.toRoad'. -/
theorem c166 (k : Nat) (x0 : (Int × (Int × (Int × (Int × (Int × ByteArray)))))) (r : (Int × (Int × (Int × (Int × (Int × ByteArray)))))) (hF : f166 k x0 = some r) : PCall Try.prog 166 [⟨sh1, x0⟩] [⟨sh1, r⟩] := by
  refine pcall_intro Try.func166 rfl rfl (Nat.le_of_ble_eq_true rfl) ?_
  intro w0 Zi a w h
  rw [f166] at hF
  refine wp_reg_seq tok (orc := orcL []) (fz := []) (l := [1, 2]) (c := _) (.inr fun i h => h) h (by kernel_rfl) (AllP.nil) ?_
  intro a w h
  refine wp_reg_seq tok (orc := orcL []) (fz := []) (l := [1, 2, 3]) (c := _) (.inr fun i h => h) h (by kernel_rfl) (AllP.nil) ?_
  intro a w h
  refine wp_reg_seq tok (orc := orcL []) (fz := []) (l := [1, 2, 3]) (c := _) (.inr fun i h => h) h (by kernel_rfl) (AllP.nil) ?_
  intro a w h
  refine wp_reg_seq tok (orc := orcL []) (fz := []) (l := [1, 2, 3]) (c := _) (.inr fun i h => h) h (by kernel_rfl) (AllP.nil) ?_
  intro a w h
  refine wp_reg_seq tok (orc := orcL []) (fz := []) (l := [1, 2, 3]) (c := _) (.inr fun i h => h) h (by kernel_rfl) (AllP.nil) ?_
  intro a w h
  refine wp_reg_seq tok (orc := orcL []) (fz := []) (l := [1, 2, 3]) (c := _) (.inr fun i h => h) h (by kernel_rfl) (AllP.nil) ?_
  intro a w h
  refine wp_reg_seq tok (orc := orcL []) (fz := []) (l := [1, 2, 3]) (c := _) (.inr fun i h => h) h (by kernel_rfl) (AllP.nil) ?_
  intro a w h
  refine wp_reg_seq tok (orc := orcL []) (fz := []) (l := [2, 3]) (c := _) (.inr fun i h => h) h (by kernel_rfl) (AllP.nil) ?_
  intro a w h
  refine wp_reg_seq tok (orc := orcL []) (fz := []) (l := [2]) (c := _) (.inr fun i h => h) h (by kernel_rfl) (AllP.nil) ?_
  intro a w h
  cases hF
  exact wp_ret (ret_okR tok h rfl (by kernel_rfl)).1

def f77.l34 (k : Nat) (x0 : (List (Int × (Int × (Int × (Int × (Int × ByteArray))))))) : Nat → ((List (Int × (Int × (Int × (Int × (Int × ByteArray)))))) × Int) → Option (List (Int × (Int × (Int × (Int × (Int × ByteArray))))))
  | 0, _ => none
  | m34 + 1, (v57, v58) => if (decide ((v58 : Int) < (List.length x0 : Int))) then (if (0 ≤ v58 ∧ v58 < (List.length x0 : Int)) then ((f166 k (List.getD x0 (Int.toNat v58) ((0 : Int), ((0 : Int), ((0 : Int), ((0 : Int), ((0 : Int), (⟨#[]⟩ : ByteArray)))))))).bind fun r63 => (if (0 ≤ v58 ∧ v58 < (List.length v57 : Int)) then ((f77.l34 k x0) m34 ((List.set v57 (Int.toNat v58) r63), (IntKind.i64.wrap (v58 + (1 : Int))))) else none)) else none) else (some v57)
def f77 (k : Nat) (x0 : (List (Int × (Int × (Int × (Int × (Int × ByteArray))))))) : Option (List (Int × (Int × (Int × (Int × (Int × ByteArray)))))) := if (0 ≤ (List.length x0 : Int) ∧ Int.toNat (List.length x0 : Int) * 56 ≤ 140737488355328) then (f77.l34 k x0 k ((List.replicate (Int.toNat (List.length x0 : Int)) ((0 : Int), ((0 : Int), ((0 : Int), ((0 : Int), ((0 : Int), (⟨#[]⟩ : ByteArray))))))), (0 : Int))) else none
set_option maxRecDepth 100000 in
/-- 'laws.toRoadS'. -/
theorem c77 (k : Nat) (x0 : (List (Int × (Int × (Int × (Int × (Int × ByteArray))))))) (r : (List (Int × (Int × (Int × (Int × (Int × ByteArray))))))) (hF : f77 k x0 = some r) : PCall Try.prog 77 [⟨sh2, x0⟩] [⟨sh8, r⟩] := by
  refine pcall_intro Try.func77 rfl rfl (Nat.le_of_ble_eq_true rfl) ?_
  intro w0 Zi a w h
  rw [f77] at hF
  refine wp_reg_seq tok (orc := orcL []) (fz := []) (l := [0]) (c := _) (.inr fun i h => h) h (by kernel_rfl) (AllP.nil) ?_
  intro a w h
  obtain ⟨hc67, hF⟩ := of_if hF
  refine wp_reg_seq tok (orc := orcL []) (fz := []) (l := [0, 3]) (c := _) (.inr fun i h => h) h (by kernel_rfl) (AllP.cons hc67 AllP.nil) ?_
  intro a w h
  refine wp_seq ?_
  refine wp_reg_seq tok (orc := orcL []) (fz := []) (l := [0, 3, 4]) (c := _) (.inr fun i h => h) h (by kernel_rfl) (AllP.nil) ?_
  intro a w h
  refine wp_block ?_
  refine wp_loop_fuel (f77.l34 k x0) (fun ((v57, v58) : ((List (Int × (Int × (Int × (Int × (Int × ByteArray)))))) × Int)) => [(0, .val sh2 x0), (3, .val sh8 v57), (4, .val (.int .i64) v58)]) (fun v h => by obtain ⟨v57, v58⟩ := v; rw [f77.l34] at h; cases h) ?_ hF (h.arrive (fz := []) (l := [0, 3, 4]) (.inr fun i h => h) (by kernel_rfl))
  intro m34 v a w hF h
  obtain ⟨v57, v58⟩ := v
  rw [f77.l34] at hF
  refine wp_seq ?_
  refine wp_reg_seq tok (orc := orcL []) (fz := []) (l := [0, 3, 4, 11]) (c := _) (.inr fun i h => h) h (by kernel_rfl) (AllP.nil) ?_
  intro a w h
  refine wp_if h (b := (decide ((v58 : Int) < (List.length x0 : Int)))) (by kernel_rfl) (fun hb => ?_) (fun hb => ?_)
  · replace hF := of_t hb hF
    refine wp_skip ?_
    refine wp_seq <| wp_block ?_
    obtain ⟨hc64, hF⟩ := of_if hF
    obtain ⟨r63, hr65, hF⟩ := of_bind hF
    obtain ⟨hc66, hF⟩ := of_if hF
    refine wp_reg tok (orc := orcL [(20, [⟨sh1, r63⟩])]) (fz := []) (l := [0, 3, 4]) (c := _) (.inr fun i h => h) h (by kernel_rfl) (AllP.cons hc64 (AllP.cons (c166 k (List.getD x0 (Int.toNat v58) ((0 : Int), ((0 : Int), ((0 : Int), ((0 : Int), ((0 : Int), (⟨#[]⟩ : ByteArray))))))) r63 hr65) (AllP.cons hc66 AllP.nil))) ?_
    intro a w h
    refine wp_reg tok (orc := orcL []) (fz := []) (l := [0, 3, 4]) (c := _) (.inr fun i h => h) h (by kernel_rfl) (AllP.nil) ?_
    intro a w h
    exact ⟨((List.set v57 (Int.toNat v58) r63), (IntKind.i64.wrap (v58 + (1 : Int)))), hF, h.arrive (fz := []) (l := [0, 3, 4]) (.inr fun i h => h) (by kernel_rfl)⟩
  · replace hF := of_f hb hF
    refine wp_exit ?_
    refine wp_reg_seq tok (orc := orcL []) (fz := []) (l := [2, 3]) (c := _) (.inr fun i h => h) h (by kernel_rfl) (AllP.nil) ?_
    intro a w h
    cases hF
    exact wp_ret (ret_okR tok h rfl (by kernel_rfl)).1

def f167 (k : Nat) (x0 : (Int × Int)) : Option (Int × Int) := some (x0.1, x0.2)
set_option maxRecDepth 100000 in
/-- 'laws.toBan'. -/
theorem c167 (k : Nat) (x0 : (Int × Int)) (r : (Int × Int)) (hF : f167 k x0 = some r) : PCall Try.prog 167 [⟨sh5, x0⟩] [⟨sh5, r⟩] := by
  refine pcall_intro Try.func167 rfl rfl (Nat.le_of_ble_eq_true rfl) ?_
  intro w0 Zi a w h
  rw [f167] at hF
  refine wp_reg_seq tok (orc := orcL []) (fz := []) (l := [1, 2]) (c := _) (.inr fun i h => h) h (by kernel_rfl) (AllP.nil) ?_
  intro a w h
  refine wp_reg_seq tok (orc := orcL []) (fz := []) (l := [1, 2, 3]) (c := _) (.inr fun i h => h) h (by kernel_rfl) (AllP.nil) ?_
  intro a w h
  refine wp_reg_seq tok (orc := orcL []) (fz := []) (l := [1, 2, 3]) (c := _) (.inr fun i h => h) h (by kernel_rfl) (AllP.nil) ?_
  intro a w h
  refine wp_reg_seq tok (orc := orcL []) (fz := []) (l := [2, 3]) (c := _) (.inr fun i h => h) h (by kernel_rfl) (AllP.nil) ?_
  intro a w h
  refine wp_reg_seq tok (orc := orcL []) (fz := []) (l := [2]) (c := _) (.inr fun i h => h) h (by kernel_rfl) (AllP.nil) ?_
  intro a w h
  cases hF
  exact wp_ret (ret_okR tok h rfl (by kernel_rfl)).1

def f78.l34 (k : Nat) (x0 : (List (Int × Int))) : Nat → ((List (Int × Int)) × Int) → Option (List (Int × Int))
  | 0, _ => none
  | m34 + 1, (v57, v58) => if (decide ((v58 : Int) < (List.length x0 : Int))) then (if (0 ≤ v58 ∧ v58 < (List.length x0 : Int)) then ((f167 k (List.getD x0 (Int.toNat v58) ((0 : Int), (0 : Int)))).bind fun r63 => (if (0 ≤ v58 ∧ v58 < (List.length v57 : Int)) then ((f78.l34 k x0) m34 ((List.set v57 (Int.toNat v58) r63), (IntKind.i64.wrap (v58 + (1 : Int))))) else none)) else none) else (some v57)
def f78 (k : Nat) (x0 : (List (Int × Int))) : Option (List (Int × Int)) := if (0 ≤ (List.length x0 : Int) ∧ Int.toNat (List.length x0 : Int) * 16 ≤ 140737488355328) then (f78.l34 k x0 k ((List.replicate (Int.toNat (List.length x0 : Int)) ((0 : Int), (0 : Int))), (0 : Int))) else none
set_option maxRecDepth 100000 in
/-- 'laws.toBanS'. -/
theorem c78 (k : Nat) (x0 : (List (Int × Int))) (r : (List (Int × Int))) (hF : f78 k x0 = some r) : PCall Try.prog 78 [⟨sh3, x0⟩] [⟨sh9, r⟩] := by
  refine pcall_intro Try.func78 rfl rfl (Nat.le_of_ble_eq_true rfl) ?_
  intro w0 Zi a w h
  rw [f78] at hF
  refine wp_reg_seq tok (orc := orcL []) (fz := []) (l := [0]) (c := _) (.inr fun i h => h) h (by kernel_rfl) (AllP.nil) ?_
  intro a w h
  obtain ⟨hc67, hF⟩ := of_if hF
  refine wp_reg_seq tok (orc := orcL []) (fz := []) (l := [0, 3]) (c := _) (.inr fun i h => h) h (by kernel_rfl) (AllP.cons hc67 AllP.nil) ?_
  intro a w h
  refine wp_seq ?_
  refine wp_reg_seq tok (orc := orcL []) (fz := []) (l := [0, 3, 4]) (c := _) (.inr fun i h => h) h (by kernel_rfl) (AllP.nil) ?_
  intro a w h
  refine wp_block ?_
  refine wp_loop_fuel (f78.l34 k x0) (fun ((v57, v58) : ((List (Int × Int)) × Int)) => [(0, .val sh3 x0), (3, .val sh9 v57), (4, .val (.int .i64) v58)]) (fun v h => by obtain ⟨v57, v58⟩ := v; rw [f78.l34] at h; cases h) ?_ hF (h.arrive (fz := []) (l := [0, 3, 4]) (.inr fun i h => h) (by kernel_rfl))
  intro m34 v a w hF h
  obtain ⟨v57, v58⟩ := v
  rw [f78.l34] at hF
  refine wp_seq ?_
  refine wp_reg_seq tok (orc := orcL []) (fz := []) (l := [0, 3, 4, 11]) (c := _) (.inr fun i h => h) h (by kernel_rfl) (AllP.nil) ?_
  intro a w h
  refine wp_if h (b := (decide ((v58 : Int) < (List.length x0 : Int)))) (by kernel_rfl) (fun hb => ?_) (fun hb => ?_)
  · replace hF := of_t hb hF
    refine wp_skip ?_
    refine wp_seq <| wp_block ?_
    obtain ⟨hc64, hF⟩ := of_if hF
    obtain ⟨r63, hr65, hF⟩ := of_bind hF
    obtain ⟨hc66, hF⟩ := of_if hF
    refine wp_reg tok (orc := orcL [(20, [⟨sh5, r63⟩])]) (fz := []) (l := [0, 3, 4]) (c := _) (.inr fun i h => h) h (by kernel_rfl) (AllP.cons hc64 (AllP.cons (c167 k (List.getD x0 (Int.toNat v58) ((0 : Int), (0 : Int))) r63 hr65) (AllP.cons hc66 AllP.nil))) ?_
    intro a w h
    refine wp_reg tok (orc := orcL []) (fz := []) (l := [0, 3, 4]) (c := _) (.inr fun i h => h) h (by kernel_rfl) (AllP.nil) ?_
    intro a w h
    exact ⟨((List.set v57 (Int.toNat v58) r63), (IntKind.i64.wrap (v58 + (1 : Int)))), hF, h.arrive (fz := []) (l := [0, 3, 4]) (.inr fun i h => h) (by kernel_rfl)⟩
  · replace hF := of_f hb hF
    refine wp_exit ?_
    refine wp_reg_seq tok (orc := orcL []) (fz := []) (l := [2, 3]) (c := _) (.inr fun i h => h) h (by kernel_rfl) (AllP.nil) ?_
    intro a w h
    cases hF
    exact wp_ret (ret_okR tok h rfl (by kernel_rfl)).1

def f16 (k : Nat) (x0 : ((List (Int × (Int × Int))) × ((List (Int × (Int × (Int × (Int × (Int × ByteArray)))))) × (List (Int × Int))))) : Option ((List (Int × (Int × Int))) × ((List (Int × (Int × (Int × (Int × (Int × ByteArray)))))) × (List (Int × Int)))) := (f76 k x0.1).bind fun r1 => ((f77 k x0.2.1).bind fun r2 => ((f78 k x0.2.2).bind fun r3 => (some (r1, (r2, r3)))))
set_option maxRecDepth 100000 in
/-- 'laws.toGraph'. -/
theorem c16 (k : Nat) (x0 : ((List (Int × (Int × Int))) × ((List (Int × (Int × (Int × (Int × (Int × ByteArray)))))) × (List (Int × Int))))) (r : ((List (Int × (Int × Int))) × ((List (Int × (Int × (Int × (Int × (Int × ByteArray)))))) × (List (Int × Int))))) (hF : f16 k x0 = some r) : PCall Try.prog 16 [⟨sh4, x0⟩] [⟨sh10, r⟩] := by
  refine pcall_intro Try.func16 rfl rfl (Nat.le_of_ble_eq_true rfl) ?_
  intro w0 Zi a w h
  rw [f16] at hF
  refine wp_reg_seq tok (orc := orcL []) (fz := []) (l := [1, 2]) (c := _) (.inr fun i h => h) h (by kernel_rfl) (AllP.nil) ?_
  intro a w h
  refine wp_reg_seq tok (orc := orcL []) (fz := []) (l := [1, 2, 3]) (c := _) (.inr fun i h => h) h (by kernel_rfl) (AllP.nil) ?_
  intro a w h
  obtain ⟨r1, hr6, hF⟩ := of_bind hF
  refine wp_reg_seq tok (orc := orcL [(6, [⟨sh7, r1⟩])]) (fz := []) (l := [1, 2, 3]) (c := _) (.inr fun i h => h) h (by kernel_rfl) (AllP.cons (c76 k x0.1 r1 hr6) AllP.nil) ?_
  intro a w h
  obtain ⟨r2, hr5, hF⟩ := of_bind hF
  refine wp_reg_seq tok (orc := orcL [(10, [⟨sh8, r2⟩])]) (fz := []) (l := [1, 2, 3]) (c := _) (.inr fun i h => h) h (by kernel_rfl) (AllP.cons (c77 k x0.2.1 r2 hr5) AllP.nil) ?_
  intro a w h
  obtain ⟨r3, hr4, hF⟩ := of_bind hF
  refine wp_reg_seq tok (orc := orcL [(14, [⟨sh9, r3⟩])]) (fz := []) (l := [2, 3]) (c := _) (.inr fun i h => h) h (by kernel_rfl) (AllP.cons (c78 k x0.2.2 r3 hr4) AllP.nil) ?_
  intro a w h
  refine wp_reg_seq tok (orc := orcL []) (fz := []) (l := [2]) (c := _) (.inr fun i h => h) h (by kernel_rfl) (AllP.nil) ?_
  intro a w h
  cases hF
  exact wp_ret (ret_okR tok h rfl (by kernel_rfl)).1

def f17.l22 (k : Nat) (x0 : (List Int)) : Nat → ((List Int) × Int) → Option (List Int)
  | 0, _ => none
  | m22 + 1, (v37, v38) => if (decide ((v38 : Int) < (List.length x0 : Int))) then (if (0 ≤ v38 ∧ v38 < (List.length x0 : Int)) then (if (0 ≤ v38 ∧ v38 < (List.length v37 : Int)) then ((f17.l22 k x0) m22 ((List.set v37 (Int.toNat v38) (List.getD x0 (Int.toNat v38) (0 : Int))), (IntKind.i64.wrap (v38 + (1 : Int))))) else none) else none) else (some v37)
def f17 (k : Nat) (x0 : (List Int)) : Option (List Int) := if (0 ≤ (List.length x0 : Int) ∧ Int.toNat (List.length x0 : Int) * 8 ≤ 140737488355328) then (f17.l22 k x0 k ((List.replicate (Int.toNat (List.length x0 : Int)) (0 : Int)), (0 : Int))) else none
set_option maxRecDepth 100000 in
/-- 'laws.toInt64S'. -/
theorem c17 (k : Nat) (x0 : (List Int)) (r : (List Int)) (hF : f17 k x0 = some r) : PCall Try.prog 17 [⟨(.sl false 2 (.int .i64)), x0⟩] [⟨(.sl true 2 (.int .i64)), r⟩] := by
  refine pcall_intro Try.func17 rfl rfl (Nat.le_of_ble_eq_true rfl) ?_
  intro w0 Zi a w h
  rw [f17] at hF
  refine wp_reg_seq tok (orc := orcL []) (fz := []) (l := [0]) (c := _) (.inr fun i h => h) h (by kernel_rfl) (AllP.nil) ?_
  intro a w h
  obtain ⟨hc43, hF⟩ := of_if hF
  refine wp_reg_seq tok (orc := orcL []) (fz := []) (l := [0, 3]) (c := _) (.inr fun i h => h) h (by kernel_rfl) (AllP.cons hc43 AllP.nil) ?_
  intro a w h
  refine wp_seq ?_
  refine wp_reg_seq tok (orc := orcL []) (fz := []) (l := [0, 3, 4]) (c := _) (.inr fun i h => h) h (by kernel_rfl) (AllP.nil) ?_
  intro a w h
  refine wp_block ?_
  refine wp_loop_fuel (f17.l22 k x0) (fun ((v37, v38) : ((List Int) × Int)) => [(0, .val (.sl false 2 (.int .i64)) x0), (3, .val (.sl true 2 (.int .i64)) v37), (4, .val (.int .i64) v38)]) (fun v h => by obtain ⟨v37, v38⟩ := v; rw [f17.l22] at h; cases h) ?_ hF (h.arrive (fz := []) (l := [0, 3, 4]) (.inr fun i h => h) (by kernel_rfl))
  intro m22 v a w hF h
  obtain ⟨v37, v38⟩ := v
  rw [f17.l22] at hF
  refine wp_seq ?_
  refine wp_reg_seq tok (orc := orcL []) (fz := []) (l := [0, 3, 4, 11]) (c := _) (.inr fun i h => h) h (by kernel_rfl) (AllP.nil) ?_
  intro a w h
  refine wp_if h (b := (decide ((v38 : Int) < (List.length x0 : Int)))) (by kernel_rfl) (fun hb => ?_) (fun hb => ?_)
  · replace hF := of_t hb hF
    refine wp_skip ?_
    refine wp_seq <| wp_block ?_
    obtain ⟨hc41, hF⟩ := of_if hF
    obtain ⟨hc42, hF⟩ := of_if hF
    refine wp_reg tok (orc := orcL []) (fz := []) (l := [0, 3, 4]) (c := _) (.inr fun i h => h) h (by kernel_rfl) (AllP.cons hc41 (AllP.cons hc42 AllP.nil)) ?_
    intro a w h
    refine wp_reg tok (orc := orcL []) (fz := []) (l := [0, 3, 4]) (c := _) (.inr fun i h => h) h (by kernel_rfl) (AllP.nil) ?_
    intro a w h
    exact ⟨((List.set v37 (Int.toNat v38) (List.getD x0 (Int.toNat v38) (0 : Int))), (IntKind.i64.wrap (v38 + (1 : Int)))), hF, h.arrive (fz := []) (l := [0, 3, 4]) (.inr fun i h => h) (by kernel_rfl)⟩
  · replace hF := of_f hb hF
    refine wp_exit ?_
    refine wp_reg_seq tok (orc := orcL []) (fz := []) (l := [2, 3]) (c := _) (.inr fun i h => h) h (by kernel_rfl) (AllP.nil) ?_
    intro a w h
    cases hF
    exact wp_ret (ret_okR tok h rfl (by kernel_rfl)).1

def f158 (k : Nat) (x0 : Int) : Option Bool := some (bif (decide ((x0 : Int) ≥ (1 : Int))) then (decide ((x0 : Int) ≤ (1000000000 : Int))) else false)
set_option maxRecDepth 100000 in
/-- 'spec.l2IdOk'. -/
theorem c158 (k : Nat) (x0 : Int) (r : Bool) (hF : f158 k x0 = some r) : PCall Try.prog 158 [⟨(.int .i64), x0⟩] [⟨.bool, r⟩] := by
  refine pcall_intro Try.func158 rfl rfl (Nat.le_of_ble_eq_true rfl) ?_
  intro w0 Zi a w h
  rw [f158] at hF
  refine wp_reg_seq tok (orc := orcL []) (fz := []) (l := [0]) (c := _) (.inr fun i h => h) h (by kernel_rfl) (AllP.nil) ?_
  intro a w h
  refine wp_reg_seq tok (orc := orcL []) (fz := []) (l := [2]) (c := _) (.inr fun i h => h) h (by kernel_rfl) (AllP.nil) ?_
  intro a w h
  cases hF
  exact wp_ret (ret_okR tok h rfl (by kernel_rfl)).1

def f159 (k : Nat) (x0 : (Int × Int)) : Option Bool := some (bif (bif (bif (decide ((x0.1 : Int) ≥ (-10000000 : Int))) then (decide ((x0.1 : Int) ≤ (10000000 : Int))) else false) then (decide ((x0.2 : Int) ≥ (-10000000 : Int))) else false) then (decide ((x0.2 : Int) ≤ (10000000 : Int))) else false)
set_option maxRecDepth 100000 in
/-- 'spec.PointOk'. -/
theorem c159 (k : Nat) (x0 : (Int × Int)) (r : Bool) (hF : f159 k x0 = some r) : PCall Try.prog 159 [⟨sh5, x0⟩] [⟨.bool, r⟩] := by
  refine pcall_intro Try.func159 rfl rfl (Nat.le_of_ble_eq_true rfl) ?_
  intro w0 Zi a w h
  rw [f159] at hF
  refine wp_reg_seq tok (orc := orcL []) (fz := []) (l := [1]) (c := _) (.inr fun i h => h) h (by kernel_rfl) (AllP.nil) ?_
  intro a w h
  refine wp_reg_seq tok (orc := orcL []) (fz := []) (l := [2]) (c := _) (.inr fun i h => h) h (by kernel_rfl) (AllP.nil) ?_
  intro a w h
  cases hF
  exact wp_ret (ret_okR tok h rfl (by kernel_rfl)).1

def f160 (k : Nat) (x0 : (Int × Int)) (x1 : (Int × Int)) : Option Bool := some (bif (decide ((x0.1 : Int) < x1.1)) then true else (bif ((x0.1 : Int) == x1.1) then (decide ((x0.2 : Int) < x1.2)) else false))
set_option maxRecDepth 100000 in
/-- 'spec.l9BanLess'. -/
theorem c160 (k : Nat) (x0 : (Int × Int)) (x1 : (Int × Int)) (r : Bool) (hF : f160 k x0 x1 = some r) : PCall Try.prog 160 [⟨sh5, x0⟩, ⟨sh5, x1⟩] [⟨.bool, r⟩] := by
  refine pcall_intro Try.func160 rfl rfl (Nat.le_of_ble_eq_true rfl) ?_
  intro w0 Zi a w h
  rw [f160] at hF
  refine wp_reg_seq tok (orc := orcL []) (fz := []) (l := [2, 3]) (c := _) (.inr fun i h => h) h (by kernel_rfl) (AllP.nil) ?_
  intro a w h
  refine wp_reg_seq tok (orc := orcL []) (fz := []) (l := [4]) (c := _) (.inr fun i h => h) h (by kernel_rfl) (AllP.nil) ?_
  intro a w h
  cases hF
  exact wp_ret (ret_okR tok h rfl (by kernel_rfl)).1

def f70.l206 (k : Nat) (x0 : ((List (Int × (Int × Int))) × ((List (Int × (Int × (Int × (Int × (Int × ByteArray)))))) × (List (Int × Int))))) : Nat → Int → Option Bool
  | 0, _ => none
  | m206 + 1, v242 => if (decide ((v242 : Int) < (List.length x0.2.2 : Int))) then (if (0 ≤ v242 ∧ v242 < (List.length x0.2.2 : Int)) then (if (((bif (bif (bif (decide (((List.getD x0.2.2 (Int.toNat v242) ((0 : Int), (0 : Int))).1 : Int) < (0 : Int))) then true else (decide (((List.getD x0.2.2 (Int.toNat v242) ((0 : Int), (0 : Int))).1 : Int) ≥ (List.length x0.2.1 : Int)))) then true else (decide (((List.getD x0.2.2 (Int.toNat v242) ((0 : Int), (0 : Int))).2 : Int) < (0 : Int)))) then true else (decide (((List.getD x0.2.2 (Int.toNat v242) ((0 : Int), (0 : Int))).2 : Int) ≥ (List.length x0.2.1 : Int)))) = false) → (0 ≤ (List.getD x0.2.2 (Int.toNat v242) ((0 : Int), (0 : Int))).1 ∧ (List.getD x0.2.2 (Int.toNat v242) ((0 : Int), (0 : Int))).1 < (List.length x0.2.1 : Int))) then (if (((bif (bif (bif (decide (((List.getD x0.2.2 (Int.toNat v242) ((0 : Int), (0 : Int))).1 : Int) < (0 : Int))) then true else (decide (((List.getD x0.2.2 (Int.toNat v242) ((0 : Int), (0 : Int))).1 : Int) ≥ (List.length x0.2.1 : Int)))) then true else (decide (((List.getD x0.2.2 (Int.toNat v242) ((0 : Int), (0 : Int))).2 : Int) < (0 : Int)))) then true else (decide (((List.getD x0.2.2 (Int.toNat v242) ((0 : Int), (0 : Int))).2 : Int) ≥ (List.length x0.2.1 : Int)))) = false) → (0 ≤ (List.getD x0.2.2 (Int.toNat v242) ((0 : Int), (0 : Int))).2 ∧ (List.getD x0.2.2 (Int.toNat v242) ((0 : Int), (0 : Int))).2 < (List.length x0.2.1 : Int))) then (if ((((bif (bif (bif (bif (decide (((List.getD x0.2.2 (Int.toNat v242) ((0 : Int), (0 : Int))).1 : Int) < (0 : Int))) then true else (decide (((List.getD x0.2.2 (Int.toNat v242) ((0 : Int), (0 : Int))).1 : Int) ≥ (List.length x0.2.1 : Int)))) then true else (decide (((List.getD x0.2.2 (Int.toNat v242) ((0 : Int), (0 : Int))).2 : Int) < (0 : Int)))) then true else (decide (((List.getD x0.2.2 (Int.toNat v242) ((0 : Int), (0 : Int))).2 : Int) ≥ (List.length x0.2.1 : Int)))) then true else (((List.getD x0.2.1 (Int.toNat (List.getD x0.2.2 (Int.toNat v242) ((0 : Int), (0 : Int))).1) ((0 : Int), ((0 : Int), ((0 : Int), ((0 : Int), ((0 : Int), (⟨#[]⟩ : ByteArray))))))).2.1 : Int) != (List.getD x0.2.1 (Int.toNat (List.getD x0.2.2 (Int.toNat v242) ((0 : Int), (0 : Int))).2) ((0 : Int), ((0 : Int), ((0 : Int), ((0 : Int), ((0 : Int), (⟨#[]⟩ : ByteArray))))))).1)) = false) ∧ ((decide ((v242 : Int) > (0 : Int))) = true)) → (0 ≤ (IntKind.i64.wrap (v242 - (1 : Int))) ∧ (IntKind.i64.wrap (v242 - (1 : Int))) < (List.length x0.2.2 : Int))) then ((if (((bif (bif (bif (bif (decide (((List.getD x0.2.2 (Int.toNat v242) ((0 : Int), (0 : Int))).1 : Int) < (0 : Int))) then true else (decide (((List.getD x0.2.2 (Int.toNat v242) ((0 : Int), (0 : Int))).1 : Int) ≥ (List.length x0.2.1 : Int)))) then true else (decide (((List.getD x0.2.2 (Int.toNat v242) ((0 : Int), (0 : Int))).2 : Int) < (0 : Int)))) then true else (decide (((List.getD x0.2.2 (Int.toNat v242) ((0 : Int), (0 : Int))).2 : Int) ≥ (List.length x0.2.1 : Int)))) then true else (((List.getD x0.2.1 (Int.toNat (List.getD x0.2.2 (Int.toNat v242) ((0 : Int), (0 : Int))).1) ((0 : Int), ((0 : Int), ((0 : Int), ((0 : Int), ((0 : Int), (⟨#[]⟩ : ByteArray))))))).2.1 : Int) != (List.getD x0.2.1 (Int.toNat (List.getD x0.2.2 (Int.toNat v242) ((0 : Int), (0 : Int))).2) ((0 : Int), ((0 : Int), ((0 : Int), ((0 : Int), ((0 : Int), (⟨#[]⟩ : ByteArray))))))).1)) = false) ∧ ((decide ((v242 : Int) > (0 : Int))) = true)) then f160 k (List.getD x0.2.2 (Int.toNat (IntKind.i64.wrap (v242 - (1 : Int)))) ((0 : Int), (0 : Int))) (List.getD x0.2.2 (Int.toNat v242) ((0 : Int), (0 : Int))) else some default).bind fun r251 => ((some ((bif (bif (bif (bif (bif (decide (((List.getD x0.2.2 (Int.toNat v242) ((0 : Int), (0 : Int))).1 : Int) < (0 : Int))) then true else (decide (((List.getD x0.2.2 (Int.toNat v242) ((0 : Int), (0 : Int))).1 : Int) ≥ (List.length x0.2.1 : Int)))) then true else (decide (((List.getD x0.2.2 (Int.toNat v242) ((0 : Int), (0 : Int))).2 : Int) < (0 : Int)))) then true else (decide (((List.getD x0.2.2 (Int.toNat v242) ((0 : Int), (0 : Int))).2 : Int) ≥ (List.length x0.2.1 : Int)))) then true else (((List.getD x0.2.1 (Int.toNat (List.getD x0.2.2 (Int.toNat v242) ((0 : Int), (0 : Int))).1) ((0 : Int), ((0 : Int), ((0 : Int), ((0 : Int), ((0 : Int), (⟨#[]⟩ : ByteArray))))))).2.1 : Int) != (List.getD x0.2.1 (Int.toNat (List.getD x0.2.2 (Int.toNat v242) ((0 : Int), (0 : Int))).2) ((0 : Int), ((0 : Int), ((0 : Int), ((0 : Int), ((0 : Int), (⟨#[]⟩ : ByteArray))))))).1)) then true else (bif (decide ((v242 : Int) > (0 : Int))) then (!r251) else false)) : Bool)).bind fun v252 => (if v252 then (some false) else ((f70.l206 k x0) m206 (IntKind.i64.wrap (v242 + (1 : Int))))))) else none) else none) else none) else none) else (some true)
def f70.l118 (k : Nat) (x0 : ((List (Int × (Int × Int))) × ((List (Int × (Int × (Int × (Int × (Int × ByteArray)))))) × (List (Int × Int))))) : Nat → Int → Option Bool
  | 0, _ => none
  | m118 + 1, v142 => if (decide ((v142 : Int) < (List.length x0.2.1 : Int))) then (if (0 ≤ v142 ∧ v142 < (List.length x0.2.1 : Int)) then ((if ((bif (bif (bif (decide (((List.getD x0.2.1 (Int.toNat v142) ((0 : Int), ((0 : Int), ((0 : Int), ((0 : Int), ((0 : Int), (⟨#[]⟩ : ByteArray))))))).1 : Int) < (0 : Int))) then true else (decide (((List.getD x0.2.1 (Int.toNat v142) ((0 : Int), ((0 : Int), ((0 : Int), ((0 : Int), ((0 : Int), (⟨#[]⟩ : ByteArray))))))).1 : Int) ≥ (List.length x0.1 : Int)))) then true else (decide (((List.getD x0.2.1 (Int.toNat v142) ((0 : Int), ((0 : Int), ((0 : Int), ((0 : Int), ((0 : Int), (⟨#[]⟩ : ByteArray))))))).2.1 : Int) < (0 : Int)))) then true else (decide (((List.getD x0.2.1 (Int.toNat v142) ((0 : Int), ((0 : Int), ((0 : Int), ((0 : Int), ((0 : Int), (⟨#[]⟩ : ByteArray))))))).2.1 : Int) ≥ (List.length x0.1 : Int)))) = false) then f158 k (List.getD x0.2.1 (Int.toNat v142) ((0 : Int), ((0 : Int), ((0 : Int), ((0 : Int), ((0 : Int), (⟨#[]⟩ : ByteArray))))))).2.2.1 else some default).bind fun r148 => ((some ((bif (bif (bif (bif (bif (bif (bif (bif (decide (((List.getD x0.2.1 (Int.toNat v142) ((0 : Int), ((0 : Int), ((0 : Int), ((0 : Int), ((0 : Int), (⟨#[]⟩ : ByteArray))))))).1 : Int) < (0 : Int))) then true else (decide (((List.getD x0.2.1 (Int.toNat v142) ((0 : Int), ((0 : Int), ((0 : Int), ((0 : Int), ((0 : Int), (⟨#[]⟩ : ByteArray))))))).1 : Int) ≥ (List.length x0.1 : Int)))) then true else (decide (((List.getD x0.2.1 (Int.toNat v142) ((0 : Int), ((0 : Int), ((0 : Int), ((0 : Int), ((0 : Int), (⟨#[]⟩ : ByteArray))))))).2.1 : Int) < (0 : Int)))) then true else (decide (((List.getD x0.2.1 (Int.toNat v142) ((0 : Int), ((0 : Int), ((0 : Int), ((0 : Int), ((0 : Int), (⟨#[]⟩ : ByteArray))))))).2.1 : Int) ≥ (List.length x0.1 : Int)))) then true else (!r148)) then true else (decide (((List.getD x0.2.1 (Int.toNat v142) ((0 : Int), ((0 : Int), ((0 : Int), ((0 : Int), ((0 : Int), (⟨#[]⟩ : ByteArray))))))).2.2.2.1 : Int) < (1 : Int)))) then true else (decide (((List.getD x0.2.1 (Int.toNat v142) ((0 : Int), ((0 : Int), ((0 : Int), ((0 : Int), ((0 : Int), (⟨#[]⟩ : ByteArray))))))).2.2.2.1 : Int) > (1000000 : Int)))) then true else (decide (((List.getD x0.2.1 (Int.toNat v142) ((0 : Int), ((0 : Int), ((0 : Int), ((0 : Int), ((0 : Int), (⟨#[]⟩ : ByteArray))))))).2.2.2.2.1 : Int) < (0 : Int)))) then true else (decide (((List.getD x0.2.1 (Int.toNat v142) ((0 : Int), ((0 : Int), ((0 : Int), ((0 : Int), ((0 : Int), (⟨#[]⟩ : ByteArray))))))).2.2.2.2.1 : Int) > (1000000000 : Int)))) : Bool)).bind fun v149 => (if v149 then (some false) else ((f70.l118 k x0) m118 (IntKind.i64.wrap (v142 + (1 : Int))))))) else none) else (f70.l206 k x0 k (0 : Int))
def f70.l42 (k : Nat) (x0 : ((List (Int × (Int × Int))) × ((List (Int × (Int × (Int × (Int × (Int × ByteArray)))))) × (List (Int × Int))))) : Nat → Int → Option Bool
  | 0, _ => none
  | m42 + 1, v70 => if (decide ((v70 : Int) < (List.length x0.1 : Int))) then (if (0 ≤ v70 ∧ v70 < (List.length x0.1 : Int)) then ((f158 k (List.getD x0.1 (Int.toNat v70) ((0 : Int), ((0 : Int), (0 : Int)))).1).bind fun r77 => ((if ((!r77) = false) then f159 k (List.getD x0.1 (Int.toNat v70) ((0 : Int), ((0 : Int), (0 : Int)))).2 else some default).bind fun r78 => (if ((((bif (!r77) then true else (!r78)) = false) ∧ ((decide ((v70 : Int) > (0 : Int))) = true)) → (0 ≤ (IntKind.i64.wrap (v70 - (1 : Int))) ∧ (IntKind.i64.wrap (v70 - (1 : Int))) < (List.length x0.1 : Int))) then (if (bif (bif (!r77) then true else (!r78)) then true else (bif (decide ((v70 : Int) > (0 : Int))) then (decide (((List.getD x0.1 (Int.toNat (IntKind.i64.wrap (v70 - (1 : Int)))) ((0 : Int), ((0 : Int), (0 : Int)))).1 : Int) ≥ (List.getD x0.1 (Int.toNat v70) ((0 : Int), ((0 : Int), (0 : Int)))).1)) else false)) then (some false) else ((f70.l42 k x0) m42 (IntKind.i64.wrap (v70 + (1 : Int))))) else none))) else none) else (f70.l118 k x0 k (0 : Int))
def f70 (k : Nat) (x0 : ((List (Int × (Int × Int))) × ((List (Int × (Int × (Int × (Int × (Int × ByteArray)))))) × (List (Int × Int))))) : Option Bool := if (bif (bif (decide (((List.length x0.1 : Int) : Int) > (5000 : Int))) then true else (decide (((List.length x0.2.1 : Int) : Int) > (8000 : Int)))) then true else (decide (((List.length x0.2.2 : Int) : Int) > (2000 : Int)))) then (some false) else (f70.l42 k x0 k (0 : Int))
set_option maxRecDepth 100000 in
/-- 'spec.GraphOk'. -/
theorem c70 (k : Nat) (x0 : ((List (Int × (Int × Int))) × ((List (Int × (Int × (Int × (Int × (Int × ByteArray)))))) × (List (Int × Int))))) (r : Bool) (hF : f70 k x0 = some r) : PCall Try.prog 70 [⟨sh12, x0⟩] [⟨.bool, r⟩] := by
  refine pcall_intro Try.func70 rfl rfl (Nat.le_of_ble_eq_true rfl) ?_
  intro w0 Zi a w h
  rw [f70] at hF
  refine wp_reg_seq tok (orc := orcL []) (fz := []) (l := [1]) (c := _) (.inr fun i h => h) h (by kernel_rfl) (AllP.nil) ?_
  intro a w h
  refine wp_seq ?_
  refine wp_reg_seq tok (orc := orcL []) (fz := []) (l := [1, 26]) (c := _) (.inr fun i h => h) h (by kernel_rfl) (AllP.nil) ?_
  intro a w h
  refine wp_if h (b := (bif (bif (decide (((List.length x0.1 : Int) : Int) > (5000 : Int))) then true else (decide (((List.length x0.2.1 : Int) : Int) > (8000 : Int)))) then true else (decide (((List.length x0.2.2 : Int) : Int) > (2000 : Int))))) (by kernel_rfl) (fun hb => ?_) (fun hb => ?_)
  · replace hF := of_t hb hF
    refine wp_reg_seq tok (orc := orcL []) (fz := []) (l := [2]) (c := _) (.inr fun i h => h) h (by kernel_rfl) (AllP.nil) ?_
    intro a w h
    cases hF
    exact wp_ret (ret_okR tok h rfl (by kernel_rfl)).1
  · replace hF := of_f hb hF
    refine wp_skip ?_
    refine wp_seq ?_
    refine wp_reg_seq tok (orc := orcL []) (fz := []) (l := [1, 3]) (c := _) (.inr fun i h => h) h (by kernel_rfl) (AllP.nil) ?_
    intro a w h
    refine wp_block ?_
    refine wp_loop_fuel (f70.l42 k x0) (fun (v70 : Int) => [(1, .val sh11 (some x0)), (3, .val (.int .i64) v70)]) (fun v h => by rw [f70.l42] at h; cases h) ?_ hF (h.arrive (fz := []) (l := [1, 3]) (.inr fun i h => h) (by kernel_rfl))
    intro m42 v70 a w hF h
    rw [f70.l42] at hF
    refine wp_seq ?_
    refine wp_reg_seq tok (orc := orcL []) (fz := []) (l := [1, 3, 31]) (c := _) (.inr fun i h => h) h (by kernel_rfl) (AllP.nil) ?_
    intro a w h
    refine wp_if h (b := (decide ((v70 : Int) < (List.length x0.1 : Int)))) (by kernel_rfl) (fun hb => ?_) (fun hb => ?_)
    · replace hF := of_t hb hF
      refine wp_skip ?_
      refine wp_seq <| wp_block ?_
      obtain ⟨hc82, hF⟩ := of_if hF
      refine wp_reg_seq tok (orc := orcL []) (fz := []) (l := [1, 3, 4]) (c := _) (.inr fun i h => h) h (by kernel_rfl) (AllP.cons hc82 AllP.nil) ?_
      intro a w h
      obtain ⟨r77, hr79, hF⟩ := of_bind hF
      obtain ⟨r78, hr80, hF⟩ := of_bind hF
      obtain ⟨hc81, hF⟩ := of_if hF
      refine wp_regy_seq tok (orc := orcL [(41, [⟨.bool, r77⟩]), (46, [⟨.bool, r78⟩])]) (fz := []) (l := [1, 3, 64]) (c := _) ([], [], [], []) 26 (.inr fun i h => h) h (by kernel_rfl) (by kernel_rfl) (AllP.cons (c158 k (List.getD x0.1 (Int.toNat v70) ((0 : Int), ((0 : Int), (0 : Int)))).1 r77 hr79) (AllP.cons (fun (hg : ((!r77) = false)) => c159 k (List.getD x0.1 (Int.toNat v70) ((0 : Int), ((0 : Int), (0 : Int)))).2 r78 (of_g hg hr80)) (AllP.cons hc81 AllP.nil))) ?_
      intro a w h
      refine wp_if h (b := (bif (bif (!r77) then true else (!r78)) then true else (bif (decide ((v70 : Int) > (0 : Int))) then (decide (((List.getD x0.1 (Int.toNat (IntKind.i64.wrap (v70 - (1 : Int)))) ((0 : Int), ((0 : Int), (0 : Int)))).1 : Int) ≥ (List.getD x0.1 (Int.toNat v70) ((0 : Int), ((0 : Int), (0 : Int)))).1)) else false))) (by kernel_rfl) (fun hb => ?_) (fun hb => ?_)
      · replace hF := of_t hb hF
        refine wp_reg_seq tok (orc := orcL []) (fz := []) (l := [2]) (c := _) (.inr fun i h => h) h (by kernel_rfl) (AllP.nil) ?_
        intro a w h
        cases hF
        exact wp_ret (ret_okR tok h rfl (by kernel_rfl)).1
      · replace hF := of_f hb hF
        refine wp_skip ?_
        refine wp_reg tok (orc := orcL []) (fz := []) (l := [1, 3]) (c := _) (.inr fun i h => h) h (by kernel_rfl) (AllP.nil) ?_
        intro a w h
        exact ⟨(IntKind.i64.wrap (v70 + (1 : Int))), hF, h.arrive (fz := []) (l := [1, 3]) (.inr fun i h => h) (by kernel_rfl)⟩
    · replace hF := of_f hb hF
      refine wp_exit ?_
      refine wp_reg_seq tok (orc := orcL []) (fz := []) (l := [1, 5]) (c := _) (.inr fun i h => h) h (by kernel_rfl) (AllP.nil) ?_
      intro a w h
      refine wp_seq ?_
      refine wp_reg_seq tok (orc := orcL []) (fz := []) (l := [1, 5, 6]) (c := _) (.inr fun i h => h) h (by kernel_rfl) (AllP.nil) ?_
      intro a w h
      refine wp_block ?_
      refine wp_loop_fuel (f70.l118 k x0) (fun (v142 : Int) => [(1, .val sh11 (some x0)), (5, .val (.int .i64) (List.length x0.1 : Int)), (6, .val (.int .i64) v142)]) (fun v h => by rw [f70.l118] at h; cases h) ?_ hF (h.arrive (fz := []) (l := [1, 5, 6]) (.inr fun i h => h) (by kernel_rfl))
      intro m118 v142 a w hF h
      rw [f70.l118] at hF
      refine wp_seq ?_
      refine wp_reg_seq tok (orc := orcL []) (fz := []) (l := [1, 5, 6, 72]) (c := _) (.inr fun i h => h) h (by kernel_rfl) (AllP.nil) ?_
      intro a w h
      refine wp_if h (b := (decide ((v142 : Int) < (List.length x0.2.1 : Int)))) (by kernel_rfl) (fun hb => ?_) (fun hb => ?_)
      · replace hF := of_t hb hF
        refine wp_skip ?_
        refine wp_seq <| wp_block ?_
        obtain ⟨hc152, hF⟩ := of_if hF
        refine wp_reg_seq tok (orc := orcL []) (fz := []) (l := [1, 5, 6, 7]) (c := _) (.inr fun i h => h) h (by kernel_rfl) (AllP.cons hc152 AllP.nil) ?_
        intro a w h
        obtain ⟨r148, hr151, hF⟩ := of_bind hF
        refine wp_reg_seq tok (orc := orcL [(103, [⟨.bool, r148⟩])]) (fz := []) (l := [1, 5, 6, 125]) (c := _) (.inr fun i h => h) h (by kernel_rfl) (AllP.cons (fun (hg : ((bif (bif (bif (decide (((List.getD x0.2.1 (Int.toNat v142) ((0 : Int), ((0 : Int), ((0 : Int), ((0 : Int), ((0 : Int), (⟨#[]⟩ : ByteArray))))))).1 : Int) < (0 : Int))) then true else (decide (((List.getD x0.2.1 (Int.toNat v142) ((0 : Int), ((0 : Int), ((0 : Int), ((0 : Int), ((0 : Int), (⟨#[]⟩ : ByteArray))))))).1 : Int) ≥ (List.length x0.1 : Int)))) then true else (decide (((List.getD x0.2.1 (Int.toNat v142) ((0 : Int), ((0 : Int), ((0 : Int), ((0 : Int), ((0 : Int), (⟨#[]⟩ : ByteArray))))))).2.1 : Int) < (0 : Int)))) then true else (decide (((List.getD x0.2.1 (Int.toNat v142) ((0 : Int), ((0 : Int), ((0 : Int), ((0 : Int), ((0 : Int), (⟨#[]⟩ : ByteArray))))))).2.1 : Int) ≥ (List.length x0.1 : Int)))) = false)) => c158 k (List.getD x0.2.1 (Int.toNat v142) ((0 : Int), ((0 : Int), ((0 : Int), ((0 : Int), ((0 : Int), (⟨#[]⟩ : ByteArray))))))).2.2.1 r148 (of_g hg hr151)) AllP.nil) ?_
        intro a w h
        obtain ⟨v149, hv150, hF⟩ := of_bind hF
        replace h := h.cast (S' := [(1, .val sh11 (some x0)), (5, .val (.int .i64) (List.length x0.1 : Int)), (6, .val (.int .i64) v142), (125, .val .bool v149)]) (by cases hv150; kernel_rfl)
        refine wp_if h (b := v149) (by kernel_rfl) (fun hb => ?_) (fun hb => ?_)
        · replace hF := of_t hb hF
          refine wp_reg_seq tok (orc := orcL []) (fz := []) (l := [2]) (c := _) (.inr fun i h => h) h (by kernel_rfl) (AllP.nil) ?_
          intro a w h
          cases hF
          exact wp_ret (ret_okR tok h rfl (by kernel_rfl)).1
        · replace hF := of_f hb hF
          refine wp_skip ?_
          refine wp_reg tok (orc := orcL []) (fz := []) (l := [1, 5, 6]) (c := _) (.inr fun i h => h) h (by kernel_rfl) (AllP.nil) ?_
          intro a w h
          exact ⟨(IntKind.i64.wrap (v142 + (1 : Int))), hF, h.arrive (fz := []) (l := [1, 5, 6]) (.inr fun i h => h) (by kernel_rfl)⟩
      · replace hF := of_f hb hF
        refine wp_exit ?_
        refine wp_reg_seq tok (orc := orcL []) (fz := []) (l := [1, 8]) (c := _) (.inr fun i h => h) h (by kernel_rfl) (AllP.nil) ?_
        intro a w h
        refine wp_seq ?_
        refine wp_reg_seq tok (orc := orcL []) (fz := []) (l := [1, 8, 9]) (c := _) (.inr fun i h => h) h (by kernel_rfl) (AllP.nil) ?_
        intro a w h
        refine wp_block ?_
        refine wp_loop_fuel (f70.l206 k x0) (fun (v242 : Int) => [(1, .val sh11 (some x0)), (8, .val (.int .i64) (List.length x0.2.1 : Int)), (9, .val (.int .i64) v242)]) (fun v h => by rw [f70.l206] at h; cases h) ?_ hF (h.arrive (fz := []) (l := [1, 8, 9]) (.inr fun i h => h) (by kernel_rfl))
        intro m206 v242 a w hF h
        rw [f70.l206] at hF
        refine wp_seq ?_
        refine wp_reg_seq tok (orc := orcL []) (fz := []) (l := [1, 8, 9, 133]) (c := _) (.inr fun i h => h) h (by kernel_rfl) (AllP.nil) ?_
        intro a w h
        refine wp_if h (b := (decide ((v242 : Int) < (List.length x0.2.2 : Int)))) (by kernel_rfl) (fun hb => ?_) (fun hb => ?_)
        · replace hF := of_t hb hF
          refine wp_skip ?_
          refine wp_seq <| wp_block ?_
          obtain ⟨hc258, hF⟩ := of_if hF
          refine wp_reg_seq tok (orc := orcL []) (fz := []) (l := [1, 8, 9, 10]) (c := _) (.inr fun i h => h) h (by kernel_rfl) (AllP.cons hc258 AllP.nil) ?_
          intro a w h
          obtain ⟨hc254, hF⟩ := of_if hF
          obtain ⟨hc255, hF⟩ := of_if hF
          obtain ⟨hc256, hF⟩ := of_if hF
          obtain ⟨r251, hr257, hF⟩ := of_bind hF
          refine wp_regy_seq tok (orc := orcL [(189, [⟨.bool, r251⟩])]) (fz := []) (l := [1, 8, 9, 192]) (c := _) ([], [], [], []) 52 (.inr fun i h => h) h (by kernel_rfl) (by kernel_rfl) (AllP.cons hc254 (AllP.cons hc255 (AllP.cons hc256 (AllP.cons (fun (hg : (((bif (bif (bif (bif (decide (((List.getD x0.2.2 (Int.toNat v242) ((0 : Int), (0 : Int))).1 : Int) < (0 : Int))) then true else (decide (((List.getD x0.2.2 (Int.toNat v242) ((0 : Int), (0 : Int))).1 : Int) ≥ (List.length x0.2.1 : Int)))) then true else (decide (((List.getD x0.2.2 (Int.toNat v242) ((0 : Int), (0 : Int))).2 : Int) < (0 : Int)))) then true else (decide (((List.getD x0.2.2 (Int.toNat v242) ((0 : Int), (0 : Int))).2 : Int) ≥ (List.length x0.2.1 : Int)))) then true else (((List.getD x0.2.1 (Int.toNat (List.getD x0.2.2 (Int.toNat v242) ((0 : Int), (0 : Int))).1) ((0 : Int), ((0 : Int), ((0 : Int), ((0 : Int), ((0 : Int), (⟨#[]⟩ : ByteArray))))))).2.1 : Int) != (List.getD x0.2.1 (Int.toNat (List.getD x0.2.2 (Int.toNat v242) ((0 : Int), (0 : Int))).2) ((0 : Int), ((0 : Int), ((0 : Int), ((0 : Int), ((0 : Int), (⟨#[]⟩ : ByteArray))))))).1)) = false) ∧ ((decide ((v242 : Int) > (0 : Int))) = true))) => c160 k (List.getD x0.2.2 (Int.toNat (IntKind.i64.wrap (v242 - (1 : Int)))) ((0 : Int), (0 : Int))) (List.getD x0.2.2 (Int.toNat v242) ((0 : Int), (0 : Int))) r251 (of_g hg hr257)) AllP.nil)))) ?_
          intro a w h
          obtain ⟨v252, hv253, hF⟩ := of_bind hF
          replace h := h.cast (S' := [(1, .val sh11 (some x0)), (8, .val (.int .i64) (List.length x0.2.1 : Int)), (9, .val (.int .i64) v242), (192, .val .bool v252)]) (by cases hv253; kernel_rfl)
          refine wp_if h (b := v252) (by kernel_rfl) (fun hb => ?_) (fun hb => ?_)
          · replace hF := of_t hb hF
            refine wp_reg_seq tok (orc := orcL []) (fz := []) (l := [2]) (c := _) (.inr fun i h => h) h (by kernel_rfl) (AllP.nil) ?_
            intro a w h
            cases hF
            exact wp_ret (ret_okR tok h rfl (by kernel_rfl)).1
          · replace hF := of_f hb hF
            refine wp_skip ?_
            refine wp_reg tok (orc := orcL []) (fz := []) (l := [1, 8, 9]) (c := _) (.inr fun i h => h) h (by kernel_rfl) (AllP.nil) ?_
            intro a w h
            exact ⟨(IntKind.i64.wrap (v242 + (1 : Int))), hF, h.arrive (fz := []) (l := [1, 8, 9]) (.inr fun i h => h) (by kernel_rfl)⟩
        · replace hF := of_f hb hF
          refine wp_exit ?_
          refine wp_reg_seq tok (orc := orcL []) (fz := []) (l := [2]) (c := _) (.inr fun i h => h) h (by kernel_rfl) (AllP.nil) ?_
          intro a w h
          cases hF
          exact wp_ret (ret_okR tok h rfl (by kernel_rfl)).1

def f161 (k : Nat) (x0 : ((List (Int × (Int × Int))) × ((List (Int × (Int × (Int × (Int × (Int × ByteArray)))))) × (List (Int × Int))))) (x1 : Int) : Option Bool := some (bif (decide ((x1 : Int) ≥ (0 : Int))) then (decide ((x1 : Int) < (List.length x0.2.1 : Int))) else false)
set_option maxRecDepth 100000 in
/-- 'spec.l10RoadIs'. -/
theorem c161 (k : Nat) (x0 : ((List (Int × (Int × Int))) × ((List (Int × (Int × (Int × (Int × (Int × ByteArray)))))) × (List (Int × Int))))) (x1 : Int) (r : Bool) (hF : f161 k x0 x1 = some r) : PCall Try.prog 161 [⟨sh12, x0⟩, ⟨(.int .i64), x1⟩] [⟨.bool, r⟩] := by
  refine pcall_intro Try.func161 rfl rfl (Nat.le_of_ble_eq_true rfl) ?_
  intro w0 Zi a w h
  rw [f161] at hF
  refine wp_reg_seq tok (orc := orcL []) (fz := []) (l := [1, 2]) (c := _) (.inr fun i h => h) h (by kernel_rfl) (AllP.nil) ?_
  intro a w h
  refine wp_reg_seq tok (orc := orcL []) (fz := []) (l := [4]) (c := _) (.inr fun i h => h) h (by kernel_rfl) (AllP.nil) ?_
  intro a w h
  cases hF
  exact wp_ret (ret_okR tok h rfl (by kernel_rfl)).1

def f71.l24 (k : Nat) (x1 : (List Int)) (x0 : ((List (Int × (Int × Int))) × ((List (Int × (Int × (Int × (Int × (Int × ByteArray)))))) × (List (Int × Int))))) : Nat → Int → Option Bool
  | 0, _ => none
  | m24 + 1, v40 => if (decide ((v40 : Int) < (List.length x1 : Int))) then (if (0 ≤ v40 ∧ v40 < (List.length x1 : Int)) then ((f161 k x0 (List.getD x1 (Int.toNat v40) (0 : Int))).bind fun r44 => (if (!r44) then (some false) else ((f71.l24 k x1 x0) m24 (IntKind.i64.wrap (v40 + (1 : Int)))))) else none) else (some true)
def f71 (k : Nat) (x0 : ((List (Int × (Int × Int))) × ((List (Int × (Int × (Int × (Int × (Int × ByteArray)))))) × (List (Int × Int))))) (x1 : (List Int)) : Option Bool := f71.l24 k x1 x0 k (0 : Int)
set_option maxRecDepth 100000 in
/-- 'spec.l12RoadsOk'. -/
theorem c71 (k : Nat) (x0 : ((List (Int × (Int × Int))) × ((List (Int × (Int × (Int × (Int × (Int × ByteArray)))))) × (List (Int × Int))))) (x1 : (List Int)) (r : Bool) (hF : f71 k x0 x1 = some r) : PCall Try.prog 71 [⟨sh12, x0⟩, ⟨(.sl false 2 (.int .i64)), x1⟩] [⟨.bool, r⟩] := by
  refine pcall_intro Try.func71 rfl rfl (Nat.le_of_ble_eq_true rfl) ?_
  intro w0 Zi a w h
  rw [f71] at hF
  refine wp_reg_seq tok (orc := orcL []) (fz := []) (l := [1, 2]) (c := _) (.inr fun i h => h) h (by kernel_rfl) (AllP.nil) ?_
  intro a w h
  refine wp_seq ?_
  refine wp_reg_seq tok (orc := orcL []) (fz := []) (l := [1, 2, 5]) (c := _) (.inr fun i h => h) h (by kernel_rfl) (AllP.nil) ?_
  intro a w h
  refine wp_block ?_
  refine wp_loop_fuel (f71.l24 k x1 x0) (fun (v40 : Int) => [(1, .val (.sl false 2 (.int .i64)) x1), (2, .val sh11 (some x0)), (5, .val (.int .i64) v40)]) (fun v h => by rw [f71.l24] at h; cases h) ?_ hF (h.arrive (fz := []) (l := [1, 2, 5]) (.inr fun i h => h) (by kernel_rfl))
  intro m24 v40 a w hF h
  rw [f71.l24] at hF
  refine wp_seq ?_
  refine wp_reg_seq tok (orc := orcL []) (fz := []) (l := [1, 2, 5, 9]) (c := _) (.inr fun i h => h) h (by kernel_rfl) (AllP.nil) ?_
  intro a w h
  refine wp_if h (b := (decide ((v40 : Int) < (List.length x1 : Int)))) (by kernel_rfl) (fun hb => ?_) (fun hb => ?_)
  · replace hF := of_t hb hF
    refine wp_skip ?_
    refine wp_seq <| wp_block ?_
    obtain ⟨hc45, hF⟩ := of_if hF
    obtain ⟨r44, hr46, hF⟩ := of_bind hF
    refine wp_regy_seq tok (orc := orcL [(17, [⟨.bool, r44⟩])]) (fz := []) (l := [1, 2, 5, 18]) (c := _) ([], [], [], []) 7 (.inr fun i h => h) h (by kernel_rfl) (by kernel_rfl) (AllP.cons hc45 (AllP.cons (c161 k x0 (List.getD x1 (Int.toNat v40) (0 : Int)) r44 hr46) AllP.nil)) ?_
    intro a w h
    refine wp_if h (b := (!r44)) (by kernel_rfl) (fun hb => ?_) (fun hb => ?_)
    · replace hF := of_t hb hF
      refine wp_reg_seq tok (orc := orcL []) (fz := []) (l := [4]) (c := _) (.inr fun i h => h) h (by kernel_rfl) (AllP.nil) ?_
      intro a w h
      cases hF
      exact wp_ret (ret_okR tok h rfl (by kernel_rfl)).1
    · replace hF := of_f hb hF
      refine wp_skip ?_
      refine wp_reg tok (orc := orcL []) (fz := []) (l := [1, 2, 5]) (c := _) (.inr fun i h => h) h (by kernel_rfl) (AllP.nil) ?_
      intro a w h
      exact ⟨(IntKind.i64.wrap (v40 + (1 : Int))), hF, h.arrive (fz := []) (l := [1, 2, 5]) (.inr fun i h => h) (by kernel_rfl)⟩
  · replace hF := of_f hb hF
    refine wp_exit ?_
    refine wp_reg_seq tok (orc := orcL []) (fz := []) (l := [4]) (c := _) (.inr fun i h => h) h (by kernel_rfl) (AllP.nil) ?_
    intro a w h
    cases hF
    exact wp_ret (ret_okR tok h rfl (by kernel_rfl)).1

def f218.l22 (k : Nat) (x0 : ((List (Int × (Int × Int))) × ((List (Int × (Int × (Int × (Int × (Int × ByteArray)))))) × (List (Int × Int))))) (x1 : Int) (x2 : Int) : Nat → (Int × Int) → Option Bool
  | 0, _ => none
  | m22 + 1, (v37, v38) => if (decide ((v37 : Int) < v38)) then (if (((2 : Int) : Int) ≠ 0) then (if (0 ≤ (IntKind.i64.wrap (Int.tdiv (IntKind.i64.wrap (v37 + v38)) (2 : Int))) ∧ (IntKind.i64.wrap (Int.tdiv (IntKind.i64.wrap (v37 + v38)) (2 : Int))) < (List.length x0.2.2 : Int)) then ((f160 k (List.getD x0.2.2 (Int.toNat (IntKind.i64.wrap (Int.tdiv (IntKind.i64.wrap (v37 + v38)) (2 : Int)))) ((0 : Int), (0 : Int))) (x1, x2)).bind fun r39 => (if r39 then ((f218.l22 k x0 x1 x2) m22 ((IntKind.i64.wrap ((IntKind.i64.wrap (Int.tdiv (IntKind.i64.wrap (v37 + v38)) (2 : Int))) + (1 : Int))), v38)) else ((f218.l22 k x0 x1 x2) m22 (v37, (IntKind.i64.wrap (Int.tdiv (IntKind.i64.wrap (v37 + v38)) (2 : Int))))))) else none) else none) else (if (((decide ((v37 : Int) < (List.length x0.2.2 : Int))) = true) → (0 ≤ v37 ∧ v37 < (List.length x0.2.2 : Int))) then (some (bif (decide ((v37 : Int) < (List.length x0.2.2 : Int))) then (Sh.beq sh5 (List.getD x0.2.2 (Int.toNat v37) ((0 : Int), (0 : Int))) (x1, x2)) else false)) else none)
def f218 (k : Nat) (x0 : ((List (Int × (Int × Int))) × ((List (Int × (Int × (Int × (Int × (Int × ByteArray)))))) × (List (Int × Int))))) (x1 : Int) (x2 : Int) : Option Bool := f218.l22 k x0 x1 x2 k ((0 : Int), (List.length x0.2.2 : Int))
set_option maxRecDepth 100000 in
/-- 'spec.l9Banned'. -/
theorem c218 (k : Nat) (x0 : ((List (Int × (Int × Int))) × ((List (Int × (Int × (Int × (Int × (Int × ByteArray)))))) × (List (Int × Int))))) (x1 : Int) (x2 : Int) (r : Bool) (hF : f218 k x0 x1 x2 = some r) : PCall Try.prog 218 [⟨sh12, x0⟩, ⟨(.int .i64), x1⟩, ⟨(.int .i64), x2⟩] [⟨.bool, r⟩] := by
  refine pcall_intro Try.func218 rfl rfl (Nat.le_of_ble_eq_true rfl) ?_
  intro w0 Zi a w h
  rw [f218] at hF
  refine wp_reg_seq tok (orc := orcL []) (fz := []) (l := [1, 2, 3]) (c := _) (.inr fun i h => h) h (by kernel_rfl) (AllP.nil) ?_
  intro a w h
  refine wp_reg_seq tok (orc := orcL []) (fz := []) (l := [3, 7]) (c := _) (.inr fun i h => h) h (by kernel_rfl) (AllP.nil) ?_
  intro a w h
  refine wp_reg_seq tok (orc := orcL []) (fz := []) (l := [3, 7, 8]) (c := _) (.inr fun i h => h) h (by kernel_rfl) (AllP.nil) ?_
  intro a w h
  refine wp_reg_seq tok (orc := orcL []) (fz := []) (l := [3, 7, 8, 9]) (c := _) (.inr fun i h => h) h (by kernel_rfl) (AllP.nil) ?_
  intro a w h
  refine wp_seq <| wp_block ?_
  refine wp_loop_fuel (f218.l22 k x0 x1 x2) (fun ((v37, v38) : (Int × Int)) => [(3, .val sh11 (some x0)), (7, .val sh13 (some (x1, x2))), (8, .val (.int .i64) v37), (9, .val (.int .i64) v38)]) (fun v h => by obtain ⟨v37, v38⟩ := v; rw [f218.l22] at h; cases h) ?_ hF (h.arrive (fz := []) (l := [3, 7, 8, 9]) (.inr fun i h => h) (by kernel_rfl))
  intro m22 v a w hF h
  obtain ⟨v37, v38⟩ := v
  rw [f218.l22] at hF
  refine wp_seq ?_
  refine wp_reg_seq tok (orc := orcL []) (fz := []) (l := [3, 7, 8, 9, 19]) (c := _) (.inr fun i h => h) h (by kernel_rfl) (AllP.nil) ?_
  intro a w h
  refine wp_if h (b := (decide ((v37 : Int) < v38))) (by kernel_rfl) (fun hb => ?_) (fun hb => ?_)
  · replace hF := of_t hb hF
    refine wp_skip ?_
    refine wp_block ?_
    obtain ⟨hc42, hF⟩ := of_if hF
    refine wp_reg_seq tok (orc := orcL []) (fz := []) (l := [3, 7, 8, 9, 10]) (c := _) (.inr fun i h => h) h (by kernel_rfl) (AllP.cons hc42 AllP.nil) ?_
    intro a w h
    obtain ⟨hc40, hF⟩ := of_if hF
    obtain ⟨r39, hr41, hF⟩ := of_bind hF
    refine wp_regy_seq tok (orc := orcL [(30, [⟨.bool, r39⟩])]) (fz := []) (l := [3, 7, 8, 9, 10, 30]) (c := _) ([], [], [], []) 7 (.inr fun i h => h) h (by kernel_rfl) (by kernel_rfl) (AllP.cons hc40 (AllP.cons (c160 k (List.getD x0.2.2 (Int.toNat (IntKind.i64.wrap (Int.tdiv (IntKind.i64.wrap (v37 + v38)) (2 : Int)))) ((0 : Int), (0 : Int))) (x1, x2) r39 hr41) AllP.nil)) ?_
    intro a w h
    refine wp_if h (b := r39) (by kernel_rfl) (fun hb => ?_) (fun hb => ?_)
    · replace hF := of_t hb hF
      refine wp_reg tok (orc := orcL []) (fz := []) (l := [3, 7, 8, 9]) (c := _) (.inr fun i h => h) h (by kernel_rfl) (AllP.nil) ?_
      intro a w h
      exact ⟨((IntKind.i64.wrap ((IntKind.i64.wrap (Int.tdiv (IntKind.i64.wrap (v37 + v38)) (2 : Int))) + (1 : Int))), v38), hF, h.arrive (fz := []) (l := [3, 7, 8, 9]) (.inr fun i h => h) (by kernel_rfl)⟩
    · replace hF := of_f hb hF
      refine wp_reg tok (orc := orcL []) (fz := []) (l := [3, 7, 8, 9]) (c := _) (.inr fun i h => h) h (by kernel_rfl) (AllP.nil) ?_
      intro a w h
      exact ⟨(v37, (IntKind.i64.wrap (Int.tdiv (IntKind.i64.wrap (v37 + v38)) (2 : Int)))), hF, h.arrive (fz := []) (l := [3, 7, 8, 9]) (.inr fun i h => h) (by kernel_rfl)⟩
  · replace hF := of_f hb hF
    refine wp_exit ?_
    obtain ⟨hc43, hF⟩ := of_if hF
    refine wp_regy_seq tok (orc := orcL []) (fz := []) (l := [6]) (c := _) ([], [], [], []) 15 (.inr fun i h => h) h (by kernel_rfl) (by kernel_rfl) (AllP.cons hc43 (AllP.cons (fun (_ : ((decide ((v37 : Int) < (List.length x0.2.2 : Int))) = true)) => (And.intro (show eqTy Try.prog 9 167 (.st (.pair (.int .i64) (.int .i64))) = true from by kernel_rfl) (show Try.prog.eqGuardType Try.prog.depth 167 = false from by kernel_rfl))) AllP.nil)) ?_
    intro a w h
    cases hF
    exact wp_ret (ret_okR tok h rfl (by kernel_rfl)).1

def f250 (k : Nat) (x0 : Int) : Option Int := if (decide ((x0 : Int) < (0 : Int))) then (some (IntKind.i64.wrap (0 - x0))) else (some x0)
set_option maxRecDepth 100000 in
/-- 'spec.l1Abs'. -/
theorem c250 (k : Nat) (x0 : Int) (r : Int) (hF : f250 k x0 = some r) : PCall Try.prog 250 [⟨(.int .i64), x0⟩] [⟨(.int .i64), r⟩] := by
  refine pcall_intro Try.func250 rfl rfl (Nat.le_of_ble_eq_true rfl) ?_
  intro w0 Zi a w h
  rw [f250] at hF
  refine wp_reg_seq tok (orc := orcL []) (fz := []) (l := [0]) (c := _) (.inr fun i h => h) h (by kernel_rfl) (AllP.nil) ?_
  intro a w h
  refine wp_seq ?_
  refine wp_reg_seq tok (orc := orcL []) (fz := []) (l := [0, 4]) (c := _) (.inr fun i h => h) h (by kernel_rfl) (AllP.nil) ?_
  intro a w h
  refine wp_if h (b := (decide ((x0 : Int) < (0 : Int)))) (by kernel_rfl) (fun hb => ?_) (fun hb => ?_)
  · replace hF := of_t hb hF
    refine wp_reg_seq tok (orc := orcL []) (fz := []) (l := [2]) (c := _) (.inr fun i h => h) h (by kernel_rfl) (AllP.nil) ?_
    intro a w h
    cases hF
    exact wp_ret (ret_okR tok h rfl (by kernel_rfl)).1
  · replace hF := of_f hb hF
    refine wp_skip ?_
    refine wp_reg_seq tok (orc := orcL []) (fz := []) (l := [2]) (c := _) (.inr fun i h => h) h (by kernel_rfl) (AllP.nil) ?_
    intro a w h
    cases hF
    exact wp_ret (ret_okR tok h rfl (by kernel_rfl)).1

def f219 (k : Nat) (x0 : (Int × Int)) (x1 : (Int × Int)) : Option Int := (f159 k x0).bind fun r1 => ((if ((!r1) = false) then f159 k x1 else some default).bind fun r2 => (if (bif (bif (!r1) then true else (!r2)) then true else (Sh.beq sh5 x0 x1)) then (some (-1 : Int)) else ((f250 k (IntKind.i64.wrap (x1.1 - x0.1))).bind fun r3 => ((f250 k (IntKind.i64.wrap (x1.2 - x0.2))).bind fun r4 => (if (bif (decide (((IntKind.i64.wrap ((5 : Int) * r4)) : Int) < (IntKind.i64.wrap ((2 : Int) * r3)))) then (decide (((IntKind.i64.wrap (x1.1 - x0.1)) : Int) > (0 : Int))) else false) then (some (0 : Int)) else (if (decide (((IntKind.i64.wrap ((5 : Int) * r4)) : Int) < (IntKind.i64.wrap ((2 : Int) * r3)))) then (some (4 : Int)) else (if (bif (decide (((IntKind.i64.wrap ((5 : Int) * r3)) : Int) < (IntKind.i64.wrap ((2 : Int) * r4)))) then (decide (((IntKind.i64.wrap (x1.2 - x0.2)) : Int) > (0 : Int))) else false) then (some (2 : Int)) else (if (decide (((IntKind.i64.wrap ((5 : Int) * r3)) : Int) < (IntKind.i64.wrap ((2 : Int) * r4)))) then (some (6 : Int)) else (if (bif (decide (((IntKind.i64.wrap (x1.1 - x0.1)) : Int) > (0 : Int))) then (decide (((IntKind.i64.wrap (x1.2 - x0.2)) : Int) > (0 : Int))) else false) then (some (1 : Int)) else (if (bif (decide (((IntKind.i64.wrap (x1.1 - x0.1)) : Int) < (0 : Int))) then (decide (((IntKind.i64.wrap (x1.2 - x0.2)) : Int) > (0 : Int))) else false) then (some (3 : Int)) else (if (decide (((IntKind.i64.wrap (x1.1 - x0.1)) : Int) < (0 : Int))) then (some (5 : Int)) else (some (7 : Int)))))))))))))
set_option maxRecDepth 100000 in
/-- 'spec.Heading'. -/
theorem c219 (k : Nat) (x0 : (Int × Int)) (x1 : (Int × Int)) (r : Int) (hF : f219 k x0 x1 = some r) : PCall Try.prog 219 [⟨sh5, x0⟩, ⟨sh5, x1⟩] [⟨(.int .i64), r⟩] := by
  refine pcall_intro Try.func219 rfl rfl (Nat.le_of_ble_eq_true rfl) ?_
  intro w0 Zi a w h
  rw [f219] at hF
  refine wp_reg_seq tok (orc := orcL []) (fz := []) (l := [2, 3]) (c := _) (.inr fun i h => h) h (by kernel_rfl) (AllP.nil) ?_
  intro a w h
  refine wp_seq ?_
  obtain ⟨r1, hr7, hF⟩ := of_bind hF
  obtain ⟨r2, hr8, hF⟩ := of_bind hF
  refine wp_reg_seq tok (orc := orcL [(10, [⟨.bool, r1⟩]), (14, [⟨.bool, r2⟩])]) (fz := []) (l := [2, 3, 21]) (c := _) (.inr fun i h => h) h (by kernel_rfl) (AllP.cons (c159 k x0 r1 hr7) (AllP.cons (fun (hg : ((!r1) = false)) => c159 k x1 r2 (of_g hg hr8)) (AllP.cons (fun (_ : ((bif (!r1) then true else (!r2)) = false)) => (And.intro (show eqTy Try.prog 9 174 (.st (.pair (.int .i64) (.int .i64))) = true from by kernel_rfl) (show Try.prog.eqGuardType Try.prog.depth 174 = false from by kernel_rfl))) AllP.nil))) ?_
  intro a w h
  refine wp_if h (b := (bif (bif (!r1) then true else (!r2)) then true else (Sh.beq sh5 x0 x1))) (by kernel_rfl) (fun hb => ?_) (fun hb => ?_)
  · replace hF := of_t hb hF
    refine wp_reg_seq tok (orc := orcL []) (fz := []) (l := [4]) (c := _) (.inr fun i h => h) h (by kernel_rfl) (AllP.nil) ?_
    intro a w h
    cases hF
    exact wp_ret (ret_okR tok h rfl (by kernel_rfl)).1
  · replace hF := of_f hb hF
    refine wp_skip ?_
    refine wp_reg_seq tok (orc := orcL []) (fz := []) (l := [2, 3, 5]) (c := _) (.inr fun i h => h) h (by kernel_rfl) (AllP.nil) ?_
    intro a w h
    refine wp_reg_seq tok (orc := orcL []) (fz := []) (l := [5, 6]) (c := _) (.inr fun i h => h) h (by kernel_rfl) (AllP.nil) ?_
    intro a w h
    obtain ⟨r3, hr6, hF⟩ := of_bind hF
    refine wp_reg_seq tok (orc := orcL [(33, [⟨(.int .i64), r3⟩])]) (fz := []) (l := [5, 6, 7]) (c := _) (.inr fun i h => h) h (by kernel_rfl) (AllP.cons (c250 k (IntKind.i64.wrap (x1.1 - x0.1)) r3 hr6) AllP.nil) ?_
    intro a w h
    obtain ⟨r4, hr5, hF⟩ := of_bind hF
    refine wp_reg_seq tok (orc := orcL [(35, [⟨(.int .i64), r4⟩])]) (fz := []) (l := [5, 6, 7, 8]) (c := _) (.inr fun i h => h) h (by kernel_rfl) (AllP.cons (c250 k (IntKind.i64.wrap (x1.2 - x0.2)) r4 hr5) AllP.nil) ?_
    intro a w h
    refine wp_seq <| wp_block ?_
    refine wp_reg_seq tok (orc := orcL []) (fz := []) (l := [5, 6, 7, 8, 36]) (c := _) (.inr fun i h => h) h (by kernel_rfl) (AllP.nil) ?_
    intro a w h
    refine wp_if h (b := (bif (decide (((IntKind.i64.wrap ((5 : Int) * r4)) : Int) < (IntKind.i64.wrap ((2 : Int) * r3)))) then (decide (((IntKind.i64.wrap (x1.1 - x0.1)) : Int) > (0 : Int))) else false)) (by kernel_rfl) (fun hb => ?_) (fun hb => ?_)
    · replace hF := of_t hb hF
      refine wp_reg_seq tok (orc := orcL []) (fz := []) (l := [4]) (c := _) (.inr fun i h => h) h (by kernel_rfl) (AllP.nil) ?_
      intro a w h
      cases hF
      exact wp_ret (ret_okR tok h rfl (by kernel_rfl)).1
    · replace hF := of_f hb hF
      refine wp_reg_seq tok (orc := orcL []) (fz := []) (l := [5, 6, 7, 8, 46]) (c := _) (.inr fun i h => h) h (by kernel_rfl) (AllP.nil) ?_
      intro a w h
      refine wp_if h (b := (decide (((IntKind.i64.wrap ((5 : Int) * r4)) : Int) < (IntKind.i64.wrap ((2 : Int) * r3))))) (by kernel_rfl) (fun hb => ?_) (fun hb => ?_)
      · replace hF := of_t hb hF
        refine wp_reg_seq tok (orc := orcL []) (fz := []) (l := [4]) (c := _) (.inr fun i h => h) h (by kernel_rfl) (AllP.nil) ?_
        intro a w h
        cases hF
        exact wp_ret (ret_okR tok h rfl (by kernel_rfl)).1
      · replace hF := of_f hb hF
        refine wp_reg_seq tok (orc := orcL []) (fz := []) (l := [5, 6, 7, 8, 52]) (c := _) (.inr fun i h => h) h (by kernel_rfl) (AllP.nil) ?_
        intro a w h
        refine wp_if h (b := (bif (decide (((IntKind.i64.wrap ((5 : Int) * r3)) : Int) < (IntKind.i64.wrap ((2 : Int) * r4)))) then (decide (((IntKind.i64.wrap (x1.2 - x0.2)) : Int) > (0 : Int))) else false)) (by kernel_rfl) (fun hb => ?_) (fun hb => ?_)
        · replace hF := of_t hb hF
          refine wp_reg_seq tok (orc := orcL []) (fz := []) (l := [4]) (c := _) (.inr fun i h => h) h (by kernel_rfl) (AllP.nil) ?_
          intro a w h
          cases hF
          exact wp_ret (ret_okR tok h rfl (by kernel_rfl)).1
        · replace hF := of_f hb hF
          refine wp_reg_seq tok (orc := orcL []) (fz := []) (l := [5, 6, 62]) (c := _) (.inr fun i h => h) h (by kernel_rfl) (AllP.nil) ?_
          intro a w h
          refine wp_if h (b := (decide (((IntKind.i64.wrap ((5 : Int) * r3)) : Int) < (IntKind.i64.wrap ((2 : Int) * r4))))) (by kernel_rfl) (fun hb => ?_) (fun hb => ?_)
          · replace hF := of_t hb hF
            refine wp_reg_seq tok (orc := orcL []) (fz := []) (l := [4]) (c := _) (.inr fun i h => h) h (by kernel_rfl) (AllP.nil) ?_
            intro a w h
            cases hF
            exact wp_ret (ret_okR tok h rfl (by kernel_rfl)).1
          · replace hF := of_f hb hF
            refine wp_reg_seq tok (orc := orcL []) (fz := []) (l := [5, 6, 68]) (c := _) (.inr fun i h => h) h (by kernel_rfl) (AllP.nil) ?_
            intro a w h
            refine wp_if h (b := (bif (decide (((IntKind.i64.wrap (x1.1 - x0.1)) : Int) > (0 : Int))) then (decide (((IntKind.i64.wrap (x1.2 - x0.2)) : Int) > (0 : Int))) else false)) (by kernel_rfl) (fun hb => ?_) (fun hb => ?_)
            · replace hF := of_t hb hF
              refine wp_reg_seq tok (orc := orcL []) (fz := []) (l := [4]) (c := _) (.inr fun i h => h) h (by kernel_rfl) (AllP.nil) ?_
              intro a w h
              cases hF
              exact wp_ret (ret_okR tok h rfl (by kernel_rfl)).1
            · replace hF := of_f hb hF
              refine wp_reg_seq tok (orc := orcL []) (fz := []) (l := [5, 75]) (c := _) (.inr fun i h => h) h (by kernel_rfl) (AllP.nil) ?_
              intro a w h
              refine wp_if h (b := (bif (decide (((IntKind.i64.wrap (x1.1 - x0.1)) : Int) < (0 : Int))) then (decide (((IntKind.i64.wrap (x1.2 - x0.2)) : Int) > (0 : Int))) else false)) (by kernel_rfl) (fun hb => ?_) (fun hb => ?_)
              · replace hF := of_t hb hF
                refine wp_reg_seq tok (orc := orcL []) (fz := []) (l := [4]) (c := _) (.inr fun i h => h) h (by kernel_rfl) (AllP.nil) ?_
                intro a w h
                cases hF
                exact wp_ret (ret_okR tok h rfl (by kernel_rfl)).1
              · replace hF := of_f hb hF
                refine wp_reg_seq tok (orc := orcL []) (fz := []) (l := [82]) (c := _) (.inr fun i h => h) h (by kernel_rfl) (AllP.nil) ?_
                intro a w h
                refine wp_if h (b := (decide (((IntKind.i64.wrap (x1.1 - x0.1)) : Int) < (0 : Int)))) (by kernel_rfl) (fun hb => ?_) (fun hb => ?_)
                · replace hF := of_t hb hF
                  refine wp_reg_seq tok (orc := orcL []) (fz := []) (l := [4]) (c := _) (.inr fun i h => h) h (by kernel_rfl) (AllP.nil) ?_
                  intro a w h
                  cases hF
                  exact wp_ret (ret_okR tok h rfl (by kernel_rfl)).1
                · replace hF := of_f hb hF
                  refine wp_skip ?_
                  refine wp_reg_seq tok (orc := orcL []) (fz := []) (l := [4]) (c := _) (.inr fun i h => h) h (by kernel_rfl) (AllP.nil) ?_
                  intro a w h
                  cases hF
                  exact wp_ret (ret_okR tok h rfl (by kernel_rfl)).1

def f162.j11 (k : Nat) : Bool → Option Int
  | v10 => if v10 then (some (3 : Int)) else (some (0 : Int))
def f162.j9 (k : Nat) (r3 : Int) (r2 : Int) : Bool → Option Int
  | v8 => if v8 then (some (5 : Int)) else (if (((Int.tmod (IntKind.i64.wrap ((IntKind.i64.wrap (r3 - r2)) + (8 : Int))) (8 : Int)) : Int) == (5 : Int)) then (f162.j11 k (((Int.tmod (IntKind.i64.wrap ((IntKind.i64.wrap (r3 - r2)) + (8 : Int))) (8 : Int)) : Int) == (5 : Int))) else (f162.j11 k (((Int.tmod (IntKind.i64.wrap ((IntKind.i64.wrap (r3 - r2)) + (8 : Int))) (8 : Int)) : Int) == (6 : Int))))
def f162 (k : Nat) (x0 : ((List (Int × (Int × Int))) × ((List (Int × (Int × (Int × (Int × (Int × ByteArray)))))) × (List (Int × Int))))) (x1 : Int) (x2 : Int) : Option Int := (f218 k x0 x1 x2).bind fun r1 => (if r1 then (some (-1 : Int)) else (if (0 ≤ x1 ∧ x1 < (List.length x0.2.1 : Int)) then (if (0 ≤ x2 ∧ x2 < (List.length x0.2.1 : Int)) then (if (((List.getD x0.2.1 (Int.toNat x2) ((0 : Int), ((0 : Int), ((0 : Int), ((0 : Int), ((0 : Int), (⟨#[]⟩ : ByteArray))))))).2.1 : Int) == (List.getD x0.2.1 (Int.toNat x1) ((0 : Int), ((0 : Int), ((0 : Int), ((0 : Int), ((0 : Int), (⟨#[]⟩ : ByteArray))))))).1) then (some (20 : Int)) else (if (0 ≤ (List.getD x0.2.1 (Int.toNat x1) ((0 : Int), ((0 : Int), ((0 : Int), ((0 : Int), ((0 : Int), (⟨#[]⟩ : ByteArray))))))).1 ∧ (List.getD x0.2.1 (Int.toNat x1) ((0 : Int), ((0 : Int), ((0 : Int), ((0 : Int), ((0 : Int), (⟨#[]⟩ : ByteArray))))))).1 < (List.length x0.1 : Int)) then (if (0 ≤ (List.getD x0.2.1 (Int.toNat x1) ((0 : Int), ((0 : Int), ((0 : Int), ((0 : Int), ((0 : Int), (⟨#[]⟩ : ByteArray))))))).2.1 ∧ (List.getD x0.2.1 (Int.toNat x1) ((0 : Int), ((0 : Int), ((0 : Int), ((0 : Int), ((0 : Int), (⟨#[]⟩ : ByteArray))))))).2.1 < (List.length x0.1 : Int)) then ((f219 k (List.getD x0.1 (Int.toNat (List.getD x0.2.1 (Int.toNat x1) ((0 : Int), ((0 : Int), ((0 : Int), ((0 : Int), ((0 : Int), (⟨#[]⟩ : ByteArray))))))).1) ((0 : Int), ((0 : Int), (0 : Int)))).2 (List.getD x0.1 (Int.toNat (List.getD x0.2.1 (Int.toNat x1) ((0 : Int), ((0 : Int), ((0 : Int), ((0 : Int), ((0 : Int), (⟨#[]⟩ : ByteArray))))))).2.1) ((0 : Int), ((0 : Int), (0 : Int)))).2).bind fun r2 => (if (0 ≤ (List.getD x0.2.1 (Int.toNat x2) ((0 : Int), ((0 : Int), ((0 : Int), ((0 : Int), ((0 : Int), (⟨#[]⟩ : ByteArray))))))).1 ∧ (List.getD x0.2.1 (Int.toNat x2) ((0 : Int), ((0 : Int), ((0 : Int), ((0 : Int), ((0 : Int), (⟨#[]⟩ : ByteArray))))))).1 < (List.length x0.1 : Int)) then (if (0 ≤ (List.getD x0.2.1 (Int.toNat x2) ((0 : Int), ((0 : Int), ((0 : Int), ((0 : Int), ((0 : Int), (⟨#[]⟩ : ByteArray))))))).2.1 ∧ (List.getD x0.2.1 (Int.toNat x2) ((0 : Int), ((0 : Int), ((0 : Int), ((0 : Int), ((0 : Int), (⟨#[]⟩ : ByteArray))))))).2.1 < (List.length x0.1 : Int)) then ((f219 k (List.getD x0.1 (Int.toNat (List.getD x0.2.1 (Int.toNat x2) ((0 : Int), ((0 : Int), ((0 : Int), ((0 : Int), ((0 : Int), (⟨#[]⟩ : ByteArray))))))).1) ((0 : Int), ((0 : Int), (0 : Int)))).2 (List.getD x0.1 (Int.toNat (List.getD x0.2.1 (Int.toNat x2) ((0 : Int), ((0 : Int), ((0 : Int), ((0 : Int), ((0 : Int), (⟨#[]⟩ : ByteArray))))))).2.1) ((0 : Int), ((0 : Int), (0 : Int)))).2).bind fun r3 => (if (bif (decide ((r2 : Int) < (0 : Int))) then true else (decide ((r3 : Int) < (0 : Int)))) then (some (0 : Int)) else (if (((8 : Int) : Int) ≠ 0) then (if (((Int.tmod (IntKind.i64.wrap ((IntKind.i64.wrap (r3 - r2)) + (8 : Int))) (8 : Int)) : Int) == (2 : Int)) then (f162.j9 k r3 r2 (((Int.tmod (IntKind.i64.wrap ((IntKind.i64.wrap (r3 - r2)) + (8 : Int))) (8 : Int)) : Int) == (2 : Int))) else (if (((Int.tmod (IntKind.i64.wrap ((IntKind.i64.wrap (r3 - r2)) + (8 : Int))) (8 : Int)) : Int) == (3 : Int)) then (f162.j9 k r3 r2 (((Int.tmod (IntKind.i64.wrap ((IntKind.i64.wrap (r3 - r2)) + (8 : Int))) (8 : Int)) : Int) == (3 : Int))) else (f162.j9 k r3 r2 (((Int.tmod (IntKind.i64.wrap ((IntKind.i64.wrap (r3 - r2)) + (8 : Int))) (8 : Int)) : Int) == (4 : Int))))) else none))) else none) else none)) else none) else none)) else none) else none))
set_option maxRecDepth 100000 in
/-- 'spec.l10Turn'. -/
theorem c162 (k : Nat) (x0 : ((List (Int × (Int × Int))) × ((List (Int × (Int × (Int × (Int × (Int × ByteArray)))))) × (List (Int × Int))))) (x1 : Int) (x2 : Int) (r : Int) (hF : f162 k x0 x1 x2 = some r) : PCall Try.prog 162 [⟨sh12, x0⟩, ⟨(.int .i64), x1⟩, ⟨(.int .i64), x2⟩] [⟨(.int .i64), r⟩] := by
  refine pcall_intro Try.func162 rfl rfl (Nat.le_of_ble_eq_true rfl) ?_
  intro w0 Zi a w h
  rw [f162] at hF
  refine wp_reg_seq tok (orc := orcL []) (fz := []) (l := [1, 2, 3]) (c := _) (.inr fun i h => h) h (by kernel_rfl) (AllP.nil) ?_
  intro a w h
  refine wp_seq ?_
  obtain ⟨r1, hr21, hF⟩ := of_bind hF
  refine wp_reg_seq tok (orc := orcL [(14, [⟨.bool, r1⟩])]) (fz := []) (l := [1, 2, 3, 14]) (c := _) (.inr fun i h => h) h (by kernel_rfl) (AllP.cons (c218 k x0 x1 x2 r1 hr21) AllP.nil) ?_
  intro a w h
  refine wp_if h (b := r1) (by kernel_rfl) (fun hb => ?_) (fun hb => ?_)
  · replace hF := of_t hb hF
    refine wp_reg_seq tok (orc := orcL []) (fz := []) (l := [6]) (c := _) (.inr fun i h => h) h (by kernel_rfl) (AllP.nil) ?_
    intro a w h
    cases hF
    exact wp_ret (ret_okR tok h rfl (by kernel_rfl)).1
  · replace hF := of_f hb hF
    refine wp_skip ?_
    obtain ⟨hc20, hF⟩ := of_if hF
    refine wp_reg_seq tok (orc := orcL []) (fz := []) (l := [2, 3, 7]) (c := _) (.inr fun i h => h) h (by kernel_rfl) (AllP.cons hc20 AllP.nil) ?_
    intro a w h
    obtain ⟨hc19, hF⟩ := of_if hF
    refine wp_reg_seq tok (orc := orcL []) (fz := []) (l := [3, 7, 8]) (c := _) (.inr fun i h => h) h (by kernel_rfl) (AllP.cons hc19 AllP.nil) ?_
    intro a w h
    refine wp_seq ?_
    refine wp_reg_seq tok (orc := orcL []) (fz := []) (l := [3, 7, 8, 29]) (c := _) (.inr fun i h => h) h (by kernel_rfl) (AllP.nil) ?_
    intro a w h
    refine wp_if h (b := (((List.getD x0.2.1 (Int.toNat x2) ((0 : Int), ((0 : Int), ((0 : Int), ((0 : Int), ((0 : Int), (⟨#[]⟩ : ByteArray))))))).2.1 : Int) == (List.getD x0.2.1 (Int.toNat x1) ((0 : Int), ((0 : Int), ((0 : Int), ((0 : Int), ((0 : Int), (⟨#[]⟩ : ByteArray))))))).1)) (by kernel_rfl) (fun hb => ?_) (fun hb => ?_)
    · replace hF := of_t hb hF
      refine wp_reg_seq tok (orc := orcL []) (fz := []) (l := [6]) (c := _) (.inr fun i h => h) h (by kernel_rfl) (AllP.nil) ?_
      intro a w h
      cases hF
      exact wp_ret (ret_okR tok h rfl (by kernel_rfl)).1
    · replace hF := of_f hb hF
      refine wp_skip ?_
      obtain ⟨hc16, hF⟩ := of_if hF
      obtain ⟨hc17, hF⟩ := of_if hF
      obtain ⟨r2, hr18, hF⟩ := of_bind hF
      refine wp_regy_seq tok (orc := orcL [(44, [⟨(.int .i64), r2⟩])]) (fz := []) (l := [3, 8, 9]) (c := _) ([], [], [], []) 16 (.inr fun i h => h) h (by kernel_rfl) (by kernel_rfl) (AllP.cons hc16 (AllP.cons hc17 (AllP.cons (c219 k (List.getD x0.1 (Int.toNat (List.getD x0.2.1 (Int.toNat x1) ((0 : Int), ((0 : Int), ((0 : Int), ((0 : Int), ((0 : Int), (⟨#[]⟩ : ByteArray))))))).1) ((0 : Int), ((0 : Int), (0 : Int)))).2 (List.getD x0.1 (Int.toNat (List.getD x0.2.1 (Int.toNat x1) ((0 : Int), ((0 : Int), ((0 : Int), ((0 : Int), ((0 : Int), (⟨#[]⟩ : ByteArray))))))).2.1) ((0 : Int), ((0 : Int), (0 : Int)))).2 r2 hr18) AllP.nil))) ?_
      intro a w h
      obtain ⟨hc13, hF⟩ := of_if hF
      obtain ⟨hc14, hF⟩ := of_if hF
      obtain ⟨r3, hr15, hF⟩ := of_bind hF
      refine wp_regy_seq tok (orc := orcL [(59, [⟨(.int .i64), r3⟩])]) (fz := []) (l := [9, 10]) (c := _) ([], [], [], []) 16 (.inr fun i h => h) h (by kernel_rfl) (by kernel_rfl) (AllP.cons hc13 (AllP.cons hc14 (AllP.cons (c219 k (List.getD x0.1 (Int.toNat (List.getD x0.2.1 (Int.toNat x2) ((0 : Int), ((0 : Int), ((0 : Int), ((0 : Int), ((0 : Int), (⟨#[]⟩ : ByteArray))))))).1) ((0 : Int), ((0 : Int), (0 : Int)))).2 (List.getD x0.1 (Int.toNat (List.getD x0.2.1 (Int.toNat x2) ((0 : Int), ((0 : Int), ((0 : Int), ((0 : Int), ((0 : Int), (⟨#[]⟩ : ByteArray))))))).2.1) ((0 : Int), ((0 : Int), (0 : Int)))).2 r3 hr15) AllP.nil))) ?_
      intro a w h
      refine wp_seq ?_
      refine wp_reg_seq tok (orc := orcL []) (fz := []) (l := [9, 10, 65]) (c := _) (.inr fun i h => h) h (by kernel_rfl) (AllP.nil) ?_
      intro a w h
      refine wp_if h (b := (bif (decide ((r2 : Int) < (0 : Int))) then true else (decide ((r3 : Int) < (0 : Int))))) (by kernel_rfl) (fun hb => ?_) (fun hb => ?_)
      · replace hF := of_t hb hF
        refine wp_reg_seq tok (orc := orcL []) (fz := []) (l := [6]) (c := _) (.inr fun i h => h) h (by kernel_rfl) (AllP.nil) ?_
        intro a w h
        cases hF
        exact wp_ret (ret_okR tok h rfl (by kernel_rfl)).1
      · replace hF := of_f hb hF
        refine wp_skip ?_
        refine wp_seq ?_
        obtain ⟨hc12, hF⟩ := of_if hF
        refine wp_reg_seq tok (orc := orcL []) (fz := []) (l := [70]) (c := _) (.inr fun i h => h) h (by kernel_rfl) (AllP.cons hc12 AllP.nil) ?_
        intro a w h
        refine wp_block ?_
        refine wp_seq ?_
        refine wp_reg_seq tok (orc := orcL []) (fz := []) (l := [70, 71]) (c := _) (.inr fun i h => h) h (by kernel_rfl) (AllP.nil) ?_
        intro a w h
        refine wp_midT (fun a w => ∃ v : Bool, f162.j9 k r3 r2 v = some r ∧ Rel w0 (fun _ => False) Zi Try.f162.ntmps ((fun (v8 : Bool) => ([(70, .val (.int .i64) (Int.tmod (IntKind.i64.wrap ((IntKind.i64.wrap (r3 - r2)) + (8 : Int))) (8 : Int))), (71, .val .bool v8)] : SS)) v) a w) ?_ ?_
        ·
          refine wp_if h (b := (((Int.tmod (IntKind.i64.wrap ((IntKind.i64.wrap (r3 - r2)) + (8 : Int))) (8 : Int)) : Int) == (2 : Int))) (by kernel_rfl) (fun hb => ?_) (fun hb => ?_)
          · replace hF := of_t hb hF
            refine wp_skip ?_
            exact ⟨(((Int.tmod (IntKind.i64.wrap ((IntKind.i64.wrap (r3 - r2)) + (8 : Int))) (8 : Int)) : Int) == (2 : Int)), hF, h.arrive (fz := []) (l := [70, 71]) (.inr fun i h => h) (by kernel_rfl)⟩
          · replace hF := of_f hb hF
            refine wp_reg_seq tok (orc := orcL []) (fz := []) (l := [70, 71]) (c := _) (.inr fun i h => h) h (by kernel_rfl) (AllP.nil) ?_
            intro a w h
            refine wp_if h (b := (((Int.tmod (IntKind.i64.wrap ((IntKind.i64.wrap (r3 - r2)) + (8 : Int))) (8 : Int)) : Int) == (3 : Int))) (by kernel_rfl) (fun hb => ?_) (fun hb => ?_)
            · replace hF := of_t hb hF
              refine wp_skip ?_
              exact ⟨(((Int.tmod (IntKind.i64.wrap ((IntKind.i64.wrap (r3 - r2)) + (8 : Int))) (8 : Int)) : Int) == (3 : Int)), hF, h.arrive (fz := []) (l := [70, 71]) (.inr fun i h => h) (by kernel_rfl)⟩
            · replace hF := of_f hb hF
              refine wp_reg tok (orc := orcL []) (fz := []) (l := [70, 71]) (c := _) (.inr fun i h => h) h (by kernel_rfl) (AllP.nil) ?_
              intro a w h
              exact ⟨(((Int.tmod (IntKind.i64.wrap ((IntKind.i64.wrap (r3 - r2)) + (8 : Int))) (8 : Int)) : Int) == (4 : Int)), hF, h.arrive (fz := []) (l := [70, 71]) (.inr fun i h => h) (by kernel_rfl)⟩
        · rintro a w ⟨v8, hF, h⟩
          rw [f162.j9] at hF
          refine wp_if h (b := v8) (by kernel_rfl) (fun hb => ?_) (fun hb => ?_)
          · replace hF := of_t hb hF
            refine wp_reg_seq tok (orc := orcL []) (fz := []) (l := [6]) (c := _) (.inr fun i h => h) h (by kernel_rfl) (AllP.nil) ?_
            intro a w h
            cases hF
            exact wp_ret (ret_okR tok h rfl (by kernel_rfl)).1
          · replace hF := of_f hb hF
            refine wp_seq ?_
            refine wp_reg_seq tok (orc := orcL []) (fz := []) (l := [70, 75]) (c := _) (.inr fun i h => h) h (by kernel_rfl) (AllP.nil) ?_
            intro a w h
            refine wp_midT (fun a w => ∃ v : Bool, f162.j11 k v = some r ∧ Rel w0 (fun _ => False) Zi Try.f162.ntmps ((fun (v10 : Bool) => ([(75, .val .bool v10)] : SS)) v) a w) ?_ ?_
            ·
              refine wp_if h (b := (((Int.tmod (IntKind.i64.wrap ((IntKind.i64.wrap (r3 - r2)) + (8 : Int))) (8 : Int)) : Int) == (5 : Int))) (by kernel_rfl) (fun hb => ?_) (fun hb => ?_)
              · replace hF := of_t hb hF
                refine wp_skip ?_
                exact ⟨(((Int.tmod (IntKind.i64.wrap ((IntKind.i64.wrap (r3 - r2)) + (8 : Int))) (8 : Int)) : Int) == (5 : Int)), hF, h.arrive (fz := []) (l := [75]) (.inr fun i h => h) (by kernel_rfl)⟩
              · replace hF := of_f hb hF
                refine wp_reg tok (orc := orcL []) (fz := []) (l := [75]) (c := _) (.inr fun i h => h) h (by kernel_rfl) (AllP.nil) ?_
                intro a w h
                exact ⟨(((Int.tmod (IntKind.i64.wrap ((IntKind.i64.wrap (r3 - r2)) + (8 : Int))) (8 : Int)) : Int) == (6 : Int)), hF, h.arrive (fz := []) (l := [75]) (.inr fun i h => h) (by kernel_rfl)⟩
            · rintro a w ⟨v10, hF, h⟩
              rw [f162.j11] at hF
              refine wp_if h (b := v10) (by kernel_rfl) (fun hb => ?_) (fun hb => ?_)
              · replace hF := of_t hb hF
                refine wp_reg_seq tok (orc := orcL []) (fz := []) (l := [6]) (c := _) (.inr fun i h => h) h (by kernel_rfl) (AllP.nil) ?_
                intro a w h
                cases hF
                exact wp_ret (ret_okR tok h rfl (by kernel_rfl)).1
              · replace hF := of_f hb hF
                refine wp_skip ?_
                refine wp_reg_seq tok (orc := orcL []) (fz := []) (l := [6]) (c := _) (.inr fun i h => h) h (by kernel_rfl) (AllP.nil) ?_
                intro a w h
                cases hF
                exact wp_ret (ret_okR tok h rfl (by kernel_rfl)).1

def f72.j242 (k : Nat) (v216 : Int) (x1 : (List Int)) (x0 : ((List (Int × (Int × Int))) × ((List (Int × (Int × (Int × (Int × (Int × ByteArray)))))) × (List (Int × Int))))) (q128 : (Int × Int × Int) → Option Int) : Int → Option Int
  | v241 => if (0 ≤ v216 ∧ v216 < (List.length x1 : Int)) then (if (0 ≤ (List.getD x1 (Int.toNat v216) (0 : Int)) ∧ (List.getD x1 (Int.toNat v216) (0 : Int)) < (List.length x0.2.1 : Int)) then (if (0 ≤ v216 ∧ v216 < (List.length x1 : Int)) then (if (0 ≤ (List.getD x1 (Int.toNat v216) (0 : Int)) ∧ (List.getD x1 (Int.toNat v216) (0 : Int)) < (List.length x0.2.1 : Int)) then (q128 ((IntKind.i64.wrap (v241 + (List.getD x0.2.1 (Int.toNat (List.getD x1 (Int.toNat v216) (0 : Int))) ((0 : Int), ((0 : Int), ((0 : Int), ((0 : Int), ((0 : Int), (⟨#[]⟩ : ByteArray))))))).2.2.2.1)), (List.getD x0.2.1 (Int.toNat (List.getD x1 (Int.toNat v216) (0 : Int))) ((0 : Int), ((0 : Int), ((0 : Int), ((0 : Int), ((0 : Int), (⟨#[]⟩ : ByteArray))))))).2.1, (IntKind.i64.wrap (v216 + (1 : Int))))) else none) else none) else none) else none
def f72.l128 (k : Nat) (x1 : (List Int)) (x0 : ((List (Int × (Int × Int))) × ((List (Int × (Int × (Int × (Int × (Int × ByteArray)))))) × (List (Int × Int))))) (x3 : Int) : Nat → (Int × Int × Int) → Option Int
  | 0, _ => none
  | m128 + 1, (v214, v215, v216) => if (decide ((v216 : Int) < (List.length x1 : Int))) then (if (0 ≤ v216 ∧ v216 < (List.length x1 : Int)) then ((f161 k x0 (List.getD x1 (Int.toNat v216) (0 : Int))).bind fun r236 => (if (((!r236) = false) → (0 ≤ v216 ∧ v216 < (List.length x1 : Int))) then (if (((!r236) = false) → (0 ≤ (List.getD x1 (Int.toNat v216) (0 : Int)) ∧ (List.getD x1 (Int.toNat v216) (0 : Int)) < (List.length x0.2.1 : Int))) then (if (bif (!r236) then true else (((List.getD x0.2.1 (Int.toNat (List.getD x1 (Int.toNat v216) (0 : Int))) ((0 : Int), ((0 : Int), ((0 : Int), ((0 : Int), ((0 : Int), (⟨#[]⟩ : ByteArray))))))).1 : Int) != v215)) then (some (-1 : Int)) else (if (decide ((v216 : Int) > (0 : Int))) then (if (0 ≤ (IntKind.i64.wrap (v216 - (1 : Int))) ∧ (IntKind.i64.wrap (v216 - (1 : Int))) < (List.length x1 : Int)) then (if (0 ≤ v216 ∧ v216 < (List.length x1 : Int)) then ((f162 k x0 (List.getD x1 (Int.toNat (IntKind.i64.wrap (v216 - (1 : Int)))) (0 : Int)) (List.getD x1 (Int.toNat v216) (0 : Int))).bind fun r247 => (if (decide ((r247 : Int) < (0 : Int))) then (some (-1 : Int)) else (f72.j242 k v216 x1 x0 ((f72.l128 k x1 x0 x3) m128) (IntKind.i64.wrap (v214 + r247))))) else none) else none) else (f72.j242 k v216 x1 x0 ((f72.l128 k x1 x0 x3) m128) v214))) else none) else none)) else none) else (if ((v215 : Int) != x3) then (some (-1 : Int)) else (some v214))
def f72 (k : Nat) (x0 : ((List (Int × (Int × Int))) × ((List (Int × (Int × (Int × (Int × (Int × ByteArray)))))) × (List (Int × Int))))) (x1 : (List Int)) (x2 : Int) (x3 : Int) : Option Int := f72.l128 k x1 x0 x3 k ((0 : Int), x2, (0 : Int))
set_option maxRecDepth 100000 in
/-- 'spec.l10Time'. -/
theorem c72 (k : Nat) (x0 : ((List (Int × (Int × Int))) × ((List (Int × (Int × (Int × (Int × (Int × ByteArray)))))) × (List (Int × Int))))) (x1 : (List Int)) (x2 : Int) (x3 : Int) (r : Int) (hF : f72 k x0 x1 x2 x3 = some r) : PCall Try.prog 72 [⟨sh12, x0⟩, ⟨(.sl false 2 (.int .i64)), x1⟩, ⟨(.int .i64), x2⟩, ⟨(.int .i64), x3⟩] [⟨(.int .i64), r⟩] := by
  refine pcall_intro Try.func72 rfl rfl (Nat.le_of_ble_eq_true rfl) ?_
  intro w0 Zi a w h
  rw [f72] at hF
  refine wp_reg_seq tok (orc := orcL []) (fz := []) (l := [1, 2, 3, 4]) (c := _) (.inr fun i h => h) h (by kernel_rfl) (AllP.nil) ?_
  intro a w h
  refine wp_reg_seq tok (orc := orcL []) (fz := []) (l := [1, 2, 3, 4, 9]) (c := _) (.inr fun i h => h) h (by kernel_rfl) (AllP.nil) ?_
  intro a w h
  refine wp_reg_seq tok (orc := orcL []) (fz := []) (l := [1, 3, 4, 9, 10]) (c := _) (.inr fun i h => h) h (by kernel_rfl) (AllP.nil) ?_
  intro a w h
  refine wp_seq ?_
  refine wp_reg_seq tok (orc := orcL []) (fz := []) (l := [1, 3, 4, 9, 10, 11]) (c := _) (.inr fun i h => h) h (by kernel_rfl) (AllP.nil) ?_
  intro a w h
  refine wp_block ?_
  refine wp_loop_fuel (f72.l128 k x1 x0 x3) (fun ((v214, v215, v216) : (Int × Int × Int)) => [(1, .val (.sl false 2 (.int .i64)) x1), (3, .val (.int .i64) x3), (4, .val sh11 (some x0)), (9, .val (.int .i64) v214), (10, .val (.int .i64) v215), (11, .val (.int .i64) v216)]) (fun v h => by obtain ⟨v214, v215, v216⟩ := v; rw [f72.l128] at h; cases h) ?_ hF (h.arrive (fz := []) (l := [1, 3, 4, 9, 10, 11]) (.inr fun i h => h) (by kernel_rfl))
  intro m128 v a w hF h
  obtain ⟨v214, v215, v216⟩ := v
  rw [f72.l128] at hF
  refine wp_seq ?_
  refine wp_reg_seq tok (orc := orcL []) (fz := []) (l := [1, 3, 4, 9, 10, 11, 17]) (c := _) (.inr fun i h => h) h (by kernel_rfl) (AllP.nil) ?_
  intro a w h
  refine wp_if h (b := (decide ((v216 : Int) < (List.length x1 : Int)))) (by kernel_rfl) (fun hb => ?_) (fun hb => ?_)
  · replace hF := of_t hb hF
    refine wp_skip ?_
    refine wp_seq <| wp_block ?_
    refine wp_seq ?_
    obtain ⟨hc251, hF⟩ := of_if hF
    obtain ⟨r236, hr252, hF⟩ := of_bind hF
    obtain ⟨hc253, hF⟩ := of_if hF
    obtain ⟨hc254, hF⟩ := of_if hF
    refine wp_regy_seq tok (orc := orcL [(25, [⟨.bool, r236⟩])]) (fz := []) (l := [1, 3, 4, 9, 11, 39]) (c := _) ([], [], [], []) 20 (.inr fun i h => h) h (by kernel_rfl) (by kernel_rfl) (AllP.cons hc251 (AllP.cons (c161 k x0 (List.getD x1 (Int.toNat v216) (0 : Int)) r236 hr252) (AllP.cons hc253 (AllP.cons hc254 AllP.nil)))) ?_
    intro a w h
    refine wp_if h (b := (bif (!r236) then true else (((List.getD x0.2.1 (Int.toNat (List.getD x1 (Int.toNat v216) (0 : Int))) ((0 : Int), ((0 : Int), ((0 : Int), ((0 : Int), ((0 : Int), (⟨#[]⟩ : ByteArray))))))).1 : Int) != v215))) (by kernel_rfl) (fun hb => ?_) (fun hb => ?_)
    · replace hF := of_t hb hF
      refine wp_reg_seq tok (orc := orcL []) (fz := []) (l := [8]) (c := _) (.inr fun i h => h) h (by kernel_rfl) (AllP.nil) ?_
      intro a w h
      cases hF
      exact wp_ret (ret_okR tok h rfl (by kernel_rfl)).1
    · replace hF := of_f hb hF
      refine wp_skip ?_
      refine wp_seq ?_
      refine wp_reg_seq tok (orc := orcL []) (fz := []) (l := [1, 3, 4, 9, 11, 41]) (c := _) (.inr fun i h => h) h (by kernel_rfl) (AllP.nil) ?_
      intro a w h
      refine wp_midT (fun a w => ∃ v : Int, f72.j242 k v216 x1 x0 ((f72.l128 k x1 x0 x3) m128) v = some r ∧ Rel w0 (fun _ => False) Zi Try.f72.ntmps ((fun (v241 : Int) => ([(1, .val (.sl false 2 (.int .i64)) x1), (3, .val (.int .i64) x3), (4, .val sh11 (some x0)), (9, .val (.int .i64) v241), (11, .val (.int .i64) v216)] : SS)) v) a w) ?_ ?_
      ·
        refine wp_if h (b := (decide ((v216 : Int) > (0 : Int)))) (by kernel_rfl) (fun hb => ?_) (fun hb => ?_)
        · replace hF := of_t hb hF
          obtain ⟨hc248, hF⟩ := of_if hF
          obtain ⟨hc249, hF⟩ := of_if hF
          obtain ⟨r247, hr250, hF⟩ := of_bind hF
          refine wp_regy_seq tok (orc := orcL [(52, [⟨(.int .i64), r247⟩])]) (fz := []) (l := [1, 3, 4, 9, 11, 12]) (c := _) ([], [], [], []) 12 (.inr fun i h => h) h (by kernel_rfl) (by kernel_rfl) (AllP.cons hc248 (AllP.cons hc249 (AllP.cons (c162 k x0 (List.getD x1 (Int.toNat (IntKind.i64.wrap (v216 - (1 : Int)))) (0 : Int)) (List.getD x1 (Int.toNat v216) (0 : Int)) r247 hr250) AllP.nil))) ?_
          intro a w h
          refine wp_seq ?_
          refine wp_reg_seq tok (orc := orcL []) (fz := []) (l := [1, 3, 4, 9, 11, 12, 54]) (c := _) (.inr fun i h => h) h (by kernel_rfl) (AllP.nil) ?_
          intro a w h
          refine wp_if h (b := (decide ((r247 : Int) < (0 : Int)))) (by kernel_rfl) (fun hb => ?_) (fun hb => ?_)
          · replace hF := of_t hb hF
            refine wp_reg_seq tok (orc := orcL []) (fz := []) (l := [8]) (c := _) (.inr fun i h => h) h (by kernel_rfl) (AllP.nil) ?_
            intro a w h
            cases hF
            exact wp_ret (ret_okR tok h rfl (by kernel_rfl)).1
          · replace hF := of_f hb hF
            refine wp_skip ?_
            refine wp_reg tok (orc := orcL []) (fz := []) (l := [1, 3, 4, 9, 11]) (c := _) (.inr fun i h => h) h (by kernel_rfl) (AllP.nil) ?_
            intro a w h
            exact ⟨(IntKind.i64.wrap (v214 + r247)), hF, h.arrive (fz := []) (l := [1, 3, 4, 9, 11]) (.inr fun i h => h) (by kernel_rfl)⟩
        · replace hF := of_f hb hF
          refine wp_skip ?_
          exact ⟨v214, hF, h.arrive (fz := []) (l := [1, 3, 4, 9, 11]) (.inr fun i h => h) (by kernel_rfl)⟩
      · rintro a w ⟨v241, hF, h⟩
        rw [f72.j242] at hF
        obtain ⟨hc245, hF⟩ := of_if hF
        obtain ⟨hc246, hF⟩ := of_if hF
        refine wp_regy_seq tok (orc := orcL []) (fz := []) (l := [1, 3, 4, 9, 11]) (c := _) ([], [], [], []) 12 (.inr fun i h => h) h (by kernel_rfl) (by kernel_rfl) (AllP.cons hc245 (AllP.cons hc246 AllP.nil)) ?_
        intro a w h
        obtain ⟨hc243, hF⟩ := of_if hF
        obtain ⟨hc244, hF⟩ := of_if hF
        refine wp_regy tok (orc := orcL []) (fz := []) (l := [1, 3, 4, 9, 10, 11]) (c := _) ([], [], [], []) 10 (.inr fun i h => h) h (by kernel_rfl) (by kernel_rfl) (AllP.cons hc243 (AllP.cons hc244 AllP.nil)) ?_
        intro a w h
        refine wp_reg tok (orc := orcL []) (fz := []) (l := [1, 3, 4, 9, 10, 11]) (c := _) (.inr fun i h => h) h (by kernel_rfl) (AllP.nil) ?_
        intro a w h
        exact ⟨((IntKind.i64.wrap (v241 + (List.getD x0.2.1 (Int.toNat (List.getD x1 (Int.toNat v216) (0 : Int))) ((0 : Int), ((0 : Int), ((0 : Int), ((0 : Int), ((0 : Int), (⟨#[]⟩ : ByteArray))))))).2.2.2.1)), (List.getD x0.2.1 (Int.toNat (List.getD x1 (Int.toNat v216) (0 : Int))) ((0 : Int), ((0 : Int), ((0 : Int), ((0 : Int), ((0 : Int), (⟨#[]⟩ : ByteArray))))))).2.1, (IntKind.i64.wrap (v216 + (1 : Int)))), hF, h.arrive (fz := []) (l := [1, 3, 4, 9, 10, 11]) (.inr fun i h => h) (by kernel_rfl)⟩
  · replace hF := of_f hb hF
    refine wp_exit ?_
    refine wp_seq ?_
    refine wp_reg_seq tok (orc := orcL []) (fz := []) (l := [9, 80]) (c := _) (.inr fun i h => h) h (by kernel_rfl) (AllP.nil) ?_
    intro a w h
    refine wp_if h (b := ((v215 : Int) != x3)) (by kernel_rfl) (fun hb => ?_) (fun hb => ?_)
    · replace hF := of_t hb hF
      refine wp_reg_seq tok (orc := orcL []) (fz := []) (l := [8]) (c := _) (.inr fun i h => h) h (by kernel_rfl) (AllP.nil) ?_
      intro a w h
      cases hF
      exact wp_ret (ret_okR tok h rfl (by kernel_rfl)).1
    · replace hF := of_f hb hF
      refine wp_skip ?_
      refine wp_reg_seq tok (orc := orcL []) (fz := []) (l := [8]) (c := _) (.inr fun i h => h) h (by kernel_rfl) (AllP.nil) ?_
      intro a w h
      cases hF
      exact wp_ret (ret_okR tok h rfl (by kernel_rfl)).1

def f73.j109 (k : Nat) (v97 : (List (List Int))) (v98 : Int) (q58 : ((List (List Int)) × Int) → Option (List (List Int))) : Int → Option (List (List Int))
  | v108 => if (0 ≤ v108 ∧ v108 < (List.length v97 : Int)) then (if ((List.length (List.getD v97 (Int.toNat v108) ([] : (List Int))) + List.length [v98]) * 8 ≤ 140737488355328) then (if (0 ≤ v108 ∧ v108 < (List.length v97 : Int)) then (q58 ((List.set v97 (Int.toNat v108) (List.append (List.getD v97 (Int.toNat v108) ([] : (List Int))) [v98])), (IntKind.i64.wrap (v98 + (1 : Int))))) else none) else none) else none
def f73.l58 (k : Nat) (x0 : ((List (Int × (Int × Int))) × ((List (Int × (Int × (Int × (Int × (Int × ByteArray)))))) × (List (Int × Int))))) (x1 : Bool) : Nat → ((List (List Int)) × Int) → Option (List (List Int))
  | 0, _ => none
  | m58 + 1, (v97, v98) => if (decide ((v98 : Int) < (List.length x0.2.1 : Int))) then (if (0 ≤ v98 ∧ v98 < (List.length x0.2.1 : Int)) then (if x1 then (if (0 ≤ v98 ∧ v98 < (List.length x0.2.1 : Int)) then (f73.j109 k v97 v98 ((f73.l58 k x0 x1) m58) (List.getD x0.2.1 (Int.toNat v98) ((0 : Int), ((0 : Int), ((0 : Int), ((0 : Int), ((0 : Int), (⟨#[]⟩ : ByteArray))))))).2.1) else none) else (f73.j109 k v97 v98 ((f73.l58 k x0 x1) m58) (List.getD x0.2.1 (Int.toNat v98) ((0 : Int), ((0 : Int), ((0 : Int), ((0 : Int), ((0 : Int), (⟨#[]⟩ : ByteArray))))))).1)) else none) else (some v97)
def f73 (k : Nat) (x0 : ((List (Int × (Int × Int))) × ((List (Int × (Int × (Int × (Int × (Int × ByteArray)))))) × (List (Int × Int))))) (x1 : Bool) : Option (List (List Int)) := if (0 ≤ (List.length x0.1 : Int) ∧ Int.toNat (List.length x0.1 : Int) * 24 ≤ 140737488355328) then (f73.l58 k x0 x1 k ((List.replicate (Int.toNat (List.length x0.1 : Int)) ([] : (List Int))), (0 : Int))) else none
set_option maxRecDepth 100000 in
/-- 'spec.l10At'. -/
theorem c73 (k : Nat) (x0 : ((List (Int × (Int × Int))) × ((List (Int × (Int × (Int × (Int × (Int × ByteArray)))))) × (List (Int × Int))))) (x1 : Bool) (r : (List (List Int))) (hF : f73 k x0 x1 = some r) : PCall Try.prog 73 [⟨sh12, x0⟩, ⟨.bool, x1⟩] [⟨sh14, r⟩] := by
  refine pcall_intro Try.func73 rfl rfl (Nat.le_of_ble_eq_true rfl) ?_
  intro w0 Zi a w h
  rw [f73] at hF
  refine wp_reg_seq tok (orc := orcL []) (fz := []) (l := [1, 2]) (c := _) (.inr fun i h => h) h (by kernel_rfl) (AllP.nil) ?_
  intro a w h
  obtain ⟨hc115, hF⟩ := of_if hF
  refine wp_reg_seq tok (orc := orcL []) (fz := []) (l := [1, 2, 5]) (c := _) (.inr fun i h => h) h (by kernel_rfl) (AllP.cons hc115 AllP.nil) ?_
  intro a w h
  refine wp_seq ?_
  refine wp_reg_seq tok (orc := orcL []) (fz := []) (l := [1, 2, 5, 6]) (c := _) (.inr fun i h => h) h (by kernel_rfl) (AllP.nil) ?_
  intro a w h
  refine wp_block ?_
  refine wp_loop_fuel (f73.l58 k x0 x1) (fun ((v97, v98) : ((List (List Int)) × Int)) => [(1, .val .bool x1), (2, .val sh11 (some x0)), (5, .val sh14 v97), (6, .val (.int .i64) v98)]) (fun v h => by obtain ⟨v97, v98⟩ := v; rw [f73.l58] at h; cases h) ?_ hF (h.arrive (fz := []) (l := [1, 2, 5, 6]) (.inr fun i h => h) (by kernel_rfl))
  intro m58 v a w hF h
  obtain ⟨v97, v98⟩ := v
  rw [f73.l58] at hF
  refine wp_seq ?_
  refine wp_reg_seq tok (orc := orcL []) (fz := []) (l := [1, 2, 5, 6, 16]) (c := _) (.inr fun i h => h) h (by kernel_rfl) (AllP.nil) ?_
  intro a w h
  refine wp_if h (b := (decide ((v98 : Int) < (List.length x0.2.1 : Int)))) (by kernel_rfl) (fun hb => ?_) (fun hb => ?_)
  · replace hF := of_t hb hF
    refine wp_skip ?_
    refine wp_seq <| wp_block ?_
    obtain ⟨hc114, hF⟩ := of_if hF
    refine wp_reg_seq tok (orc := orcL []) (fz := []) (l := [1, 2, 5, 6, 7]) (c := _) (.inr fun i h => h) h (by kernel_rfl) (AllP.cons hc114 AllP.nil) ?_
    intro a w h
    refine wp_seq ?_
    refine wp_reg_seq tok (orc := orcL []) (fz := []) (l := [1, 2, 5, 6, 7, 25]) (c := _) (.inr fun i h => h) h (by kernel_rfl) (AllP.nil) ?_
    intro a w h
    refine wp_midT (fun a w => ∃ v : Int, f73.j109 k v97 v98 ((f73.l58 k x0 x1) m58) v = some r ∧ Rel w0 (fun _ => False) Zi Try.f73.ntmps ((fun (v108 : Int) => ([(1, .val .bool x1), (2, .val sh11 (some x0)), (5, .val sh14 v97), (6, .val (.int .i64) v98), (7, .val (.int .i64) v108)] : SS)) v) a w) ?_ ?_
    ·
      refine wp_if h (b := x1) (by kernel_rfl) (fun hb => ?_) (fun hb => ?_)
      · replace hF := of_t hb hF
        obtain ⟨hc113, hF⟩ := of_if hF
        refine wp_reg tok (orc := orcL []) (fz := []) (l := [1, 2, 5, 6, 7]) (c := _) (.inr fun i h => h) h (by kernel_rfl) (AllP.cons hc113 AllP.nil) ?_
        intro a w h
        exact ⟨(List.getD x0.2.1 (Int.toNat v98) ((0 : Int), ((0 : Int), ((0 : Int), ((0 : Int), ((0 : Int), (⟨#[]⟩ : ByteArray))))))).2.1, hF, h.arrive (fz := []) (l := [1, 2, 5, 6, 7]) (.inr fun i h => h) (by kernel_rfl)⟩
      · replace hF := of_f hb hF
        refine wp_skip ?_
        exact ⟨(List.getD x0.2.1 (Int.toNat v98) ((0 : Int), ((0 : Int), ((0 : Int), ((0 : Int), ((0 : Int), (⟨#[]⟩ : ByteArray))))))).1, hF, h.arrive (fz := []) (l := [1, 2, 5, 6, 7]) (.inr fun i h => h) (by kernel_rfl)⟩
    · rintro a w ⟨v108, hF, h⟩
      rw [f73.j109] at hF
      obtain ⟨hc110, hF⟩ := of_if hF
      obtain ⟨hc111, hF⟩ := of_if hF
      obtain ⟨hc112, hF⟩ := of_if hF
      refine wp_reg tok (orc := orcL [(40, [⟨.pt false 4294967293 .unit, some ()⟩])]) (fz := []) (l := [1, 2, 5, 6]) (c := _) (.inr fun i h => h) h (by kernel_rfl) (AllP.cons hc110 (AllP.cons (PrefL.mk (l := [[], [], [.idx (Int.toNat v108)], [.idx (Int.toNat v108)]]) (p := [.idx (Int.toNat v108)]) rfl) (AllP.cons hc111 (AllP.cons hc112 (AllP.cons (show ([.idx (Int.toNat v108)] : Path) = [.idx (Int.toNat v108)] from rfl) AllP.nil))))) ?_
      intro a w h
      refine wp_reg tok (orc := orcL []) (fz := []) (l := [1, 2, 5, 6]) (c := _) (.inr fun i h => h) h (by kernel_rfl) (AllP.nil) ?_
      intro a w h
      exact ⟨((List.set v97 (Int.toNat v108) (List.append (List.getD v97 (Int.toNat v108) ([] : (List Int))) [v98])), (IntKind.i64.wrap (v98 + (1 : Int)))), hF, h.arrive (fz := []) (l := [1, 2, 5, 6]) (.inr fun i h => h) (by kernel_rfl)⟩
  · replace hF := of_f hb hF
    refine wp_exit ?_
    refine wp_reg_seq tok (orc := orcL []) (fz := []) (l := [4, 5]) (c := _) (.inr fun i h => h) h (by kernel_rfl) (AllP.nil) ?_
    intro a w h
    cases hF
    exact wp_ret (ret_okR tok h rfl (by kernel_rfl)).1

def f163.j85 (k : Nat) (v78 : Int) (q46 : ((List Int) × Int) → Option (List Int)) : (List Int) → Option (List Int)
  | v84 => q46 (v84, (IntKind.i64.wrap (v78 + (1 : Int))))
def f163.l46 (k : Nat) (x1 : (List (List Int))) (x0 : ((List (Int × (Int × Int))) × ((List (Int × (Int × (Int × (Int × (Int × ByteArray)))))) × (List (Int × Int))))) (x2 : Int) : Nat → ((List Int) × Int) → Option (List Int)
  | 0, _ => none
  | m46 + 1, (v77, v78) => if (decide ((v78 : Int) < (List.length (List.getD x1 (Int.toNat (List.getD x0.2.1 (Int.toNat x2) ((0 : Int), ((0 : Int), ((0 : Int), ((0 : Int), ((0 : Int), (⟨#[]⟩ : ByteArray))))))).2.1) ([] : (List Int))) : Int))) then (if (0 ≤ v78 ∧ v78 < (List.length (List.getD x1 (Int.toNat (List.getD x0.2.1 (Int.toNat x2) ((0 : Int), ((0 : Int), ((0 : Int), ((0 : Int), ((0 : Int), (⟨#[]⟩ : ByteArray))))))).2.1) ([] : (List Int))) : Int)) then ((f218 k x0 x2 (List.getD (List.getD x1 (Int.toNat (List.getD x0.2.1 (Int.toNat x2) ((0 : Int), ((0 : Int), ((0 : Int), ((0 : Int), ((0 : Int), (⟨#[]⟩ : ByteArray))))))).2.1) ([] : (List Int))) (Int.toNat v78) (0 : Int))).bind fun r86 => (if (!r86) then (if (0 ≤ v78 ∧ v78 < (List.length (List.getD x1 (Int.toNat (List.getD x0.2.1 (Int.toNat x2) ((0 : Int), ((0 : Int), ((0 : Int), ((0 : Int), ((0 : Int), (⟨#[]⟩ : ByteArray))))))).2.1) ([] : (List Int))) : Int)) then (if ((List.length v77 + List.length [(List.getD (List.getD x1 (Int.toNat (List.getD x0.2.1 (Int.toNat x2) ((0 : Int), ((0 : Int), ((0 : Int), ((0 : Int), ((0 : Int), (⟨#[]⟩ : ByteArray))))))).2.1) ([] : (List Int))) (Int.toNat v78) (0 : Int))]) * 8 ≤ 140737488355328) then (f163.j85 k v78 ((f163.l46 k x1 x0 x2) m46) (v77 ++ [(List.getD (List.getD x1 (Int.toNat (List.getD x0.2.1 (Int.toNat x2) ((0 : Int), ((0 : Int), ((0 : Int), ((0 : Int), ((0 : Int), (⟨#[]⟩ : ByteArray))))))).2.1) ([] : (List Int))) (Int.toNat v78) (0 : Int))])) else none) else none) else (f163.j85 k v78 ((f163.l46 k x1 x0 x2) m46) v77))) else none) else (some v77)
def f163 (k : Nat) (x0 : ((List (Int × (Int × Int))) × ((List (Int × (Int × (Int × (Int × (Int × ByteArray)))))) × (List (Int × Int))))) (x1 : (List (List Int))) (x2 : Int) : Option (List Int) := if (0 ≤ x2 ∧ x2 < (List.length x0.2.1 : Int)) then (if (0 ≤ (List.getD x0.2.1 (Int.toNat x2) ((0 : Int), ((0 : Int), ((0 : Int), ((0 : Int), ((0 : Int), (⟨#[]⟩ : ByteArray))))))).2.1 ∧ (List.getD x0.2.1 (Int.toNat x2) ((0 : Int), ((0 : Int), ((0 : Int), ((0 : Int), ((0 : Int), (⟨#[]⟩ : ByteArray))))))).2.1 < (List.length x1 : Int)) then (f163.l46 k x1 x0 x2 k (([] : List Int), (0 : Int))) else none) else none
set_option maxRecDepth 100000 in
/-- 'spec.l17Next'. -/
theorem c163 (k : Nat) (x0 : ((List (Int × (Int × Int))) × ((List (Int × (Int × (Int × (Int × (Int × ByteArray)))))) × (List (Int × Int))))) (x1 : (List (List Int))) (x2 : Int) (r : (List Int)) (hF : f163 k x0 x1 x2 = some r) : PCall Try.prog 163 [⟨sh12, x0⟩, ⟨sh15, x1⟩, ⟨(.int .i64), x2⟩] [⟨(.sl true 2 (.int .i64)), r⟩] := by
  refine pcall_intro Try.func163 rfl rfl (Nat.le_of_ble_eq_true rfl) ?_
  intro w0 Zi a w h
  rw [f163] at hF
  refine wp_reg_seq tok (orc := orcL []) (fz := []) (l := [1, 2, 3]) (c := _) (.inr fun i h => h) h (by kernel_rfl) (AllP.nil) ?_
  intro a w h
  refine wp_reg_seq tok (orc := orcL []) (fz := []) (l := [1, 2, 3, 7]) (c := _) (.inr fun i h => h) h (by kernel_rfl) (AllP.nil) ?_
  intro a w h
  obtain ⟨hc91, hF⟩ := of_if hF
  obtain ⟨hc92, hF⟩ := of_if hF
  refine wp_reg_seq tok (orc := orcL []) (fz := []) (l := [2, 3, 7, 8]) (c := _) (.inr fun i h => h) h (by kernel_rfl) (AllP.cons hc91 (AllP.cons hc92 AllP.nil)) ?_
  intro a w h
  refine wp_seq ?_
  refine wp_reg_seq tok (orc := orcL []) (fz := []) (l := [2, 3, 7, 8, 9]) (c := _) (.inr fun i h => h) h (by kernel_rfl) (AllP.nil) ?_
  intro a w h
  refine wp_block ?_
  refine wp_loop_fuel (f163.l46 k x1 x0 x2) (fun ((v77, v78) : ((List Int) × Int)) => [(2, .val (.int .i64) x2), (3, .val sh11 (some x0)), (7, .val (.sl true 2 (.int .i64)) v77), (8, .val (.sl false 2 (.int .i64)) (List.getD x1 (Int.toNat (List.getD x0.2.1 (Int.toNat x2) ((0 : Int), ((0 : Int), ((0 : Int), ((0 : Int), ((0 : Int), (⟨#[]⟩ : ByteArray))))))).2.1) ([] : (List Int)))), (9, .val (.int .i64) v78)]) (fun v h => by obtain ⟨v77, v78⟩ := v; rw [f163.l46] at h; cases h) ?_ hF (h.arrive (fz := []) (l := [2, 3, 7, 8, 9]) (.inr fun i h => h) (by kernel_rfl))
  intro m46 v a w hF h
  obtain ⟨v77, v78⟩ := v
  rw [f163.l46] at hF
  refine wp_seq ?_
  refine wp_reg_seq tok (orc := orcL []) (fz := []) (l := [2, 3, 7, 8, 9, 23]) (c := _) (.inr fun i h => h) h (by kernel_rfl) (AllP.nil) ?_
  intro a w h
  refine wp_if h (b := (decide ((v78 : Int) < (List.length (List.getD x1 (Int.toNat (List.getD x0.2.1 (Int.toNat x2) ((0 : Int), ((0 : Int), ((0 : Int), ((0 : Int), ((0 : Int), (⟨#[]⟩ : ByteArray))))))).2.1) ([] : (List Int))) : Int)))) (by kernel_rfl) (fun hb => ?_) (fun hb => ?_)
  · replace hF := of_t hb hF
    refine wp_skip ?_
    refine wp_mid (fun a w => ∃ v : (List Int), f163.j85 k v78 ((f163.l46 k x1 x0 x2) m46) v = some r ∧ Rel w0 (fun _ => False) Zi Try.f163.ntmps ((fun (v84 : (List Int)) => ([(2, .val (.int .i64) x2), (3, .val sh11 (some x0)), (7, .val (.sl true 2 (.int .i64)) v84), (8, .val (.sl false 2 (.int .i64)) (List.getD x1 (Int.toNat (List.getD x0.2.1 (Int.toNat x2) ((0 : Int), ((0 : Int), ((0 : Int), ((0 : Int), ((0 : Int), (⟨#[]⟩ : ByteArray))))))).2.1) ([] : (List Int)))), (9, .val (.int .i64) v78)] : SS)) v) a w) ?_ ?_
    ·
      refine wp_block ?_
      obtain ⟨hc89, hF⟩ := of_if hF
      obtain ⟨r86, hr90, hF⟩ := of_bind hF
      refine wp_regy_seq tok (orc := orcL [(32, [⟨.bool, r86⟩])]) (fz := []) (l := [2, 3, 7, 8, 9, 33]) (c := _) ([], [], [], []) 8 (.inr fun i h => h) h (by kernel_rfl) (by kernel_rfl) (AllP.cons hc89 (AllP.cons (c218 k x0 x2 (List.getD (List.getD x1 (Int.toNat (List.getD x0.2.1 (Int.toNat x2) ((0 : Int), ((0 : Int), ((0 : Int), ((0 : Int), ((0 : Int), (⟨#[]⟩ : ByteArray))))))).2.1) ([] : (List Int))) (Int.toNat v78) (0 : Int)) r86 hr90) AllP.nil)) ?_
      intro a w h
      refine wp_if h (b := (!r86)) (by kernel_rfl) (fun hb => ?_) (fun hb => ?_)
      · replace hF := of_t hb hF
        obtain ⟨hc87, hF⟩ := of_if hF
        obtain ⟨hc88, hF⟩ := of_if hF
        refine wp_reg tok (orc := orcL []) (fz := []) (l := [2, 3, 7, 8, 9]) (c := _) (.inr fun i h => h) h (by kernel_rfl) (AllP.cons hc87 (AllP.cons hc88 AllP.nil)) ?_
        intro a w h
        exact ⟨(v77 ++ [(List.getD (List.getD x1 (Int.toNat (List.getD x0.2.1 (Int.toNat x2) ((0 : Int), ((0 : Int), ((0 : Int), ((0 : Int), ((0 : Int), (⟨#[]⟩ : ByteArray))))))).2.1) ([] : (List Int))) (Int.toNat v78) (0 : Int))]), hF, h.arrive (fz := []) (l := [2, 3, 7, 8, 9]) (.inr fun i h => h) (by kernel_rfl)⟩
      · replace hF := of_f hb hF
        refine wp_skip ?_
        exact ⟨v77, hF, h.arrive (fz := []) (l := [2, 3, 7, 8, 9]) (.inr fun i h => h) (by kernel_rfl)⟩
    · rintro a w ⟨v84, hF, h⟩
      rw [f163.j85] at hF
      refine wp_reg tok (orc := orcL []) (fz := []) (l := [2, 3, 7, 8, 9]) (c := _) (.inr fun i h => h) h (by kernel_rfl) (AllP.nil) ?_
      intro a w h
      exact ⟨(v84, (IntKind.i64.wrap (v78 + (1 : Int)))), hF, h.arrive (fz := []) (l := [2, 3, 7, 8, 9]) (.inr fun i h => h) (by kernel_rfl)⟩
  · replace hF := of_f hb hF
    refine wp_exit ?_
    refine wp_reg_seq tok (orc := orcL []) (fz := []) (l := [6, 7]) (c := _) (.inr fun i h => h) h (by kernel_rfl) (AllP.nil) ?_
    intro a w h
    cases hF
    exact wp_ret (ret_okR tok h rfl (by kernel_rfl)).1

def f164 (k : Nat) (x0 : ((List (Int × (Int × Int))) × ((List (Int × (Int × (Int × (Int × (Int × ByteArray)))))) × (List (Int × Int))))) (x1 : Int) (x2 : Int) : Option Int := if (0 ≤ x1 ∧ x1 < (List.length x0.2.1 : Int)) then (if (0 ≤ x2 ∧ x2 < (List.length x0.2.1 : Int)) then (if (((List.getD x0.2.1 (Int.toNat x2) ((0 : Int), ((0 : Int), ((0 : Int), ((0 : Int), ((0 : Int), (⟨#[]⟩ : ByteArray))))))).2.1 : Int) == (List.getD x0.2.1 (Int.toNat x1) ((0 : Int), ((0 : Int), ((0 : Int), ((0 : Int), ((0 : Int), (⟨#[]⟩ : ByteArray))))))).1) then (some (8 : Int)) else (if (0 ≤ (List.getD x0.2.1 (Int.toNat x1) ((0 : Int), ((0 : Int), ((0 : Int), ((0 : Int), ((0 : Int), (⟨#[]⟩ : ByteArray))))))).1 ∧ (List.getD x0.2.1 (Int.toNat x1) ((0 : Int), ((0 : Int), ((0 : Int), ((0 : Int), ((0 : Int), (⟨#[]⟩ : ByteArray))))))).1 < (List.length x0.1 : Int)) then (if (0 ≤ (List.getD x0.2.1 (Int.toNat x1) ((0 : Int), ((0 : Int), ((0 : Int), ((0 : Int), ((0 : Int), (⟨#[]⟩ : ByteArray))))))).2.1 ∧ (List.getD x0.2.1 (Int.toNat x1) ((0 : Int), ((0 : Int), ((0 : Int), ((0 : Int), ((0 : Int), (⟨#[]⟩ : ByteArray))))))).2.1 < (List.length x0.1 : Int)) then ((f219 k (List.getD x0.1 (Int.toNat (List.getD x0.2.1 (Int.toNat x1) ((0 : Int), ((0 : Int), ((0 : Int), ((0 : Int), ((0 : Int), (⟨#[]⟩ : ByteArray))))))).1) ((0 : Int), ((0 : Int), (0 : Int)))).2 (List.getD x0.1 (Int.toNat (List.getD x0.2.1 (Int.toNat x1) ((0 : Int), ((0 : Int), ((0 : Int), ((0 : Int), ((0 : Int), (⟨#[]⟩ : ByteArray))))))).2.1) ((0 : Int), ((0 : Int), (0 : Int)))).2).bind fun r1 => (if (0 ≤ (List.getD x0.2.1 (Int.toNat x2) ((0 : Int), ((0 : Int), ((0 : Int), ((0 : Int), ((0 : Int), (⟨#[]⟩ : ByteArray))))))).1 ∧ (List.getD x0.2.1 (Int.toNat x2) ((0 : Int), ((0 : Int), ((0 : Int), ((0 : Int), ((0 : Int), (⟨#[]⟩ : ByteArray))))))).1 < (List.length x0.1 : Int)) then (if (0 ≤ (List.getD x0.2.1 (Int.toNat x2) ((0 : Int), ((0 : Int), ((0 : Int), ((0 : Int), ((0 : Int), (⟨#[]⟩ : ByteArray))))))).2.1 ∧ (List.getD x0.2.1 (Int.toNat x2) ((0 : Int), ((0 : Int), ((0 : Int), ((0 : Int), ((0 : Int), (⟨#[]⟩ : ByteArray))))))).2.1 < (List.length x0.1 : Int)) then ((f219 k (List.getD x0.1 (Int.toNat (List.getD x0.2.1 (Int.toNat x2) ((0 : Int), ((0 : Int), ((0 : Int), ((0 : Int), ((0 : Int), (⟨#[]⟩ : ByteArray))))))).1) ((0 : Int), ((0 : Int), (0 : Int)))).2 (List.getD x0.1 (Int.toNat (List.getD x0.2.1 (Int.toNat x2) ((0 : Int), ((0 : Int), ((0 : Int), ((0 : Int), ((0 : Int), (⟨#[]⟩ : ByteArray))))))).2.1) ((0 : Int), ((0 : Int), (0 : Int)))).2).bind fun r2 => (if (bif (decide ((r1 : Int) < (0 : Int))) then true else (decide ((r2 : Int) < (0 : Int)))) then (some (0 : Int)) else (if (((8 : Int) : Int) ≠ 0) then (some (Int.tmod (IntKind.i64.wrap ((IntKind.i64.wrap (r2 - r1)) + (8 : Int))) (8 : Int))) else none))) else none) else none)) else none) else none)) else none) else none
set_option maxRecDepth 100000 in
/-- 'spec.l17Wind'. -/
theorem c164 (k : Nat) (x0 : ((List (Int × (Int × Int))) × ((List (Int × (Int × (Int × (Int × (Int × ByteArray)))))) × (List (Int × Int))))) (x1 : Int) (x2 : Int) (r : Int) (hF : f164 k x0 x1 x2 = some r) : PCall Try.prog 164 [⟨sh12, x0⟩, ⟨(.int .i64), x1⟩, ⟨(.int .i64), x2⟩] [⟨(.int .i64), r⟩] := by
  refine pcall_intro Try.func164 rfl rfl (Nat.le_of_ble_eq_true rfl) ?_
  intro w0 Zi a w h
  rw [f164] at hF
  refine wp_reg_seq tok (orc := orcL []) (fz := []) (l := [1, 2, 3]) (c := _) (.inr fun i h => h) h (by kernel_rfl) (AllP.nil) ?_
  intro a w h
  obtain ⟨hc11, hF⟩ := of_if hF
  refine wp_reg_seq tok (orc := orcL []) (fz := []) (l := [2, 3, 7]) (c := _) (.inr fun i h => h) h (by kernel_rfl) (AllP.cons hc11 AllP.nil) ?_
  intro a w h
  obtain ⟨hc10, hF⟩ := of_if hF
  refine wp_reg_seq tok (orc := orcL []) (fz := []) (l := [3, 7, 8]) (c := _) (.inr fun i h => h) h (by kernel_rfl) (AllP.cons hc10 AllP.nil) ?_
  intro a w h
  refine wp_seq ?_
  refine wp_reg_seq tok (orc := orcL []) (fz := []) (l := [3, 7, 8, 25]) (c := _) (.inr fun i h => h) h (by kernel_rfl) (AllP.nil) ?_
  intro a w h
  refine wp_if h (b := (((List.getD x0.2.1 (Int.toNat x2) ((0 : Int), ((0 : Int), ((0 : Int), ((0 : Int), ((0 : Int), (⟨#[]⟩ : ByteArray))))))).2.1 : Int) == (List.getD x0.2.1 (Int.toNat x1) ((0 : Int), ((0 : Int), ((0 : Int), ((0 : Int), ((0 : Int), (⟨#[]⟩ : ByteArray))))))).1)) (by kernel_rfl) (fun hb => ?_) (fun hb => ?_)
  · replace hF := of_t hb hF
    refine wp_reg_seq tok (orc := orcL []) (fz := []) (l := [6]) (c := _) (.inr fun i h => h) h (by kernel_rfl) (AllP.nil) ?_
    intro a w h
    cases hF
    exact wp_ret (ret_okR tok h rfl (by kernel_rfl)).1
  · replace hF := of_f hb hF
    refine wp_skip ?_
    obtain ⟨hc7, hF⟩ := of_if hF
    obtain ⟨hc8, hF⟩ := of_if hF
    obtain ⟨r1, hr9, hF⟩ := of_bind hF
    refine wp_regy_seq tok (orc := orcL [(40, [⟨(.int .i64), r1⟩])]) (fz := []) (l := [3, 8, 9]) (c := _) ([], [], [], []) 16 (.inr fun i h => h) h (by kernel_rfl) (by kernel_rfl) (AllP.cons hc7 (AllP.cons hc8 (AllP.cons (c219 k (List.getD x0.1 (Int.toNat (List.getD x0.2.1 (Int.toNat x1) ((0 : Int), ((0 : Int), ((0 : Int), ((0 : Int), ((0 : Int), (⟨#[]⟩ : ByteArray))))))).1) ((0 : Int), ((0 : Int), (0 : Int)))).2 (List.getD x0.1 (Int.toNat (List.getD x0.2.1 (Int.toNat x1) ((0 : Int), ((0 : Int), ((0 : Int), ((0 : Int), ((0 : Int), (⟨#[]⟩ : ByteArray))))))).2.1) ((0 : Int), ((0 : Int), (0 : Int)))).2 r1 hr9) AllP.nil))) ?_
    intro a w h
    obtain ⟨hc4, hF⟩ := of_if hF
    obtain ⟨hc5, hF⟩ := of_if hF
    obtain ⟨r2, hr6, hF⟩ := of_bind hF
    refine wp_regy_seq tok (orc := orcL [(55, [⟨(.int .i64), r2⟩])]) (fz := []) (l := [9, 10]) (c := _) ([], [], [], []) 16 (.inr fun i h => h) h (by kernel_rfl) (by kernel_rfl) (AllP.cons hc4 (AllP.cons hc5 (AllP.cons (c219 k (List.getD x0.1 (Int.toNat (List.getD x0.2.1 (Int.toNat x2) ((0 : Int), ((0 : Int), ((0 : Int), ((0 : Int), ((0 : Int), (⟨#[]⟩ : ByteArray))))))).1) ((0 : Int), ((0 : Int), (0 : Int)))).2 (List.getD x0.1 (Int.toNat (List.getD x0.2.1 (Int.toNat x2) ((0 : Int), ((0 : Int), ((0 : Int), ((0 : Int), ((0 : Int), (⟨#[]⟩ : ByteArray))))))).2.1) ((0 : Int), ((0 : Int), (0 : Int)))).2 r2 hr6) AllP.nil))) ?_
    intro a w h
    refine wp_seq ?_
    refine wp_reg_seq tok (orc := orcL []) (fz := []) (l := [9, 10, 61]) (c := _) (.inr fun i h => h) h (by kernel_rfl) (AllP.nil) ?_
    intro a w h
    refine wp_if h (b := (bif (decide ((r1 : Int) < (0 : Int))) then true else (decide ((r2 : Int) < (0 : Int))))) (by kernel_rfl) (fun hb => ?_) (fun hb => ?_)
    · replace hF := of_t hb hF
      refine wp_reg_seq tok (orc := orcL []) (fz := []) (l := [6]) (c := _) (.inr fun i h => h) h (by kernel_rfl) (AllP.nil) ?_
      intro a w h
      cases hF
      exact wp_ret (ret_okR tok h rfl (by kernel_rfl)).1
    · replace hF := of_f hb hF
      refine wp_skip ?_
      obtain ⟨hc3, hF⟩ := of_if hF
      refine wp_reg_seq tok (orc := orcL []) (fz := []) (l := [6]) (c := _) (.inr fun i h => h) h (by kernel_rfl) (AllP.cons hc3 AllP.nil) ?_
      intro a w h
      cases hF
      exact wp_ret (ret_okR tok h rfl (by kernel_rfl)).1

def f74.j144 (k : Nat) (v132 : Int) (q78 : (Int × Int × Int) → Option Int) : (Int × Int) → Option Int
  | (v142, v143) => q78 (v142, v143, (IntKind.i64.wrap (v132 + (1 : Int))))
def f74.j147 (k : Nat) (v130 : Int) (v131 : Int) (v132 : Int) (r1 : (List Int)) (q144 : (Int × Int) → Option Int) : Int → Option Int
  | v146 => if (bif (decide ((v130 : Int) < (0 : Int))) then true else (decide ((v146 : Int) < v131))) then (if (0 ≤ v132 ∧ v132 < (List.length r1 : Int)) then (q144 ((List.getD r1 (Int.toNat v132) (0 : Int)), v146)) else none) else (q144 (v130, v131))
def f74.l78 (k : Nat) (r1 : (List Int)) (x0 : ((List (Int × (Int × Int))) × ((List (Int × (Int × (Int × (Int × (Int × ByteArray)))))) × (List (Int × Int))))) (x2 : Int) : Nat → (Int × Int × Int) → Option Int
  | 0, _ => none
  | m78 + 1, (v130, v131, v132) => if (decide ((v132 : Int) < (List.length r1 : Int))) then (if (0 ≤ v132 ∧ v132 < (List.length r1 : Int)) then (if (0 ≤ (List.getD r1 (Int.toNat v132) (0 : Int)) ∧ (List.getD r1 (Int.toNat v132) (0 : Int)) < (List.length x0.2.1 : Int)) then (if (0 ≤ x2 ∧ x2 < (List.length x0.2.1 : Int)) then (if (!(ByteArray.toList (List.getD x0.2.1 (Int.toNat (List.getD r1 (Int.toNat v132) (0 : Int))) ((0 : Int), ((0 : Int), ((0 : Int), ((0 : Int), ((0 : Int), (⟨#[]⟩ : ByteArray))))))).2.2.2.2.2 == ByteArray.toList (List.getD x0.2.1 (Int.toNat x2) ((0 : Int), ((0 : Int), ((0 : Int), ((0 : Int), ((0 : Int), (⟨#[]⟩ : ByteArray))))))).2.2.2.2.2)) then (f74.j144 k v132 ((f74.l78 k r1 x0 x2) m78) (v130, v131)) else (if (0 ≤ v132 ∧ v132 < (List.length r1 : Int)) then ((f164 k x0 x2 (List.getD r1 (Int.toNat v132) (0 : Int))).bind fun r145 => (if (bif (decide ((r145 : Int) < (8 : Int))) then (decide (((IntKind.i64.wrap ((8 : Int) - r145)) : Int) < r145)) else false) then (f74.j147 k v130 v131 v132 r1 (f74.j144 k v132 ((f74.l78 k r1 x0 x2) m78)) (IntKind.i64.wrap ((8 : Int) - r145))) else (f74.j147 k v130 v131 v132 r1 (f74.j144 k v132 ((f74.l78 k r1 x0 x2) m78)) r145))) else none)) else none) else none) else none) else (some v130)
def f74 (k : Nat) (x0 : ((List (Int × (Int × Int))) × ((List (Int × (Int × (Int × (Int × (Int × ByteArray)))))) × (List (Int × Int))))) (x1 : (List (List Int))) (x2 : Int) : Option Int := (f163 k x0 x1 x2).bind fun r1 => (f74.l78 k r1 x0 x2 k ((-1 : Int), (0 : Int), (0 : Int)))
set_option maxRecDepth 100000 in
/-- 'spec.l17Ahead'. -/
theorem c74 (k : Nat) (x0 : ((List (Int × (Int × Int))) × ((List (Int × (Int × (Int × (Int × (Int × ByteArray)))))) × (List (Int × Int))))) (x1 : (List (List Int))) (x2 : Int) (r : Int) (hF : f74 k x0 x1 x2 = some r) : PCall Try.prog 74 [⟨sh12, x0⟩, ⟨sh15, x1⟩, ⟨(.int .i64), x2⟩] [⟨(.int .i64), r⟩] := by
  refine pcall_intro Try.func74 rfl rfl (Nat.le_of_ble_eq_true rfl) ?_
  intro w0 Zi a w h
  rw [f74] at hF
  refine wp_reg_seq tok (orc := orcL []) (fz := []) (l := [1, 2, 3]) (c := _) (.inr fun i h => h) h (by kernel_rfl) (AllP.nil) ?_
  intro a w h
  refine wp_reg_seq tok (orc := orcL []) (fz := []) (l := [1, 2, 3, 7]) (c := _) (.inr fun i h => h) h (by kernel_rfl) (AllP.nil) ?_
  intro a w h
  refine wp_reg_seq tok (orc := orcL []) (fz := []) (l := [1, 2, 3, 7, 8]) (c := _) (.inr fun i h => h) h (by kernel_rfl) (AllP.nil) ?_
  intro a w h
  obtain ⟨r1, hr154, hF⟩ := of_bind hF
  refine wp_reg_seq tok (orc := orcL [(15, [⟨(.sl true 2 (.int .i64)), r1⟩])]) (fz := []) (l := [2, 3, 7, 8, 9]) (c := _) (.inr fun i h => h) h (by kernel_rfl) (AllP.cons (c163 k x0 x1 x2 r1 hr154) AllP.nil) ?_
  intro a w h
  refine wp_seq ?_
  refine wp_reg_seq tok (orc := orcL []) (fz := []) (l := [2, 3, 7, 8, 9, 10]) (c := _) (.inr fun i h => h) h (by kernel_rfl) (AllP.nil) ?_
  intro a w h
  refine wp_block ?_
  refine wp_loop_fuel (f74.l78 k r1 x0 x2) (fun ((v130, v131, v132) : (Int × Int × Int)) => [(2, .val (.int .i64) x2), (3, .val sh11 (some x0)), (7, .val (.int .i64) v130), (8, .val (.int .i64) v131), (9, .val (.sl true 2 (.int .i64)) r1), (10, .val (.int .i64) v132)]) (fun v h => by obtain ⟨v130, v131, v132⟩ := v; rw [f74.l78] at h; cases h) ?_ hF (h.arrive (fz := []) (l := [2, 3, 7, 8, 9, 10]) (.inr fun i h => h) (by kernel_rfl))
  intro m78 v a w hF h
  obtain ⟨v130, v131, v132⟩ := v
  rw [f74.l78] at hF
  refine wp_seq ?_
  refine wp_reg_seq tok (orc := orcL []) (fz := []) (l := [2, 3, 7, 8, 9, 10, 19]) (c := _) (.inr fun i h => h) h (by kernel_rfl) (AllP.nil) ?_
  intro a w h
  refine wp_if h (b := (decide ((v132 : Int) < (List.length r1 : Int)))) (by kernel_rfl) (fun hb => ?_) (fun hb => ?_)
  · replace hF := of_t hb hF
    refine wp_skip ?_
    refine wp_mid (fun a w => ∃ v : (Int × Int), f74.j144 k v132 ((f74.l78 k r1 x0 x2) m78) v = some r ∧ Rel w0 (fun _ => False) Zi Try.f74.ntmps ((fun ((v142, v143) : (Int × Int)) => ([(2, .val (.int .i64) x2), (3, .val sh11 (some x0)), (7, .val (.int .i64) v142), (8, .val (.int .i64) v143), (9, .val (.sl true 2 (.int .i64)) r1), (10, .val (.int .i64) v132)] : SS)) v) a w) ?_ ?_
    ·
      refine wp_block ?_
      refine wp_seq ?_
      obtain ⟨hc151, hF⟩ := of_if hF
      obtain ⟨hc152, hF⟩ := of_if hF
      obtain ⟨hc153, hF⟩ := of_if hF
      refine wp_regy_seq tok (orc := orcL []) (fz := []) (l := [2, 3, 7, 8, 9, 10, 37]) (c := _) ([], [], [], []) 16 (.inr fun i h => h) h (by kernel_rfl) (by kernel_rfl) (AllP.cons hc151 (AllP.cons hc152 (AllP.cons hc153 AllP.nil))) ?_
      intro a w h
      refine wp_if h (b := (!(ByteArray.toList (List.getD x0.2.1 (Int.toNat (List.getD r1 (Int.toNat v132) (0 : Int))) ((0 : Int), ((0 : Int), ((0 : Int), ((0 : Int), ((0 : Int), (⟨#[]⟩ : ByteArray))))))).2.2.2.2.2 == ByteArray.toList (List.getD x0.2.1 (Int.toNat x2) ((0 : Int), ((0 : Int), ((0 : Int), ((0 : Int), ((0 : Int), (⟨#[]⟩ : ByteArray))))))).2.2.2.2.2))) (by kernel_rfl) (fun hb => ?_) (fun hb => ?_)
      · replace hF := of_t hb hF
        refine wp_exit ?_
        exact ⟨(v130, v131), hF, h.arrive (fz := []) (l := [2, 3, 7, 8, 9, 10]) (.inr fun i h => h) (by kernel_rfl)⟩
      · replace hF := of_f hb hF
        refine wp_skip ?_
        obtain ⟨hc149, hF⟩ := of_if hF
        obtain ⟨r145, hr150, hF⟩ := of_bind hF
        refine wp_regy_seq tok (orc := orcL [(44, [⟨(.int .i64), r145⟩])]) (fz := []) (l := [2, 3, 7, 8, 9, 10, 11]) (c := _) ([], [], [], []) 8 (.inr fun i h => h) h (by kernel_rfl) (by kernel_rfl) (AllP.cons hc149 (AllP.cons (c164 k x0 x2 (List.getD r1 (Int.toNat v132) (0 : Int)) r145 hr150) AllP.nil)) ?_
        intro a w h
        refine wp_seq ?_
        refine wp_reg_seq tok (orc := orcL []) (fz := []) (l := [2, 3, 7, 8, 9, 10, 11, 52]) (c := _) (.inr fun i h => h) h (by kernel_rfl) (AllP.nil) ?_
        intro a w h
        refine wp_midT (fun a w => ∃ v : Int, f74.j147 k v130 v131 v132 r1 (f74.j144 k v132 ((f74.l78 k r1 x0 x2) m78)) v = some r ∧ Rel w0 (fun _ => False) Zi Try.f74.ntmps ((fun (v146 : Int) => ([(2, .val (.int .i64) x2), (3, .val sh11 (some x0)), (7, .val (.int .i64) v130), (8, .val (.int .i64) v131), (9, .val (.sl true 2 (.int .i64)) r1), (10, .val (.int .i64) v132), (11, .val (.int .i64) v146)] : SS)) v) a w) ?_ ?_
        ·
          refine wp_if h (b := (bif (decide ((r145 : Int) < (8 : Int))) then (decide (((IntKind.i64.wrap ((8 : Int) - r145)) : Int) < r145)) else false)) (by kernel_rfl) (fun hb => ?_) (fun hb => ?_)
          · replace hF := of_t hb hF
            refine wp_reg tok (orc := orcL []) (fz := []) (l := [2, 3, 7, 8, 9, 10, 11]) (c := _) (.inr fun i h => h) h (by kernel_rfl) (AllP.nil) ?_
            intro a w h
            exact ⟨(IntKind.i64.wrap ((8 : Int) - r145)), hF, h.arrive (fz := []) (l := [2, 3, 7, 8, 9, 10, 11]) (.inr fun i h => h) (by kernel_rfl)⟩
          · replace hF := of_f hb hF
            refine wp_skip ?_
            exact ⟨r145, hF, h.arrive (fz := []) (l := [2, 3, 7, 8, 9, 10, 11]) (.inr fun i h => h) (by kernel_rfl)⟩
        · rintro a w ⟨v146, hF, h⟩
          rw [f74.j147] at hF
          refine wp_reg_seq tok (orc := orcL []) (fz := []) (l := [2, 3, 7, 8, 9, 10, 11, 61]) (c := _) (.inr fun i h => h) h (by kernel_rfl) (AllP.nil) ?_
          intro a w h
          refine wp_if h (b := (bif (decide ((v130 : Int) < (0 : Int))) then true else (decide ((v146 : Int) < v131)))) (by kernel_rfl) (fun hb => ?_) (fun hb => ?_)
          · replace hF := of_t hb hF
            obtain ⟨hc148, hF⟩ := of_if hF
            refine wp_reg_seq tok (orc := orcL []) (fz := []) (l := [2, 3, 7, 9, 10, 11]) (c := _) (.inr fun i h => h) h (by kernel_rfl) (AllP.cons hc148 AllP.nil) ?_
            intro a w h
            refine wp_reg tok (orc := orcL []) (fz := []) (l := [2, 3, 7, 8, 9, 10]) (c := _) (.inr fun i h => h) h (by kernel_rfl) (AllP.nil) ?_
            intro a w h
            exact ⟨((List.getD r1 (Int.toNat v132) (0 : Int)), v146), hF, h.arrive (fz := []) (l := [2, 3, 7, 8, 9, 10]) (.inr fun i h => h) (by kernel_rfl)⟩
          · replace hF := of_f hb hF
            refine wp_skip ?_
            exact ⟨(v130, v131), hF, h.arrive (fz := []) (l := [2, 3, 7, 8, 9, 10]) (.inr fun i h => h) (by kernel_rfl)⟩
    · rintro a w ⟨v, hF, h⟩
      obtain ⟨v142, v143⟩ := v
      rw [f74.j144] at hF
      refine wp_reg tok (orc := orcL []) (fz := []) (l := [2, 3, 7, 8, 9, 10]) (c := _) (.inr fun i h => h) h (by kernel_rfl) (AllP.nil) ?_
      intro a w h
      exact ⟨(v142, v143, (IntKind.i64.wrap (v132 + (1 : Int)))), hF, h.arrive (fz := []) (l := [2, 3, 7, 8, 9, 10]) (.inr fun i h => h) (by kernel_rfl)⟩
  · replace hF := of_f hb hF
    refine wp_exit ?_
    refine wp_reg_seq tok (orc := orcL []) (fz := []) (l := [6]) (c := _) (.inr fun i h => h) h (by kernel_rfl) (AllP.nil) ?_
    intro a w h
    cases hF
    exact wp_ret (ret_okR tok h rfl (by kernel_rfl)).1

def f75.j70 (k : Nat) (v65 : Int) (q39 : (Int × Int) → Option (Int × Int)) : Int → Option (Int × Int)
  | v69 => q39 (v69, (IntKind.i64.wrap (v65 + (1 : Int))))
def f75.l39 (k : Nat) (r2 : (List Int)) (x3 : Int) (x0 : ((List (Int × (Int × Int))) × ((List (Int × (Int × (Int × (Int × (Int × ByteArray)))))) × (List (Int × Int))))) (x2 : Int) (r1 : Int) : Nat → (Int × Int) → Option (Int × Int)
  | 0, _ => none
  | m39 + 1, (v64, v65) => if (((decide ((v65 : Int) < (List.length r2 : Int))) = true) → (0 ≤ v65 ∧ v65 < (List.length r2 : Int))) then (if (bif (decide ((v65 : Int) < (List.length r2 : Int))) then (((List.getD r2 (Int.toNat v65) (0 : Int)) : Int) != x3) else false) then (if (0 ≤ v65 ∧ v65 < (List.length r2 : Int)) then ((f164 k x0 x2 (List.getD r2 (Int.toNat v65) (0 : Int))).bind fun r71 => (if ((r71 : Int) == r1) then (f75.j70 k v65 ((f75.l39 k r2 x3 x0 x2 r1) m39) (IntKind.i64.wrap (v64 + (1 : Int)))) else (f75.j70 k v65 ((f75.l39 k r2 x3 x0 x2 r1) m39) v64))) else none) else (some (r1, v64))) else none
def f75 (k : Nat) (x0 : ((List (Int × (Int × Int))) × ((List (Int × (Int × (Int × (Int × (Int × ByteArray)))))) × (List (Int × Int))))) (x1 : (List (List Int))) (x2 : Int) (x3 : Int) : Option (Int × Int) := (f164 k x0 x2 x3).bind fun r1 => ((f163 k x0 x1 x2).bind fun r2 => (f75.l39 k r2 x3 x0 x2 r1 k ((0 : Int), (0 : Int))))
set_option maxRecDepth 100000 in
/-- 'spec.l17Choice'. -/
theorem c75 (k : Nat) (x0 : ((List (Int × (Int × Int))) × ((List (Int × (Int × (Int × (Int × (Int × ByteArray)))))) × (List (Int × Int))))) (x1 : (List (List Int))) (x2 : Int) (x3 : Int) (r : (Int × Int)) (hF : f75 k x0 x1 x2 x3 = some r) : PCall Try.prog 75 [⟨sh12, x0⟩, ⟨sh15, x1⟩, ⟨(.int .i64), x2⟩, ⟨(.int .i64), x3⟩] [⟨(.int .i64), r.1⟩, ⟨(.int .i64), r.2⟩] := by
  refine pcall_intro Try.func75 rfl rfl (Nat.le_of_ble_eq_true rfl) ?_
  intro w0 Zi a w h
  rw [f75] at hF
  refine wp_reg_seq tok (orc := orcL []) (fz := []) (l := [1, 2, 3, 4]) (c := _) (.inr fun i h => h) h (by kernel_rfl) (AllP.nil) ?_
  intro a w h
  obtain ⟨r1, hr76, hF⟩ := of_bind hF
  refine wp_reg_seq tok (orc := orcL [(17, [⟨(.int .i64), r1⟩])]) (fz := []) (l := [1, 2, 3, 4, 10]) (c := _) (.inr fun i h => h) h (by kernel_rfl) (AllP.cons (c164 k x0 x2 x3 r1 hr76) AllP.nil) ?_
  intro a w h
  refine wp_reg_seq tok (orc := orcL []) (fz := []) (l := [1, 2, 3, 4, 10, 11]) (c := _) (.inr fun i h => h) h (by kernel_rfl) (AllP.nil) ?_
  intro a w h
  obtain ⟨r2, hr75, hF⟩ := of_bind hF
  refine wp_reg_seq tok (orc := orcL [(21, [⟨(.sl true 2 (.int .i64)), r2⟩])]) (fz := []) (l := [2, 3, 4, 10, 11, 12]) (c := _) (.inr fun i h => h) h (by kernel_rfl) (AllP.cons (c163 k x0 x1 x2 r2 hr75) AllP.nil) ?_
  intro a w h
  refine wp_seq ?_
  refine wp_reg_seq tok (orc := orcL []) (fz := []) (l := [2, 3, 4, 10, 11, 12, 13]) (c := _) (.inr fun i h => h) h (by kernel_rfl) (AllP.nil) ?_
  intro a w h
  refine wp_block ?_
  refine wp_loop_fuel (f75.l39 k r2 x3 x0 x2 r1) (fun ((v64, v65) : (Int × Int)) => [(2, .val (.int .i64) x2), (3, .val (.int .i64) x3), (4, .val sh11 (some x0)), (10, .val (.int .i64) r1), (11, .val (.int .i64) v64), (12, .val (.sl true 2 (.int .i64)) r2), (13, .val (.int .i64) v65)]) (fun v h => by obtain ⟨v64, v65⟩ := v; rw [f75.l39] at h; cases h) ?_ hF (h.arrive (fz := []) (l := [2, 3, 4, 10, 11, 12, 13]) (.inr fun i h => h) (by kernel_rfl))
  intro m39 v a w hF h
  obtain ⟨v64, v65⟩ := v
  rw [f75.l39] at hF
  refine wp_seq ?_
  obtain ⟨hc74, hF⟩ := of_if hF
  refine wp_reg_seq tok (orc := orcL []) (fz := []) (l := [2, 3, 4, 10, 11, 12, 13, 33]) (c := _) (.inr fun i h => h) h (by kernel_rfl) (AllP.cons hc74 AllP.nil) ?_
  intro a w h
  refine wp_if h (b := (bif (decide ((v65 : Int) < (List.length r2 : Int))) then (((List.getD r2 (Int.toNat v65) (0 : Int)) : Int) != x3) else false)) (by kernel_rfl) (fun hb => ?_) (fun hb => ?_)
  · replace hF := of_t hb hF
    refine wp_skip ?_
    refine wp_mid (fun a w => ∃ v : Int, f75.j70 k v65 ((f75.l39 k r2 x3 x0 x2 r1) m39) v = some r ∧ Rel w0 (fun _ => False) Zi Try.f75.ntmps ((fun (v69 : Int) => ([(2, .val (.int .i64) x2), (3, .val (.int .i64) x3), (4, .val sh11 (some x0)), (10, .val (.int .i64) r1), (11, .val (.int .i64) v69), (12, .val (.sl true 2 (.int .i64)) r2), (13, .val (.int .i64) v65)] : SS)) v) a w) ?_ ?_
    ·
      refine wp_block ?_
      obtain ⟨hc72, hF⟩ := of_if hF
      obtain ⟨r71, hr73, hF⟩ := of_bind hF
      refine wp_regy_seq tok (orc := orcL [(42, [⟨(.int .i64), r71⟩])]) (fz := []) (l := [2, 3, 4, 10, 11, 12, 13, 44]) (c := _) ([], [], [], []) 9 (.inr fun i h => h) h (by kernel_rfl) (by kernel_rfl) (AllP.cons hc72 (AllP.cons (c164 k x0 x2 (List.getD r2 (Int.toNat v65) (0 : Int)) r71 hr73) AllP.nil)) ?_
      intro a w h
      refine wp_if h (b := ((r71 : Int) == r1)) (by kernel_rfl) (fun hb => ?_) (fun hb => ?_)
      · replace hF := of_t hb hF
        refine wp_reg tok (orc := orcL []) (fz := []) (l := [2, 3, 4, 10, 11, 12, 13]) (c := _) (.inr fun i h => h) h (by kernel_rfl) (AllP.nil) ?_
        intro a w h
        exact ⟨(IntKind.i64.wrap (v64 + (1 : Int))), hF, h.arrive (fz := []) (l := [2, 3, 4, 10, 11, 12, 13]) (.inr fun i h => h) (by kernel_rfl)⟩
      · replace hF := of_f hb hF
        refine wp_skip ?_
        exact ⟨v64, hF, h.arrive (fz := []) (l := [2, 3, 4, 10, 11, 12, 13]) (.inr fun i h => h) (by kernel_rfl)⟩
    · rintro a w ⟨v69, hF, h⟩
      rw [f75.j70] at hF
      refine wp_reg tok (orc := orcL []) (fz := []) (l := [2, 3, 4, 10, 11, 12, 13]) (c := _) (.inr fun i h => h) h (by kernel_rfl) (AllP.nil) ?_
      intro a w h
      exact ⟨(v69, (IntKind.i64.wrap (v65 + (1 : Int)))), hF, h.arrive (fz := []) (l := [2, 3, 4, 10, 11, 12, 13]) (.inr fun i h => h) (by kernel_rfl)⟩
  · replace hF := of_f hb hF
    refine wp_exit ?_
    refine wp_reg_seq tok (orc := orcL []) (fz := []) (l := [8, 9]) (c := _) (.inr fun i h => h) h (by kernel_rfl) (AllP.nil) ?_
    intro a w h
    cases hF
    exact wp_ret (ret_okR tok h rfl (by kernel_rfl)).1

def f15.j892 (k : Nat) (v812 : Int) (q488 : ((List (Int × (Int × (ByteArray × (Int × Int))))) × Int) → Option (List (Int × (Int × (ByteArray × (Int × Int)))))) : (List (Int × (Int × (ByteArray × (Int × Int))))) → Option (List (Int × (Int × (ByteArray × (Int × Int)))))
  | v891 => q488 (v891, (IntKind.i64.wrap (v812 + (1 : Int))))
def f15.j938 (k : Nat) (v811 : (List (Int × (Int × (ByteArray × (Int × Int)))))) (x0 : ((List (Int × (Int × Int))) × ((List (Int × (Int × (Int × (Int × (Int × ByteArray)))))) × (List (Int × Int))))) (x1 : (List Int)) (v812 : Int) (q892 : (List (Int × (Int × (ByteArray × (Int × Int))))) → Option (List (Int × (Int × (ByteArray × (Int × Int)))))) : (Int × Int) → Option (List (Int × (Int × (ByteArray × (Int × Int)))))
  | (v936, v937) => if ((List.length v811 + List.length [(v936, (v937, ((List.getD x0.2.1 (Int.toNat (List.getD x1 (Int.toNat v812) (0 : Int))) ((0 : Int), ((0 : Int), ((0 : Int), ((0 : Int), ((0 : Int), (⟨#[]⟩ : ByteArray))))))).2.2.2.2.2, ((1 : Int), (List.getD x0.2.1 (Int.toNat (List.getD x1 (Int.toNat v812) (0 : Int))) ((0 : Int), ((0 : Int), ((0 : Int), ((0 : Int), ((0 : Int), (⟨#[]⟩ : ByteArray))))))).2.2.2.2.1))))]) * 48 ≤ 140737488355328) then (q892 (v811 ++ [(v936, (v937, ((List.getD x0.2.1 (Int.toNat (List.getD x1 (Int.toNat v812) (0 : Int))) ((0 : Int), ((0 : Int), ((0 : Int), ((0 : Int), ((0 : Int), (⟨#[]⟩ : ByteArray))))))).2.2.2.2.2, ((1 : Int), (List.getD x0.2.1 (Int.toNat (List.getD x1 (Int.toNat v812) (0 : Int))) ((0 : Int), ((0 : Int), ((0 : Int), ((0 : Int), ((0 : Int), (⟨#[]⟩ : ByteArray))))))).2.2.2.2.1))))])) else none
def f15.l944 (k : Nat) (r4 : (List (List Int))) (x0 : ((List (Int × (Int × Int))) × ((List (Int × (Int × (Int × (Int × (Int × ByteArray)))))) × (List (Int × Int))))) (x1 : (List Int)) (v812 : Int) (q938 : (Int × Int) → Option (List (Int × (Int × (ByteArray × (Int × Int)))))) : Nat → (Int × Int) → Option (List (Int × (Int × (ByteArray × (Int × Int)))))
  | 0, _ => none
  | m944 + 1, (v959, v960) => if (((decide ((v960 : Int) < (List.length (List.getD r4 (Int.toNat (List.getD x0.2.1 (Int.toNat (List.getD x1 (Int.toNat v812) (0 : Int))) ((0 : Int), ((0 : Int), ((0 : Int), ((0 : Int), ((0 : Int), (⟨#[]⟩ : ByteArray))))))).1) ([] : (List Int))) : Int))) = true) → (0 ≤ v960 ∧ v960 < (List.length (List.getD r4 (Int.toNat (List.getD x0.2.1 (Int.toNat (List.getD x1 (Int.toNat v812) (0 : Int))) ((0 : Int), ((0 : Int), ((0 : Int), ((0 : Int), ((0 : Int), (⟨#[]⟩ : ByteArray))))))).1) ([] : (List Int))) : Int))) then (if (((decide ((v960 : Int) < (List.length (List.getD r4 (Int.toNat (List.getD x0.2.1 (Int.toNat (List.getD x1 (Int.toNat v812) (0 : Int))) ((0 : Int), ((0 : Int), ((0 : Int), ((0 : Int), ((0 : Int), (⟨#[]⟩ : ByteArray))))))).1) ([] : (List Int))) : Int))) = true) → (0 ≤ (0 : Int) ∧ (0 : Int) < (List.length x1 : Int))) then ((some ((bif (decide ((v960 : Int) < (List.length (List.getD r4 (Int.toNat (List.getD x0.2.1 (Int.toNat (List.getD x1 (Int.toNat v812) (0 : Int))) ((0 : Int), ((0 : Int), ((0 : Int), ((0 : Int), ((0 : Int), (⟨#[]⟩ : ByteArray))))))).1) ([] : (List Int))) : Int))) then (((List.getD (List.getD r4 (Int.toNat (List.getD x0.2.1 (Int.toNat (List.getD x1 (Int.toNat v812) (0 : Int))) ((0 : Int), ((0 : Int), ((0 : Int), ((0 : Int), ((0 : Int), (⟨#[]⟩ : ByteArray))))))).1) ([] : (List Int))) (Int.toNat v960) (0 : Int)) : Int) != (List.getD x1 (Int.toNat (0 : Int)) (0 : Int))) else false) : Bool)).bind fun v961 => (if v961 then ((f15.l944 k r4 x0 x1 v812 q938) m944 ((IntKind.i64.wrap (v959 + (1 : Int))), (IntKind.i64.wrap (v960 + (1 : Int))))) else (q938 ((9 : Int), v959)))) else none) else none
def f15.l488 (k : Nat) (x1 : (List Int)) (x0 : ((List (Int × (Int × Int))) × ((List (Int × (Int × (Int × (Int × (Int × ByteArray)))))) × (List (Int × Int))))) (r4 : (List (List Int))) : Nat → ((List (Int × (Int × (ByteArray × (Int × Int))))) × Int) → Option (List (Int × (Int × (ByteArray × (Int × Int)))))
  | 0, _ => none
  | m488 + 1, (v811, v812) => if (decide ((v812 : Int) < (List.length x1 : Int))) then (if (0 ≤ v812 ∧ v812 < (List.length x1 : Int)) then (if (0 ≤ (List.getD x1 (Int.toNat v812) (0 : Int)) ∧ (List.getD x1 (Int.toNat v812) (0 : Int)) < (List.length x0.2.1 : Int)) then (if (((decide ((v812 : Int) > (0 : Int))) = true) → (0 ≤ (IntKind.i64.wrap (v812 - (1 : Int))) ∧ (IntKind.i64.wrap (v812 - (1 : Int))) < (List.length x1 : Int))) then ((if ((decide ((v812 : Int) > (0 : Int))) = true) then f74 k x0 r4 (List.getD x1 (Int.toNat (IntKind.i64.wrap (v812 - (1 : Int)))) (0 : Int)) else some default).bind fun r893 => (if (((decide ((v812 : Int) > (0 : Int))) = true) → (0 ≤ v812 ∧ v812 < (List.length x1 : Int))) then (if (bif (decide ((v812 : Int) > (0 : Int))) then ((r893 : Int) == (List.getD x1 (Int.toNat v812) (0 : Int))) else false) then (if (0 ≤ (IntKind.i64.wrap ((List.length v811 : Int) - (1 : Int))) ∧ (IntKind.i64.wrap ((List.length v811 : Int) - (1 : Int))) < (List.length v811 : Int)) then (if (0 ≤ (IntKind.i64.wrap ((List.length v811 : Int) - (1 : Int))) ∧ (IntKind.i64.wrap ((List.length v811 : Int) - (1 : Int))) < (List.length v811 : Int)) then ((some ((List.set v811 (Int.toNat (IntKind.i64.wrap ((List.length v811 : Int) - (1 : Int)))) ((List.getD v811 (Int.toNat (IntKind.i64.wrap ((List.length v811 : Int) - (1 : Int)))) ((0 : Int), ((0 : Int), ((⟨#[]⟩ : ByteArray), ((0 : Int), (0 : Int)))))).1, ((List.getD v811 (Int.toNat (IntKind.i64.wrap ((List.length v811 : Int) - (1 : Int)))) ((0 : Int), ((0 : Int), ((⟨#[]⟩ : ByteArray), ((0 : Int), (0 : Int)))))).2.1, ((List.getD v811 (Int.toNat (IntKind.i64.wrap ((List.length v811 : Int) - (1 : Int)))) ((0 : Int), ((0 : Int), ((⟨#[]⟩ : ByteArray), ((0 : Int), (0 : Int)))))).2.2.1, ((IntKind.i64.wrap ((List.getD v811 (Int.toNat (IntKind.i64.wrap ((List.length v811 : Int) - (1 : Int)))) ((0 : Int), ((0 : Int), ((⟨#[]⟩ : ByteArray), ((0 : Int), (0 : Int)))))).2.2.2.1 + (1 : Int))), (List.getD v811 (Int.toNat (IntKind.i64.wrap ((List.length v811 : Int) - (1 : Int)))) ((0 : Int), ((0 : Int), ((⟨#[]⟩ : ByteArray), ((0 : Int), (0 : Int)))))).2.2.2.2))))) : (List (Int × (Int × (ByteArray × (Int × Int))))))).bind fun v902 => (if (0 ≤ (IntKind.i64.wrap ((List.length v811 : Int) - (1 : Int))) ∧ (IntKind.i64.wrap ((List.length v811 : Int) - (1 : Int))) < (List.length v902 : Int)) then (if (0 ≤ (IntKind.i64.wrap ((List.length v811 : Int) - (1 : Int))) ∧ (IntKind.i64.wrap ((List.length v811 : Int) - (1 : Int))) < (List.length v902 : Int)) then ((some ((List.set v902 (Int.toNat (IntKind.i64.wrap ((List.length v811 : Int) - (1 : Int)))) ((List.getD v902 (Int.toNat (IntKind.i64.wrap ((List.length v811 : Int) - (1 : Int)))) ((0 : Int), ((0 : Int), ((⟨#[]⟩ : ByteArray), ((0 : Int), (0 : Int)))))).1, ((List.getD v902 (Int.toNat (IntKind.i64.wrap ((List.length v811 : Int) - (1 : Int)))) ((0 : Int), ((0 : Int), ((⟨#[]⟩ : ByteArray), ((0 : Int), (0 : Int)))))).2.1, ((List.getD v902 (Int.toNat (IntKind.i64.wrap ((List.length v811 : Int) - (1 : Int)))) ((0 : Int), ((0 : Int), ((⟨#[]⟩ : ByteArray), ((0 : Int), (0 : Int)))))).2.2.1, ((List.getD v902 (Int.toNat (IntKind.i64.wrap ((List.length v811 : Int) - (1 : Int)))) ((0 : Int), ((0 : Int), ((⟨#[]⟩ : ByteArray), ((0 : Int), (0 : Int)))))).2.2.2.1, (IntKind.i64.wrap ((List.getD v902 (Int.toNat (IntKind.i64.wrap ((List.length v811 : Int) - (1 : Int)))) ((0 : Int), ((0 : Int), ((⟨#[]⟩ : ByteArray), ((0 : Int), (0 : Int)))))).2.2.2.2 + (List.getD x0.2.1 (Int.toNat (List.getD x1 (Int.toNat v812) (0 : Int))) ((0 : Int), ((0 : Int), ((0 : Int), ((0 : Int), ((0 : Int), (⟨#[]⟩ : ByteArray))))))).2.2.2.2.1))))))) : (List (Int × (Int × (ByteArray × (Int × Int))))))).bind fun v903 => (f15.j892 k v812 ((f15.l488 k x1 x0 r4) m488) v903)) else none) else none)) else none) else none) else (if (decide ((v812 : Int) > (0 : Int))) then (if (0 ≤ (IntKind.i64.wrap (v812 - (1 : Int))) ∧ (IntKind.i64.wrap (v812 - (1 : Int))) < (List.length x1 : Int)) then (if (0 ≤ v812 ∧ v812 < (List.length x1 : Int)) then ((f75 k x0 r4 (List.getD x1 (Int.toNat (IntKind.i64.wrap (v812 - (1 : Int)))) (0 : Int)) (List.getD x1 (Int.toNat v812) (0 : Int))).bind fun r940 => (f15.j938 k v811 x0 x1 v812 (f15.j892 k v812 ((f15.l488 k x1 x0 r4) m488)) (r940.1, r940.2))) else none) else none) else (if (0 ≤ (List.getD x0.2.1 (Int.toNat (List.getD x1 (Int.toNat v812) (0 : Int))) ((0 : Int), ((0 : Int), ((0 : Int), ((0 : Int), ((0 : Int), (⟨#[]⟩ : ByteArray))))))).1 ∧ (List.getD x0.2.1 (Int.toNat (List.getD x1 (Int.toNat v812) (0 : Int))) ((0 : Int), ((0 : Int), ((0 : Int), ((0 : Int), ((0 : Int), (⟨#[]⟩ : ByteArray))))))).1 < (List.length r4 : Int)) then (f15.l944 k r4 x0 x1 v812 (f15.j938 k v811 x0 x1 v812 (f15.j892 k v812 ((f15.l488 k x1 x0 r4) m488))) k ((0 : Int), (0 : Int))) else none))) else none)) else none) else none) else none) else (some v811)
def f15 (k : Nat) (x0 : ((List (Int × (Int × Int))) × ((List (Int × (Int × (Int × (Int × (Int × ByteArray)))))) × (List (Int × Int))))) (x1 : (List Int)) : Option (List (Int × (Int × (ByteArray × (Int × Int))))) := (f70 k x0).bind fun r1 => ((if ((bif (!r1) then true else (((List.length x1 : Int) : Int) == (0 : Int))) = false) then f71 k x0 x1 else some default).bind fun r2 => (if (((bif (bif (!r1) then true else (((List.length x1 : Int) : Int) == (0 : Int))) then true else (!r2)) = false) → (0 ≤ (0 : Int) ∧ (0 : Int) < (List.length x1 : Int))) then (if (((bif (bif (!r1) then true else (((List.length x1 : Int) : Int) == (0 : Int))) then true else (!r2)) = false) → (0 ≤ (List.getD x1 (Int.toNat (0 : Int)) (0 : Int)) ∧ (List.getD x1 (Int.toNat (0 : Int)) (0 : Int)) < (List.length x0.2.1 : Int))) then (if (((bif (bif (!r1) then true else (((List.length x1 : Int) : Int) == (0 : Int))) then true else (!r2)) = false) → (0 ≤ (IntKind.i64.wrap ((List.length x1 : Int) - (1 : Int))) ∧ (IntKind.i64.wrap ((List.length x1 : Int) - (1 : Int))) < (List.length x1 : Int))) then (if (((bif (bif (!r1) then true else (((List.length x1 : Int) : Int) == (0 : Int))) then true else (!r2)) = false) → (0 ≤ (List.getD x1 (Int.toNat (IntKind.i64.wrap ((List.length x1 : Int) - (1 : Int)))) (0 : Int)) ∧ (List.getD x1 (Int.toNat (IntKind.i64.wrap ((List.length x1 : Int) - (1 : Int)))) (0 : Int)) < (List.length x0.2.1 : Int))) then ((if ((bif (bif (!r1) then true else (((List.length x1 : Int) : Int) == (0 : Int))) then true else (!r2)) = false) then f72 k x0 x1 (List.getD x0.2.1 (Int.toNat (List.getD x1 (Int.toNat (0 : Int)) (0 : Int))) ((0 : Int), ((0 : Int), ((0 : Int), ((0 : Int), ((0 : Int), (⟨#[]⟩ : ByteArray))))))).1 (List.getD x0.2.1 (Int.toNat (List.getD x1 (Int.toNat (IntKind.i64.wrap ((List.length x1 : Int) - (1 : Int)))) (0 : Int))) ((0 : Int), ((0 : Int), ((0 : Int), ((0 : Int), ((0 : Int), (⟨#[]⟩ : ByteArray))))))).2.1 else some default).bind fun r3 => (if (bif (bif (bif (!r1) then true else (((List.length x1 : Int) : Int) == (0 : Int))) then true else (!r2)) then true else (decide ((r3 : Int) < (0 : Int)))) then (some ([] : List (Int × (Int × (ByteArray × (Int × Int)))))) else ((f73 k x0 false).bind fun r4 => (f15.l488 k x1 x0 r4 k (([] : List (Int × (Int × (ByteArray × (Int × Int))))), (0 : Int)))))) else none) else none) else none) else none))
set_option maxRecDepth 100000 in
/-- 'spec.Guide'. -/
theorem c15 (k : Nat) (x0 : ((List (Int × (Int × Int))) × ((List (Int × (Int × (Int × (Int × (Int × ByteArray)))))) × (List (Int × Int))))) (x1 : (List Int)) (r : (List (Int × (Int × (ByteArray × (Int × Int)))))) (hF : f15 k x0 x1 = some r) : PCall Try.prog 15 [⟨sh12, x0⟩, ⟨(.sl false 2 (.int .i64)), x1⟩] [⟨sh16, r⟩] := by
  refine pcall_intro Try.func15 rfl rfl (Nat.le_of_ble_eq_true rfl) ?_
  intro w0 Zi a w h
  rw [f15] at hF
  refine wp_reg_seq tok (orc := orcL []) (fz := []) (l := [1, 2]) (c := _) (.inr fun i h => h) h (by kernel_rfl) (AllP.nil) ?_
  intro a w h
  refine wp_reg_seq tok (orc := orcL []) (fz := []) (l := [1, 2, 5]) (c := _) (.inr fun i h => h) h (by kernel_rfl) (AllP.nil) ?_
  intro a w h
  refine wp_seq ?_
  obtain ⟨r1, hr972, hF⟩ := of_bind hF
  obtain ⟨r2, hr973, hF⟩ := of_bind hF
  obtain ⟨hc974, hF⟩ := of_if hF
  obtain ⟨hc975, hF⟩ := of_if hF
  obtain ⟨hc976, hF⟩ := of_if hF
  obtain ⟨hc977, hF⟩ := of_if hF
  obtain ⟨r3, hr978, hF⟩ := of_bind hF
  refine wp_regy_seq tok (orc := orcL [(15, [⟨.bool, r1⟩]), (25, [⟨.bool, r2⟩]), (50, [⟨(.int .i64), r3⟩])]) (fz := []) (l := [1, 2, 5, 52]) (c := _) ([], [], [], []) 39 (.inr fun i h => h) h (by kernel_rfl) (by kernel_rfl) (AllP.cons (c70 k x0 r1 hr972) (AllP.cons (fun (hg : ((bif (!r1) then true else (((List.length x1 : Int) : Int) == (0 : Int))) = false)) => c71 k x0 x1 r2 (of_g hg hr973)) (AllP.cons hc974 (AllP.cons hc975 (AllP.cons hc976 (AllP.cons hc977 (AllP.cons (fun (hg : ((bif (bif (!r1) then true else (((List.length x1 : Int) : Int) == (0 : Int))) then true else (!r2)) = false)) => c72 k x0 x1 (List.getD x0.2.1 (Int.toNat (List.getD x1 (Int.toNat (0 : Int)) (0 : Int))) ((0 : Int), ((0 : Int), ((0 : Int), ((0 : Int), ((0 : Int), (⟨#[]⟩ : ByteArray))))))).1 (List.getD x0.2.1 (Int.toNat (List.getD x1 (Int.toNat (IntKind.i64.wrap ((List.length x1 : Int) - (1 : Int)))) (0 : Int))) ((0 : Int), ((0 : Int), ((0 : Int), ((0 : Int), ((0 : Int), (⟨#[]⟩ : ByteArray))))))).2.1 r3 (of_g hg hr978)) AllP.nil))))))) ?_
  intro a w h
  refine wp_if h (b := (bif (bif (bif (!r1) then true else (((List.length x1 : Int) : Int) == (0 : Int))) then true else (!r2)) then true else (decide ((r3 : Int) < (0 : Int))))) (by kernel_rfl) (fun hb => ?_) (fun hb => ?_)
  · replace hF := of_t hb hF
    refine wp_reg_seq tok (orc := orcL []) (fz := []) (l := [4, 5]) (c := _) (.inr fun i h => h) h (by kernel_rfl) (AllP.nil) ?_
    intro a w h
    cases hF
    exact wp_ret (ret_okR tok h rfl (by kernel_rfl)).1
  · replace hF := of_f hb hF
    refine wp_skip ?_
    obtain ⟨r4, hr971, hF⟩ := of_bind hF
    refine wp_reg_seq tok (orc := orcL [(55, [⟨sh14, r4⟩])]) (fz := []) (l := [1, 2, 5, 6]) (c := _) (.inr fun i h => h) h (by kernel_rfl) (AllP.cons (c73 k x0 false r4 hr971) AllP.nil) ?_
    intro a w h
    refine wp_seq ?_
    refine wp_reg_seq tok (orc := orcL []) (fz := []) (l := [1, 2, 5, 6, 7]) (c := _) (.inr fun i h => h) h (by kernel_rfl) (AllP.nil) ?_
    intro a w h
    refine wp_block ?_
    refine wp_loop_fuel (f15.l488 k x1 x0 r4) (fun ((v811, v812) : ((List (Int × (Int × (ByteArray × (Int × Int))))) × Int)) => [(1, .val (.sl false 2 (.int .i64)) x1), (2, .val sh11 (some x0)), (5, .val sh16 v811), (6, .val sh14 r4), (7, .val (.int .i64) v812)]) (fun v h => by obtain ⟨v811, v812⟩ := v; rw [f15.l488] at h; cases h) ?_ hF (h.arrive (fz := []) (l := [1, 2, 5, 6, 7]) (.inr fun i h => h) (by kernel_rfl))
    intro m488 v a w hF h
    obtain ⟨v811, v812⟩ := v
    rw [f15.l488] at hF
    refine wp_seq ?_
    refine wp_reg_seq tok (orc := orcL []) (fz := []) (l := [1, 2, 5, 6, 7, 59]) (c := _) (.inr fun i h => h) h (by kernel_rfl) (AllP.nil) ?_
    intro a w h
    refine wp_if h (b := (decide ((v812 : Int) < (List.length x1 : Int)))) (by kernel_rfl) (fun hb => ?_) (fun hb => ?_)
    · replace hF := of_t hb hF
      refine wp_skip ?_
      refine wp_mid (fun a w => ∃ v : (List (Int × (Int × (ByteArray × (Int × Int))))), f15.j892 k v812 ((f15.l488 k x1 x0 r4) m488) v = some r ∧ Rel w0 (fun _ => False) Zi Try.f15.ntmps ((fun (v891 : (List (Int × (Int × (ByteArray × (Int × Int)))))) => ([(1, .val (.sl false 2 (.int .i64)) x1), (2, .val sh11 (some x0)), (5, .val sh16 v891), (6, .val sh14 r4), (7, .val (.int .i64) v812)] : SS)) v) a w) ?_ ?_
      ·
        refine wp_block ?_
        obtain ⟨hc969, hF⟩ := of_if hF
        obtain ⟨hc970, hF⟩ := of_if hF
        refine wp_regy_seq tok (orc := orcL []) (fz := []) (l := [1, 2, 5, 6, 7, 8]) (c := _) ([], [], [], []) 9 (.inr fun i h => h) h (by kernel_rfl) (by kernel_rfl) (AllP.cons hc969 (AllP.cons hc970 AllP.nil)) ?_
        intro a w h
        refine wp_seq ?_
        obtain ⟨hc966, hF⟩ := of_if hF
        obtain ⟨r893, hr967, hF⟩ := of_bind hF
        obtain ⟨hc968, hF⟩ := of_if hF
        refine wp_regy_seq tok (orc := orcL [(80, [⟨(.int .i64), r893⟩])]) (fz := []) (l := [1, 2, 5, 6, 7, 8, 86]) (c := _) ([], [], [], []) 17 (.inr fun i h => h) h (by kernel_rfl) (by kernel_rfl) (AllP.cons hc966 (AllP.cons (fun (hg : ((decide ((v812 : Int) > (0 : Int))) = true)) => c74 k x0 r4 (List.getD x1 (Int.toNat (IntKind.i64.wrap (v812 - (1 : Int)))) (0 : Int)) r893 (of_g hg hr967)) (AllP.cons hc968 AllP.nil))) ?_
        intro a w h
        refine wp_if h (b := (bif (decide ((v812 : Int) > (0 : Int))) then ((r893 : Int) == (List.getD x1 (Int.toNat v812) (0 : Int))) else false)) (by kernel_rfl) (fun hb => ?_) (fun hb => ?_)
        · replace hF := of_t hb hF
          refine wp_reg_seq tok (orc := orcL []) (fz := []) (l := [1, 2, 5, 6, 7, 8, 9]) (c := _) (.inr fun i h => h) h (by kernel_rfl) (AllP.nil) ?_
          intro a w h
          obtain ⟨hc908, hF⟩ := of_if hF
          obtain ⟨hc909, hF⟩ := of_if hF
          refine wp_reg_seq tok (orc := orcL []) (fz := []) (l := [1, 2, 5, 6, 7, 8, 9]) (c := _) (.inr fun i h => h) h (by kernel_rfl) (AllP.cons hc908 (AllP.cons hc909 AllP.nil)) ?_
          intro a w h
          obtain ⟨v902, hv907, hF⟩ := of_bind hF
          replace h := h.cast (S' := [(1, .val (.sl false 2 (.int .i64)) x1), (2, .val sh11 (some x0)), (5, .val sh16 v902), (6, .val sh14 r4), (7, .val (.int .i64) v812), (8, .val sh17 (some (List.getD x0.2.1 (Int.toNat (List.getD x1 (Int.toNat v812) (0 : Int))) ((0 : Int), ((0 : Int), ((0 : Int), ((0 : Int), ((0 : Int), (⟨#[]⟩ : ByteArray))))))))), (9, .val (.int .i64) (IntKind.i64.wrap ((List.length v811 : Int) - (1 : Int))))]) (by cases hv907; kernel_rfl)
          obtain ⟨hc905, hF⟩ := of_if hF
          obtain ⟨hc906, hF⟩ := of_if hF
          refine wp_regy_seq tok (orc := orcL []) (fz := []) (l := [1, 2, 5, 6, 7]) (c := _) ([], [], [], []) 12 (.inr fun i h => h) h (by kernel_rfl) (by kernel_rfl) (AllP.cons hc905 (AllP.cons hc906 AllP.nil)) ?_
          intro a w h
          obtain ⟨v903, hv904, hF⟩ := of_bind hF
          replace h := h.cast (S' := [(1, .val (.sl false 2 (.int .i64)) x1), (2, .val sh11 (some x0)), (5, .val sh16 v903), (6, .val sh14 r4), (7, .val (.int .i64) v812)]) (by cases hv904; kernel_rfl)
          refine wp_exit ?_
          exact ⟨v903, hF, h.arrive (fz := []) (l := [1, 2, 5, 6, 7]) (.inr fun i h => h) (by kernel_rfl)⟩
        · replace hF := of_f hb hF
          refine wp_skip ?_
          refine wp_reg_seq tok (orc := orcL []) (fz := []) (l := [1, 2, 5, 6, 7, 8, 10]) (c := _) (.inr fun i h => h) h (by kernel_rfl) (AllP.nil) ?_
          intro a w h
          refine wp_seq ?_
          refine wp_reg_seq tok (orc := orcL []) (fz := []) (l := [1, 2, 5, 6, 7, 8, 10, 118]) (c := _) (.inr fun i h => h) h (by kernel_rfl) (AllP.nil) ?_
          intro a w h
          refine wp_midT (fun a w => ∃ v : (Int × Int), f15.j938 k v811 x0 x1 v812 (f15.j892 k v812 ((f15.l488 k x1 x0 r4) m488)) v = some r ∧ Rel w0 (fun _ => False) Zi Try.f15.ntmps ((fun ((v936, v937) : (Int × Int)) => ([(1, .val (.sl false 2 (.int .i64)) x1), (2, .val sh11 (some x0)), (5, .val sh16 v811), (6, .val sh14 r4), (7, .val (.int .i64) v812), (10, .val sh18 (some (v936, (v937, ((List.getD x0.2.1 (Int.toNat (List.getD x1 (Int.toNat v812) (0 : Int))) ((0 : Int), ((0 : Int), ((0 : Int), ((0 : Int), ((0 : Int), (⟨#[]⟩ : ByteArray))))))).2.2.2.2.2, ((1 : Int), (List.getD x0.2.1 (Int.toNat (List.getD x1 (Int.toNat v812) (0 : Int))) ((0 : Int), ((0 : Int), ((0 : Int), ((0 : Int), ((0 : Int), (⟨#[]⟩ : ByteArray))))))).2.2.2.2.1))))))] : SS)) v) a w) ?_ ?_
          ·
            refine wp_if h (b := (decide ((v812 : Int) > (0 : Int)))) (by kernel_rfl) (fun hb => ?_) (fun hb => ?_)
            · replace hF := of_t hb hF
              obtain ⟨hc941, hF⟩ := of_if hF
              obtain ⟨hc942, hF⟩ := of_if hF
              obtain ⟨r940, hr943, hF⟩ := of_bind hF
              refine wp_regy tok (orc := orcL [(131, [⟨(.int .i64), r940.1⟩, ⟨(.int .i64), r940.2⟩])]) (fz := []) (l := [1, 2, 5, 6, 7, 10]) (c := _) ([(16, 10)], [], [], [(14, [119])]) 17 (.inr fun i h => h) h (by kernel_rfl) (by kernel_rfl) (AllP.cons hc941 (AllP.cons hc942 (AllP.cons (c75 k x0 r4 (List.getD x1 (Int.toNat (IntKind.i64.wrap (v812 - (1 : Int)))) (0 : Int)) (List.getD x1 (Int.toNat v812) (0 : Int)) r940 hr943) AllP.nil))) ?_
              intro a w h
              exact ⟨(r940.1, r940.2), hF, h.arrive (fz := []) (l := [1, 2, 5, 6, 7, 10]) (.inr fun i h => h) (by kernel_rfl)⟩
            · replace hF := of_f hb hF
              obtain ⟨hc965, hF⟩ := of_if hF
              refine wp_reg_seq tok (orc := orcL []) (fz := []) (l := [1, 2, 5, 6, 7, 10, 11]) (c := _) (.inr fun i h => h) h (by kernel_rfl) (AllP.cons hc965 AllP.nil) ?_
              intro a w h
              refine wp_reg_seq tok (orc := orcL []) (fz := []) (l := [1, 2, 5, 6, 7, 10, 11, 12]) (c := _) (.inr fun i h => h) h (by kernel_rfl) (AllP.nil) ?_
              intro a w h
              refine wp_block ?_
              refine wp_loop_fuel (f15.l944 k r4 x0 x1 v812 (f15.j938 k v811 x0 x1 v812 (f15.j892 k v812 ((f15.l488 k x1 x0 r4) m488)))) (fun ((v959, v960) : (Int × Int)) => [(1, .val (.sl false 2 (.int .i64)) x1), (2, .val sh11 (some x0)), (5, .val sh16 v811), (6, .val sh14 r4), (7, .val (.int .i64) v812), (10, .val sh18 (some ((9 : Int), (v959, ((List.getD x0.2.1 (Int.toNat (List.getD x1 (Int.toNat v812) (0 : Int))) ((0 : Int), ((0 : Int), ((0 : Int), ((0 : Int), ((0 : Int), (⟨#[]⟩ : ByteArray))))))).2.2.2.2.2, ((1 : Int), (List.getD x0.2.1 (Int.toNat (List.getD x1 (Int.toNat v812) (0 : Int))) ((0 : Int), ((0 : Int), ((0 : Int), ((0 : Int), ((0 : Int), (⟨#[]⟩ : ByteArray))))))).2.2.2.2.1)))))), (11, .copy 6 [.idx (Int.toNat (List.getD x0.2.1 (Int.toNat (List.getD x1 (Int.toNat v812) (0 : Int))) ((0 : Int), ((0 : Int), ((0 : Int), ((0 : Int), ((0 : Int), (⟨#[]⟩ : ByteArray))))))).1)]), (12, .val (.int .i64) v960)]) (fun v h => by obtain ⟨v959, v960⟩ := v; rw [f15.l944] at h; cases h) ?_ hF (h.arrive (fz := []) (l := [1, 2, 5, 6, 7, 10, 11, 12]) (.inr fun i h => h) (by kernel_rfl))
              intro m944 v a w hF h
              obtain ⟨v959, v960⟩ := v
              rw [f15.l944] at hF
              refine wp_seq ?_
              obtain ⟨hc963, hF⟩ := of_if hF
              obtain ⟨hc964, hF⟩ := of_if hF
              refine wp_regy_seq tok (orc := orcL []) (fz := []) (l := [1, 2, 5, 6, 7, 10, 11, 12, 154]) (c := _) ([], [], [], []) 14 (.inr fun i h => h) h (by kernel_rfl) (by kernel_rfl) (AllP.cons hc963 (AllP.cons hc964 AllP.nil)) ?_
              intro a w h
              obtain ⟨v961, hv962, hF⟩ := of_bind hF
              replace h := h.cast (S' := [(1, .val (.sl false 2 (.int .i64)) x1), (2, .val sh11 (some x0)), (5, .val sh16 v811), (6, .val sh14 r4), (7, .val (.int .i64) v812), (10, .val sh18 (some ((9 : Int), (v959, ((List.getD x0.2.1 (Int.toNat (List.getD x1 (Int.toNat v812) (0 : Int))) ((0 : Int), ((0 : Int), ((0 : Int), ((0 : Int), ((0 : Int), (⟨#[]⟩ : ByteArray))))))).2.2.2.2.2, ((1 : Int), (List.getD x0.2.1 (Int.toNat (List.getD x1 (Int.toNat v812) (0 : Int))) ((0 : Int), ((0 : Int), ((0 : Int), ((0 : Int), ((0 : Int), (⟨#[]⟩ : ByteArray))))))).2.2.2.2.1)))))), (11, .copy 6 [.idx (Int.toNat (List.getD x0.2.1 (Int.toNat (List.getD x1 (Int.toNat v812) (0 : Int))) ((0 : Int), ((0 : Int), ((0 : Int), ((0 : Int), ((0 : Int), (⟨#[]⟩ : ByteArray))))))).1)]), (12, .val (.int .i64) v960), (154, .val .bool v961)]) (by cases hv962; kernel_rfl)
              refine wp_if h (b := v961) (by kernel_rfl) (fun hb => ?_) (fun hb => ?_)
              · replace hF := of_t hb hF
                refine wp_skip ?_
                refine wp_seq <| wp_block ?_
                refine wp_reg tok (orc := orcL []) (fz := []) (l := [1, 2, 5, 6, 7, 10, 11, 12]) (c := _) (.inr fun i h => h) h (by kernel_rfl) (AllP.nil) ?_
                intro a w h
                refine wp_reg tok (orc := orcL []) (fz := []) (l := [1, 2, 5, 6, 7, 10, 11, 12]) (c := _) (.inr fun i h => h) h (by kernel_rfl) (AllP.nil) ?_
                intro a w h
                exact ⟨((IntKind.i64.wrap (v959 + (1 : Int))), (IntKind.i64.wrap (v960 + (1 : Int)))), hF, h.arrive (fz := []) (l := [1, 2, 5, 6, 7, 10, 11, 12]) (.inr fun i h => h) (by kernel_rfl)⟩
              · replace hF := of_f hb hF
                refine wp_exit ?_
                exact ⟨((9 : Int), v959), hF, h.arrive (fz := []) (l := [1, 2, 5, 6, 7, 10]) (.inr fun i h => h) (by kernel_rfl)⟩
          · rintro a w ⟨v, hF, h⟩
            obtain ⟨v936, v937⟩ := v
            rw [f15.j938] at hF
            obtain ⟨hc939, hF⟩ := of_if hF
            refine wp_reg tok (orc := orcL []) (fz := []) (l := [1, 2, 5, 6, 7]) (c := _) (.inr fun i h => h) h (by kernel_rfl) (AllP.cons hc939 AllP.nil) ?_
            intro a w h
            exact ⟨(v811 ++ [(v936, (v937, ((List.getD x0.2.1 (Int.toNat (List.getD x1 (Int.toNat v812) (0 : Int))) ((0 : Int), ((0 : Int), ((0 : Int), ((0 : Int), ((0 : Int), (⟨#[]⟩ : ByteArray))))))).2.2.2.2.2, ((1 : Int), (List.getD x0.2.1 (Int.toNat (List.getD x1 (Int.toNat v812) (0 : Int))) ((0 : Int), ((0 : Int), ((0 : Int), ((0 : Int), ((0 : Int), (⟨#[]⟩ : ByteArray))))))).2.2.2.2.1))))]), hF, h.arrive (fz := []) (l := [1, 2, 5, 6, 7]) (.inr fun i h => h) (by kernel_rfl)⟩
      · rintro a w ⟨v891, hF, h⟩
        rw [f15.j892] at hF
        refine wp_reg tok (orc := orcL []) (fz := []) (l := [1, 2, 5, 6, 7]) (c := _) (.inr fun i h => h) h (by kernel_rfl) (AllP.nil) ?_
        intro a w h
        exact ⟨(v891, (IntKind.i64.wrap (v812 + (1 : Int)))), hF, h.arrive (fz := []) (l := [1, 2, 5, 6, 7]) (.inr fun i h => h) (by kernel_rfl)⟩
    · replace hF := of_f hb hF
      refine wp_exit ?_
      refine wp_reg_seq tok (orc := orcL []) (fz := []) (l := [4, 5]) (c := _) (.inr fun i h => h) h (by kernel_rfl) (AllP.nil) ?_
      intro a w h
      cases hF
      exact wp_ret (ret_okR tok h rfl (by kernel_rfl)).1

def f168 (k : Nat) (x0 : Int) : Option Bool := some (bif (decide ((x0 : Int) ≥ (1 : Int))) then (decide ((x0 : Int) ≤ (1000000000 : Int))) else false)
set_option maxRecDepth 100000 in
/-- 'impl.idOk'. -/
theorem c168 (k : Nat) (x0 : Int) (r : Bool) (hF : f168 k x0 = some r) : PCall Try.prog 168 [⟨(.int .i64), x0⟩] [⟨.bool, r⟩] := by
  refine pcall_intro Try.func168 rfl rfl (Nat.le_of_ble_eq_true rfl) ?_
  intro w0 Zi a w h
  rw [f168] at hF
  refine wp_reg_seq tok (orc := orcL []) (fz := []) (l := [0]) (c := _) (.inr fun i h => h) h (by kernel_rfl) (AllP.nil) ?_
  intro a w h
  refine wp_reg_seq tok (orc := orcL []) (fz := []) (l := [2]) (c := _) (.inr fun i h => h) h (by kernel_rfl) (AllP.nil) ?_
  intro a w h
  cases hF
  exact wp_ret (ret_okR tok h rfl (by kernel_rfl)).1

def f169 (k : Nat) (x0 : (Int × Int)) : Option Bool := some (bif (bif (bif (decide ((x0.1 : Int) ≥ (-10000000 : Int))) then (decide ((x0.1 : Int) ≤ (10000000 : Int))) else false) then (decide ((x0.2 : Int) ≥ (-10000000 : Int))) else false) then (decide ((x0.2 : Int) ≤ (10000000 : Int))) else false)
set_option maxRecDepth 100000 in
/-- 'impl.PointOk'. -/
theorem c169 (k : Nat) (x0 : (Int × Int)) (r : Bool) (hF : f169 k x0 = some r) : PCall Try.prog 169 [⟨sh5, x0⟩] [⟨.bool, r⟩] := by
  refine pcall_intro Try.func169 rfl rfl (Nat.le_of_ble_eq_true rfl) ?_
  intro w0 Zi a w h
  rw [f169] at hF
  refine wp_reg_seq tok (orc := orcL []) (fz := []) (l := [1]) (c := _) (.inr fun i h => h) h (by kernel_rfl) (AllP.nil) ?_
  intro a w h
  refine wp_reg_seq tok (orc := orcL []) (fz := []) (l := [2]) (c := _) (.inr fun i h => h) h (by kernel_rfl) (AllP.nil) ?_
  intro a w h
  cases hF
  exact wp_ret (ret_okR tok h rfl (by kernel_rfl)).1

def f79.j256 (k : Nat) (v247 : Int) (q209 : Int → Option Bool) : Unit → Option Bool
  | _ => q209 (IntKind.i64.wrap (v247 + (1 : Int)))
def f79.l209 (k : Nat) (x0 : ((List (Int × (Int × Int))) × ((List (Int × (Int × (Int × (Int × (Int × ByteArray)))))) × (List (Int × Int))))) : Nat → Int → Option Bool
  | 0, _ => none
  | m209 + 1, v247 => if (decide ((v247 : Int) < (List.length x0.2.2 : Int))) then (if (0 ≤ v247 ∧ v247 < (List.length x0.2.2 : Int)) then (if (((bif (bif (bif (decide (((List.getD x0.2.2 (Int.toNat v247) ((0 : Int), (0 : Int))).1 : Int) < (0 : Int))) then true else (decide (((List.getD x0.2.2 (Int.toNat v247) ((0 : Int), (0 : Int))).1 : Int) ≥ (List.length x0.2.1 : Int)))) then true else (decide (((List.getD x0.2.2 (Int.toNat v247) ((0 : Int), (0 : Int))).2 : Int) < (0 : Int)))) then true else (decide (((List.getD x0.2.2 (Int.toNat v247) ((0 : Int), (0 : Int))).2 : Int) ≥ (List.length x0.2.1 : Int)))) = false) → (0 ≤ (List.getD x0.2.2 (Int.toNat v247) ((0 : Int), (0 : Int))).1 ∧ (List.getD x0.2.2 (Int.toNat v247) ((0 : Int), (0 : Int))).1 < (List.length x0.2.1 : Int))) then (if (((bif (bif (bif (decide (((List.getD x0.2.2 (Int.toNat v247) ((0 : Int), (0 : Int))).1 : Int) < (0 : Int))) then true else (decide (((List.getD x0.2.2 (Int.toNat v247) ((0 : Int), (0 : Int))).1 : Int) ≥ (List.length x0.2.1 : Int)))) then true else (decide (((List.getD x0.2.2 (Int.toNat v247) ((0 : Int), (0 : Int))).2 : Int) < (0 : Int)))) then true else (decide (((List.getD x0.2.2 (Int.toNat v247) ((0 : Int), (0 : Int))).2 : Int) ≥ (List.length x0.2.1 : Int)))) = false) → (0 ≤ (List.getD x0.2.2 (Int.toNat v247) ((0 : Int), (0 : Int))).2 ∧ (List.getD x0.2.2 (Int.toNat v247) ((0 : Int), (0 : Int))).2 < (List.length x0.2.1 : Int))) then ((some ((bif (bif (bif (bif (decide (((List.getD x0.2.2 (Int.toNat v247) ((0 : Int), (0 : Int))).1 : Int) < (0 : Int))) then true else (decide (((List.getD x0.2.2 (Int.toNat v247) ((0 : Int), (0 : Int))).1 : Int) ≥ (List.length x0.2.1 : Int)))) then true else (decide (((List.getD x0.2.2 (Int.toNat v247) ((0 : Int), (0 : Int))).2 : Int) < (0 : Int)))) then true else (decide (((List.getD x0.2.2 (Int.toNat v247) ((0 : Int), (0 : Int))).2 : Int) ≥ (List.length x0.2.1 : Int)))) then true else (((List.getD x0.2.1 (Int.toNat (List.getD x0.2.2 (Int.toNat v247) ((0 : Int), (0 : Int))).1) ((0 : Int), ((0 : Int), ((0 : Int), ((0 : Int), ((0 : Int), (⟨#[]⟩ : ByteArray))))))).2.1 : Int) != (List.getD x0.2.1 (Int.toNat (List.getD x0.2.2 (Int.toNat v247) ((0 : Int), (0 : Int))).2) ((0 : Int), ((0 : Int), ((0 : Int), ((0 : Int), ((0 : Int), (⟨#[]⟩ : ByteArray))))))).1)) : Bool)).bind fun v257 => (if v257 then (some false) else (if (decide ((v247 : Int) > (0 : Int))) then (if (0 ≤ (IntKind.i64.wrap (v247 - (1 : Int))) ∧ (IntKind.i64.wrap (v247 - (1 : Int))) < (List.length x0.2.2 : Int)) then ((some ((bif (decide (((List.getD x0.2.2 (Int.toNat (IntKind.i64.wrap (v247 - (1 : Int)))) ((0 : Int), (0 : Int))).1 : Int) > (List.getD x0.2.2 (Int.toNat v247) ((0 : Int), (0 : Int))).1)) then true else (bif (((List.getD x0.2.2 (Int.toNat (IntKind.i64.wrap (v247 - (1 : Int)))) ((0 : Int), (0 : Int))).1 : Int) == (List.getD x0.2.2 (Int.toNat v247) ((0 : Int), (0 : Int))).1) then (decide (((List.getD x0.2.2 (Int.toNat (IntKind.i64.wrap (v247 - (1 : Int)))) ((0 : Int), (0 : Int))).2 : Int) ≥ (List.getD x0.2.2 (Int.toNat v247) ((0 : Int), (0 : Int))).2)) else false)) : Bool)).bind fun v258 => (if v258 then (some false) else (f79.j256 k v247 ((f79.l209 k x0) m209) ()))) else none) else (f79.j256 k v247 ((f79.l209 k x0) m209) ())))) else none) else none) else none) else (some true)
def f79.l118 (k : Nat) (x0 : ((List (Int × (Int × Int))) × ((List (Int × (Int × (Int × (Int × (Int × ByteArray)))))) × (List (Int × Int))))) : Nat → Int → Option Bool
  | 0, _ => none
  | m118 + 1, v142 => if (decide ((v142 : Int) < (List.length x0.2.1 : Int))) then (if (0 ≤ v142 ∧ v142 < (List.length x0.2.1 : Int)) then ((if ((bif (bif (bif (decide (((List.getD x0.2.1 (Int.toNat v142) ((0 : Int), ((0 : Int), ((0 : Int), ((0 : Int), ((0 : Int), (⟨#[]⟩ : ByteArray))))))).1 : Int) < (0 : Int))) then true else (decide (((List.getD x0.2.1 (Int.toNat v142) ((0 : Int), ((0 : Int), ((0 : Int), ((0 : Int), ((0 : Int), (⟨#[]⟩ : ByteArray))))))).1 : Int) ≥ (List.length x0.1 : Int)))) then true else (decide (((List.getD x0.2.1 (Int.toNat v142) ((0 : Int), ((0 : Int), ((0 : Int), ((0 : Int), ((0 : Int), (⟨#[]⟩ : ByteArray))))))).2.1 : Int) < (0 : Int)))) then true else (decide (((List.getD x0.2.1 (Int.toNat v142) ((0 : Int), ((0 : Int), ((0 : Int), ((0 : Int), ((0 : Int), (⟨#[]⟩ : ByteArray))))))).2.1 : Int) ≥ (List.length x0.1 : Int)))) = false) then f168 k (List.getD x0.2.1 (Int.toNat v142) ((0 : Int), ((0 : Int), ((0 : Int), ((0 : Int), ((0 : Int), (⟨#[]⟩ : ByteArray))))))).2.2.1 else some default).bind fun r148 => ((some ((bif (bif (bif (bif (bif (bif (bif (bif (decide (((List.getD x0.2.1 (Int.toNat v142) ((0 : Int), ((0 : Int), ((0 : Int), ((0 : Int), ((0 : Int), (⟨#[]⟩ : ByteArray))))))).1 : Int) < (0 : Int))) then true else (decide (((List.getD x0.2.1 (Int.toNat v142) ((0 : Int), ((0 : Int), ((0 : Int), ((0 : Int), ((0 : Int), (⟨#[]⟩ : ByteArray))))))).1 : Int) ≥ (List.length x0.1 : Int)))) then true else (decide (((List.getD x0.2.1 (Int.toNat v142) ((0 : Int), ((0 : Int), ((0 : Int), ((0 : Int), ((0 : Int), (⟨#[]⟩ : ByteArray))))))).2.1 : Int) < (0 : Int)))) then true else (decide (((List.getD x0.2.1 (Int.toNat v142) ((0 : Int), ((0 : Int), ((0 : Int), ((0 : Int), ((0 : Int), (⟨#[]⟩ : ByteArray))))))).2.1 : Int) ≥ (List.length x0.1 : Int)))) then true else (!r148)) then true else (decide (((List.getD x0.2.1 (Int.toNat v142) ((0 : Int), ((0 : Int), ((0 : Int), ((0 : Int), ((0 : Int), (⟨#[]⟩ : ByteArray))))))).2.2.2.1 : Int) < (1 : Int)))) then true else (decide (((List.getD x0.2.1 (Int.toNat v142) ((0 : Int), ((0 : Int), ((0 : Int), ((0 : Int), ((0 : Int), (⟨#[]⟩ : ByteArray))))))).2.2.2.1 : Int) > (1000000 : Int)))) then true else (decide (((List.getD x0.2.1 (Int.toNat v142) ((0 : Int), ((0 : Int), ((0 : Int), ((0 : Int), ((0 : Int), (⟨#[]⟩ : ByteArray))))))).2.2.2.2.1 : Int) < (0 : Int)))) then true else (decide (((List.getD x0.2.1 (Int.toNat v142) ((0 : Int), ((0 : Int), ((0 : Int), ((0 : Int), ((0 : Int), (⟨#[]⟩ : ByteArray))))))).2.2.2.2.1 : Int) > (1000000000 : Int)))) : Bool)).bind fun v149 => (if v149 then (some false) else ((f79.l118 k x0) m118 (IntKind.i64.wrap (v142 + (1 : Int))))))) else none) else (f79.l209 k x0 k (0 : Int))
def f79.l42 (k : Nat) (x0 : ((List (Int × (Int × Int))) × ((List (Int × (Int × (Int × (Int × (Int × ByteArray)))))) × (List (Int × Int))))) : Nat → Int → Option Bool
  | 0, _ => none
  | m42 + 1, v70 => if (decide ((v70 : Int) < (List.length x0.1 : Int))) then (if (0 ≤ v70 ∧ v70 < (List.length x0.1 : Int)) then ((f168 k (List.getD x0.1 (Int.toNat v70) ((0 : Int), ((0 : Int), (0 : Int)))).1).bind fun r77 => ((if ((!r77) = false) then f169 k (List.getD x0.1 (Int.toNat v70) ((0 : Int), ((0 : Int), (0 : Int)))).2 else some default).bind fun r78 => (if ((((bif (!r77) then true else (!r78)) = false) ∧ ((decide ((v70 : Int) > (0 : Int))) = true)) → (0 ≤ (IntKind.i64.wrap (v70 - (1 : Int))) ∧ (IntKind.i64.wrap (v70 - (1 : Int))) < (List.length x0.1 : Int))) then (if (bif (bif (!r77) then true else (!r78)) then true else (bif (decide ((v70 : Int) > (0 : Int))) then (decide (((List.getD x0.1 (Int.toNat (IntKind.i64.wrap (v70 - (1 : Int)))) ((0 : Int), ((0 : Int), (0 : Int)))).1 : Int) ≥ (List.getD x0.1 (Int.toNat v70) ((0 : Int), ((0 : Int), (0 : Int)))).1)) else false)) then (some false) else ((f79.l42 k x0) m42 (IntKind.i64.wrap (v70 + (1 : Int))))) else none))) else none) else (f79.l118 k x0 k (0 : Int))
def f79 (k : Nat) (x0 : ((List (Int × (Int × Int))) × ((List (Int × (Int × (Int × (Int × (Int × ByteArray)))))) × (List (Int × Int))))) : Option Bool := if (bif (bif (decide (((List.length x0.1 : Int) : Int) > (5000 : Int))) then true else (decide (((List.length x0.2.1 : Int) : Int) > (8000 : Int)))) then true else (decide (((List.length x0.2.2 : Int) : Int) > (2000 : Int)))) then (some false) else (f79.l42 k x0 k (0 : Int))
set_option maxRecDepth 100000 in
/-- 'impl.GraphOk'. -/
theorem c79 (k : Nat) (x0 : ((List (Int × (Int × Int))) × ((List (Int × (Int × (Int × (Int × (Int × ByteArray)))))) × (List (Int × Int))))) (r : Bool) (hF : f79 k x0 = some r) : PCall Try.prog 79 [⟨sh12, x0⟩] [⟨.bool, r⟩] := by
  refine pcall_intro Try.func79 rfl rfl (Nat.le_of_ble_eq_true rfl) ?_
  intro w0 Zi a w h
  rw [f79] at hF
  refine wp_reg_seq tok (orc := orcL []) (fz := []) (l := [1]) (c := _) (.inr fun i h => h) h (by kernel_rfl) (AllP.nil) ?_
  intro a w h
  refine wp_seq ?_
  refine wp_reg_seq tok (orc := orcL []) (fz := []) (l := [1, 27]) (c := _) (.inr fun i h => h) h (by kernel_rfl) (AllP.nil) ?_
  intro a w h
  refine wp_if h (b := (bif (bif (decide (((List.length x0.1 : Int) : Int) > (5000 : Int))) then true else (decide (((List.length x0.2.1 : Int) : Int) > (8000 : Int)))) then true else (decide (((List.length x0.2.2 : Int) : Int) > (2000 : Int))))) (by kernel_rfl) (fun hb => ?_) (fun hb => ?_)
  · replace hF := of_t hb hF
    refine wp_reg_seq tok (orc := orcL []) (fz := []) (l := [2]) (c := _) (.inr fun i h => h) h (by kernel_rfl) (AllP.nil) ?_
    intro a w h
    cases hF
    exact wp_ret (ret_okR tok h rfl (by kernel_rfl)).1
  · replace hF := of_f hb hF
    refine wp_skip ?_
    refine wp_seq ?_
    refine wp_reg_seq tok (orc := orcL []) (fz := []) (l := [1, 29, 30, 31]) (c := _) (.inr fun i h => h) h (by kernel_rfl) (AllP.nil) ?_
    intro a w h
    refine wp_block ?_
    refine wp_loop_fuel (f79.l42 k x0) (fun (v70 : Int) => [(1, .val sh11 (some x0)), (29, .val sh19 x0.1), (30, .val (.int .i64) (List.length x0.1 : Int)), (31, .val (.int .i64) v70)]) (fun v h => by rw [f79.l42] at h; cases h) ?_ hF (h.arrive (fz := []) (l := [1, 29, 30, 31]) (.inr fun i h => h) (by kernel_rfl))
    intro m42 v70 a w hF h
    rw [f79.l42] at hF
    refine wp_reg_seq tok (orc := orcL []) (fz := []) (l := [1, 29, 30, 31, 32]) (c := _) (.inr fun i h => h) h (by kernel_rfl) (AllP.nil) ?_
    intro a w h
    refine wp_seq <| wp_if h (b := (decide ((v70 : Int) < (List.length x0.1 : Int)))) (by kernel_rfl) (fun hb => ?_) (fun hb => ?_)
    · replace hF := of_t hb hF
      refine wp_skip ?_
      refine wp_seq <| wp_block ?_
      obtain ⟨hc82, hF⟩ := of_if hF
      refine wp_reg_seq tok (orc := orcL []) (fz := []) (l := [1, 3, 4, 29, 30, 31]) (c := _) (.inr fun i h => h) h (by kernel_rfl) (AllP.cons hc82 AllP.nil) ?_
      intro a w h
      obtain ⟨r77, hr79, hF⟩ := of_bind hF
      obtain ⟨r78, hr80, hF⟩ := of_bind hF
      obtain ⟨hc81, hF⟩ := of_if hF
      refine wp_regy_seq tok (orc := orcL [(38, [⟨.bool, r77⟩]), (43, [⟨.bool, r78⟩])]) (fz := []) (l := [1, 29, 30, 31, 61]) (c := _) ([], [], [], []) 26 (.inr fun i h => h) h (by kernel_rfl) (by kernel_rfl) (AllP.cons (c168 k (List.getD x0.1 (Int.toNat v70) ((0 : Int), ((0 : Int), (0 : Int)))).1 r77 hr79) (AllP.cons (fun (hg : ((!r77) = false)) => c169 k (List.getD x0.1 (Int.toNat v70) ((0 : Int), ((0 : Int), (0 : Int)))).2 r78 (of_g hg hr80)) (AllP.cons hc81 AllP.nil))) ?_
      intro a w h
      refine wp_if h (b := (bif (bif (!r77) then true else (!r78)) then true else (bif (decide ((v70 : Int) > (0 : Int))) then (decide (((List.getD x0.1 (Int.toNat (IntKind.i64.wrap (v70 - (1 : Int)))) ((0 : Int), ((0 : Int), (0 : Int)))).1 : Int) ≥ (List.getD x0.1 (Int.toNat v70) ((0 : Int), ((0 : Int), (0 : Int)))).1)) else false))) (by kernel_rfl) (fun hb => ?_) (fun hb => ?_)
      · replace hF := of_t hb hF
        refine wp_reg_seq tok (orc := orcL []) (fz := []) (l := [2]) (c := _) (.inr fun i h => h) h (by kernel_rfl) (AllP.nil) ?_
        intro a w h
        cases hF
        exact wp_ret (ret_okR tok h rfl (by kernel_rfl)).1
      · replace hF := of_f hb hF
        refine wp_skip ?_
        refine wp_reg tok (orc := orcL []) (fz := []) (l := [1, 29, 30, 31]) (c := _) (.inr fun i h => h) h (by kernel_rfl) (AllP.nil) ?_
        intro a w h
        exact ⟨(IntKind.i64.wrap (v70 + (1 : Int))), hF, h.arrive (fz := []) (l := [1, 29, 30, 31]) (.inr fun i h => h) (by kernel_rfl)⟩
    · replace hF := of_f hb hF
      refine wp_exit ?_
      refine wp_reg_seq tok (orc := orcL []) (fz := []) (l := [1, 5]) (c := _) (.inr fun i h => h) h (by kernel_rfl) (AllP.nil) ?_
      intro a w h
      refine wp_seq ?_
      refine wp_reg_seq tok (orc := orcL []) (fz := []) (l := [1, 5, 67, 68, 69]) (c := _) (.inr fun i h => h) h (by kernel_rfl) (AllP.nil) ?_
      intro a w h
      refine wp_block ?_
      refine wp_loop_fuel (f79.l118 k x0) (fun (v142 : Int) => [(1, .val sh11 (some x0)), (5, .val (.int .i64) (List.length x0.1 : Int)), (67, .val sh20 x0.2.1), (68, .val (.int .i64) (List.length x0.2.1 : Int)), (69, .val (.int .i64) v142)]) (fun v h => by rw [f79.l118] at h; cases h) ?_ hF (h.arrive (fz := []) (l := [1, 5, 67, 68, 69]) (.inr fun i h => h) (by kernel_rfl))
      intro m118 v142 a w hF h
      rw [f79.l118] at hF
      refine wp_reg_seq tok (orc := orcL []) (fz := []) (l := [1, 5, 67, 68, 69, 70]) (c := _) (.inr fun i h => h) h (by kernel_rfl) (AllP.nil) ?_
      intro a w h
      refine wp_seq <| wp_if h (b := (decide ((v142 : Int) < (List.length x0.2.1 : Int)))) (by kernel_rfl) (fun hb => ?_) (fun hb => ?_)
      · replace hF := of_t hb hF
        refine wp_skip ?_
        refine wp_seq <| wp_block ?_
        obtain ⟨hc152, hF⟩ := of_if hF
        refine wp_reg_seq tok (orc := orcL []) (fz := []) (l := [1, 5, 7, 67, 68, 69]) (c := _) (.inr fun i h => h) h (by kernel_rfl) (AllP.cons hc152 AllP.nil) ?_
        intro a w h
        obtain ⟨r148, hr151, hF⟩ := of_bind hF
        refine wp_reg_seq tok (orc := orcL [(96, [⟨.bool, r148⟩])]) (fz := []) (l := [1, 5, 67, 68, 69, 118]) (c := _) (.inr fun i h => h) h (by kernel_rfl) (AllP.cons (fun (hg : ((bif (bif (bif (decide (((List.getD x0.2.1 (Int.toNat v142) ((0 : Int), ((0 : Int), ((0 : Int), ((0 : Int), ((0 : Int), (⟨#[]⟩ : ByteArray))))))).1 : Int) < (0 : Int))) then true else (decide (((List.getD x0.2.1 (Int.toNat v142) ((0 : Int), ((0 : Int), ((0 : Int), ((0 : Int), ((0 : Int), (⟨#[]⟩ : ByteArray))))))).1 : Int) ≥ (List.length x0.1 : Int)))) then true else (decide (((List.getD x0.2.1 (Int.toNat v142) ((0 : Int), ((0 : Int), ((0 : Int), ((0 : Int), ((0 : Int), (⟨#[]⟩ : ByteArray))))))).2.1 : Int) < (0 : Int)))) then true else (decide (((List.getD x0.2.1 (Int.toNat v142) ((0 : Int), ((0 : Int), ((0 : Int), ((0 : Int), ((0 : Int), (⟨#[]⟩ : ByteArray))))))).2.1 : Int) ≥ (List.length x0.1 : Int)))) = false)) => c168 k (List.getD x0.2.1 (Int.toNat v142) ((0 : Int), ((0 : Int), ((0 : Int), ((0 : Int), ((0 : Int), (⟨#[]⟩ : ByteArray))))))).2.2.1 r148 (of_g hg hr151)) AllP.nil) ?_
        intro a w h
        obtain ⟨v149, hv150, hF⟩ := of_bind hF
        replace h := h.cast (S' := [(1, .val sh11 (some x0)), (5, .val (.int .i64) (List.length x0.1 : Int)), (67, .val sh20 x0.2.1), (68, .val (.int .i64) (List.length x0.2.1 : Int)), (69, .val (.int .i64) v142), (118, .val .bool v149)]) (by cases hv150; kernel_rfl)
        refine wp_if h (b := v149) (by kernel_rfl) (fun hb => ?_) (fun hb => ?_)
        · replace hF := of_t hb hF
          refine wp_reg_seq tok (orc := orcL []) (fz := []) (l := [2]) (c := _) (.inr fun i h => h) h (by kernel_rfl) (AllP.nil) ?_
          intro a w h
          cases hF
          exact wp_ret (ret_okR tok h rfl (by kernel_rfl)).1
        · replace hF := of_f hb hF
          refine wp_skip ?_
          refine wp_reg tok (orc := orcL []) (fz := []) (l := [1, 5, 67, 68, 69]) (c := _) (.inr fun i h => h) h (by kernel_rfl) (AllP.nil) ?_
          intro a w h
          exact ⟨(IntKind.i64.wrap (v142 + (1 : Int))), hF, h.arrive (fz := []) (l := [1, 5, 67, 68, 69]) (.inr fun i h => h) (by kernel_rfl)⟩
      · replace hF := of_f hb hF
        refine wp_exit ?_
        refine wp_reg_seq tok (orc := orcL []) (fz := []) (l := [1, 8]) (c := _) (.inr fun i h => h) h (by kernel_rfl) (AllP.nil) ?_
        intro a w h
        refine wp_seq ?_
        refine wp_reg_seq tok (orc := orcL []) (fz := []) (l := [1, 8, 124, 125, 126]) (c := _) (.inr fun i h => h) h (by kernel_rfl) (AllP.nil) ?_
        intro a w h
        refine wp_block ?_
        refine wp_loop_fuel (f79.l209 k x0) (fun (v247 : Int) => [(1, .val sh11 (some x0)), (8, .val (.int .i64) (List.length x0.2.1 : Int)), (124, .val sh21 x0.2.2), (125, .val (.int .i64) (List.length x0.2.2 : Int)), (126, .val (.int .i64) v247)]) (fun v h => by rw [f79.l209] at h; cases h) ?_ hF (h.arrive (fz := []) (l := [1, 8, 124, 125, 126]) (.inr fun i h => h) (by kernel_rfl))
        intro m209 v247 a w hF h
        rw [f79.l209] at hF
        refine wp_reg_seq tok (orc := orcL []) (fz := []) (l := [1, 8, 124, 125, 126, 127]) (c := _) (.inr fun i h => h) h (by kernel_rfl) (AllP.nil) ?_
        intro a w h
        refine wp_seq <| wp_if h (b := (decide ((v247 : Int) < (List.length x0.2.2 : Int)))) (by kernel_rfl) (fun hb => ?_) (fun hb => ?_)
        · replace hF := of_t hb hF
          refine wp_skip ?_
          refine wp_mid (fun a w => ∃ v : Unit, f79.j256 k v247 ((f79.l209 k x0) m209) v = some r ∧ Rel w0 (fun _ => False) Zi Try.f79.ntmps ((fun (_ : Unit) => ([(1, .val sh11 (some x0)), (8, .val (.int .i64) (List.length x0.2.1 : Int)), (124, .val sh21 x0.2.2), (125, .val (.int .i64) (List.length x0.2.2 : Int)), (126, .val (.int .i64) v247)] : SS)) v) a w) ?_ ?_
          ·
            refine wp_block ?_
            obtain ⟨hc264, hF⟩ := of_if hF
            refine wp_reg_seq tok (orc := orcL []) (fz := []) (l := [1, 8, 9, 10, 124, 125, 126]) (c := _) (.inr fun i h => h) h (by kernel_rfl) (AllP.cons hc264 AllP.nil) ?_
            intro a w h
            refine wp_seq ?_
            obtain ⟨hc262, hF⟩ := of_if hF
            obtain ⟨hc263, hF⟩ := of_if hF
            refine wp_regy_seq tok (orc := orcL []) (fz := []) (l := [1, 8, 9, 10, 124, 125, 126, 167]) (c := _) ([], [], [], []) 37 (.inr fun i h => h) h (by kernel_rfl) (by kernel_rfl) (AllP.cons hc262 (AllP.cons hc263 AllP.nil)) ?_
            intro a w h
            obtain ⟨v257, hv261, hF⟩ := of_bind hF
            replace h := h.cast (S' := [(1, .val sh11 (some x0)), (8, .val (.int .i64) (List.length x0.2.1 : Int)), (9, .val (.int .i64) v247), (10, .val sh13 (some (List.getD x0.2.2 (Int.toNat v247) ((0 : Int), (0 : Int))))), (124, .val sh21 x0.2.2), (125, .val (.int .i64) (List.length x0.2.2 : Int)), (126, .val (.int .i64) v247), (167, .val .bool v257)]) (by cases hv261; kernel_rfl)
            refine wp_if h (b := v257) (by kernel_rfl) (fun hb => ?_) (fun hb => ?_)
            · replace hF := of_t hb hF
              refine wp_reg_seq tok (orc := orcL []) (fz := []) (l := [2]) (c := _) (.inr fun i h => h) h (by kernel_rfl) (AllP.nil) ?_
              intro a w h
              cases hF
              exact wp_ret (ret_okR tok h rfl (by kernel_rfl)).1
            · replace hF := of_f hb hF
              refine wp_skip ?_
              refine wp_reg_seq tok (orc := orcL []) (fz := []) (l := [1, 8, 9, 10, 124, 125, 126, 169]) (c := _) (.inr fun i h => h) h (by kernel_rfl) (AllP.nil) ?_
              intro a w h
              refine wp_if h (b := (decide ((v247 : Int) > (0 : Int)))) (by kernel_rfl) (fun hb => ?_) (fun hb => ?_)
              · replace hF := of_t hb hF
                obtain ⟨hc260, hF⟩ := of_if hF
                refine wp_reg_seq tok (orc := orcL []) (fz := []) (l := [1, 8, 10, 11, 124, 125, 126]) (c := _) (.inr fun i h => h) h (by kernel_rfl) (AllP.cons hc260 AllP.nil) ?_
                intro a w h
                refine wp_reg_seq tok (orc := orcL []) (fz := []) (l := [1, 8, 124, 125, 126, 194]) (c := _) (.inr fun i h => h) h (by kernel_rfl) (AllP.nil) ?_
                intro a w h
                obtain ⟨v258, hv259, hF⟩ := of_bind hF
                replace h := h.cast (S' := [(1, .val sh11 (some x0)), (8, .val (.int .i64) (List.length x0.2.1 : Int)), (124, .val sh21 x0.2.2), (125, .val (.int .i64) (List.length x0.2.2 : Int)), (126, .val (.int .i64) v247), (194, .val .bool v258)]) (by cases hv259; kernel_rfl)
                refine wp_if h (b := v258) (by kernel_rfl) (fun hb => ?_) (fun hb => ?_)
                · replace hF := of_t hb hF
                  refine wp_reg_seq tok (orc := orcL []) (fz := []) (l := [2]) (c := _) (.inr fun i h => h) h (by kernel_rfl) (AllP.nil) ?_
                  intro a w h
                  cases hF
                  exact wp_ret (ret_okR tok h rfl (by kernel_rfl)).1
                · replace hF := of_f hb hF
                  refine wp_skip ?_
                  exact ⟨(), hF, h.arrive (fz := []) (l := [1, 8, 124, 125, 126]) (.inr fun i h => h) (by kernel_rfl)⟩
              · replace hF := of_f hb hF
                refine wp_skip ?_
                exact ⟨(), hF, h.arrive (fz := []) (l := [1, 8, 124, 125, 126]) (.inr fun i h => h) (by kernel_rfl)⟩
          · rintro a w ⟨v, hF, h⟩
            obtain ⟨⟩ := v
            rw [f79.j256] at hF
            refine wp_reg tok (orc := orcL []) (fz := []) (l := [1, 8, 124, 125, 126]) (c := _) (.inr fun i h => h) h (by kernel_rfl) (AllP.nil) ?_
            intro a w h
            exact ⟨(IntKind.i64.wrap (v247 + (1 : Int))), hF, h.arrive (fz := []) (l := [1, 8, 124, 125, 126]) (.inr fun i h => h) (by kernel_rfl)⟩
        · replace hF := of_f hb hF
          refine wp_exit ?_
          refine wp_reg_seq tok (orc := orcL []) (fz := []) (l := [2]) (c := _) (.inr fun i h => h) h (by kernel_rfl) (AllP.nil) ?_
          intro a w h
          cases hF
          exact wp_ret (ret_okR tok h rfl (by kernel_rfl)).1

def f80.l126 (k : Nat) (x0 : ((List (Int × (Int × Int))) × ((List (Int × (Int × (Int × (Int × (Int × ByteArray)))))) × (List (Int × Int))))) (v94 : (List (List Int))) (v95 : (List (List Int))) : Nat → ((List ((Int × Int) × Bool)) × Int) → Option (((List (Int × (Int × Int))) × ((List (Int × (Int × (Int × (Int × (Int × ByteArray)))))) × (List (Int × Int)))) × ((List (List Int)) × ((List (List Int)) × (Option (List ((Int × Int) × Bool))))))
  | 0, _ => none
  | m126 + 1, (v137, v138) => if (decide ((v138 : Int) < (List.length x0.2.2 : Int))) then (if (0 ≤ v138 ∧ v138 < (List.length x0.2.2 : Int)) then ((f80.l126 k x0 v94 v95) m126 ((mput (Sh.beq sh5) (List.getD x0.2.2 (Int.toNat v138) ((0 : Int), (0 : Int))) true v137), (IntKind.i64.wrap (v138 + (1 : Int))))) else none) else (some (x0, (v94, (v95, (some v137)))))
def f80.l56 (k : Nat) (x0 : ((List (Int × (Int × Int))) × ((List (Int × (Int × (Int × (Int × (Int × ByteArray)))))) × (List (Int × Int))))) : Nat → ((List (List Int)) × (List (List Int)) × Int) → Option (((List (Int × (Int × Int))) × ((List (Int × (Int × (Int × (Int × (Int × ByteArray)))))) × (List (Int × Int)))) × ((List (List Int)) × ((List (List Int)) × (Option (List ((Int × Int) × Bool))))))
  | 0, _ => none
  | m56 + 1, (v94, v95, v96) => if (decide ((v96 : Int) < (List.length x0.2.1 : Int))) then (if (0 ≤ v96 ∧ v96 < (List.length x0.2.1 : Int)) then (if (0 ≤ (List.getD x0.2.1 (Int.toNat v96) ((0 : Int), ((0 : Int), ((0 : Int), ((0 : Int), ((0 : Int), (⟨#[]⟩ : ByteArray))))))).1 ∧ (List.getD x0.2.1 (Int.toNat v96) ((0 : Int), ((0 : Int), ((0 : Int), ((0 : Int), ((0 : Int), (⟨#[]⟩ : ByteArray))))))).1 < (List.length v94 : Int)) then (if ((List.length (List.getD v94 (Int.toNat (List.getD x0.2.1 (Int.toNat v96) ((0 : Int), ((0 : Int), ((0 : Int), ((0 : Int), ((0 : Int), (⟨#[]⟩ : ByteArray))))))).1) ([] : (List Int))) + List.length [v96]) * 8 ≤ 140737488355328) then (if (0 ≤ (List.getD x0.2.1 (Int.toNat v96) ((0 : Int), ((0 : Int), ((0 : Int), ((0 : Int), ((0 : Int), (⟨#[]⟩ : ByteArray))))))).1 ∧ (List.getD x0.2.1 (Int.toNat v96) ((0 : Int), ((0 : Int), ((0 : Int), ((0 : Int), ((0 : Int), (⟨#[]⟩ : ByteArray))))))).1 < (List.length v94 : Int)) then (if (0 ≤ (List.getD x0.2.1 (Int.toNat v96) ((0 : Int), ((0 : Int), ((0 : Int), ((0 : Int), ((0 : Int), (⟨#[]⟩ : ByteArray))))))).2.1 ∧ (List.getD x0.2.1 (Int.toNat v96) ((0 : Int), ((0 : Int), ((0 : Int), ((0 : Int), ((0 : Int), (⟨#[]⟩ : ByteArray))))))).2.1 < (List.length v95 : Int)) then (if ((List.length (List.getD v95 (Int.toNat (List.getD x0.2.1 (Int.toNat v96) ((0 : Int), ((0 : Int), ((0 : Int), ((0 : Int), ((0 : Int), (⟨#[]⟩ : ByteArray))))))).2.1) ([] : (List Int))) + List.length [v96]) * 8 ≤ 140737488355328) then (if (0 ≤ (List.getD x0.2.1 (Int.toNat v96) ((0 : Int), ((0 : Int), ((0 : Int), ((0 : Int), ((0 : Int), (⟨#[]⟩ : ByteArray))))))).2.1 ∧ (List.getD x0.2.1 (Int.toNat v96) ((0 : Int), ((0 : Int), ((0 : Int), ((0 : Int), ((0 : Int), (⟨#[]⟩ : ByteArray))))))).2.1 < (List.length v95 : Int)) then ((f80.l56 k x0) m56 ((List.set v94 (Int.toNat (List.getD x0.2.1 (Int.toNat v96) ((0 : Int), ((0 : Int), ((0 : Int), ((0 : Int), ((0 : Int), (⟨#[]⟩ : ByteArray))))))).1) (List.append (List.getD v94 (Int.toNat (List.getD x0.2.1 (Int.toNat v96) ((0 : Int), ((0 : Int), ((0 : Int), ((0 : Int), ((0 : Int), (⟨#[]⟩ : ByteArray))))))).1) ([] : (List Int))) [v96])), (List.set v95 (Int.toNat (List.getD x0.2.1 (Int.toNat v96) ((0 : Int), ((0 : Int), ((0 : Int), ((0 : Int), ((0 : Int), (⟨#[]⟩ : ByteArray))))))).2.1) (List.append (List.getD v95 (Int.toNat (List.getD x0.2.1 (Int.toNat v96) ((0 : Int), ((0 : Int), ((0 : Int), ((0 : Int), ((0 : Int), (⟨#[]⟩ : ByteArray))))))).2.1) ([] : (List Int))) [v96])), (IntKind.i64.wrap (v96 + (1 : Int))))) else none) else none) else none) else none) else none) else none) else none) else (f80.l126 k x0 v94 v95 k (([] : (List ((Int × Int) × Bool))), (0 : Int)))
def f80 (k : Nat) (x0 : ((List (Int × (Int × Int))) × ((List (Int × (Int × (Int × (Int × (Int × ByteArray)))))) × (List (Int × Int))))) : Option (((List (Int × (Int × Int))) × ((List (Int × (Int × (Int × (Int × (Int × ByteArray)))))) × (List (Int × Int)))) × ((List (List Int)) × ((List (List Int)) × (Option (List ((Int × Int) × Bool)))))) := if (0 ≤ (List.length x0.1 : Int) ∧ Int.toNat (List.length x0.1 : Int) * 24 ≤ 140737488355328) then (if (0 ≤ (List.length x0.1 : Int) ∧ Int.toNat (List.length x0.1 : Int) * 24 ≤ 140737488355328) then (f80.l56 k x0 k ((List.replicate (Int.toNat (List.length x0.1 : Int)) ([] : (List Int))), (List.replicate (Int.toNat (List.length x0.1 : Int)) ([] : (List Int))), (0 : Int))) else none) else none
set_option maxRecDepth 100000 in
/-- 'impl.myNetOf'. -/
theorem c80 (k : Nat) (x0 : ((List (Int × (Int × Int))) × ((List (Int × (Int × (Int × (Int × (Int × ByteArray)))))) × (List (Int × Int))))) (r : (((List (Int × (Int × Int))) × ((List (Int × (Int × (Int × (Int × (Int × ByteArray)))))) × (List (Int × Int)))) × ((List (List Int)) × ((List (List Int)) × (Option (List ((Int × Int) × Bool))))))) (hF : f80 k x0 = some r) : PCall Try.prog 80 [⟨sh12, x0⟩] [⟨sh22, some r⟩] := by
  refine pcall_intro Try.func80 rfl rfl (Nat.le_of_ble_eq_true rfl) ?_
  intro w0 Zi a w h
  rw [f80] at hF
  refine wp_reg_seq tok (orc := orcL []) (fz := []) (l := [1]) (c := _) (.inr fun i h => h) h (by kernel_rfl) (AllP.nil) ?_
  intro a w h
  obtain ⟨hc141, hF⟩ := of_if hF
  obtain ⟨hc142, hF⟩ := of_if hF
  refine wp_regy_seq tok (orc := orcL []) (fz := []) (l := [1, 3]) (c := _) ([], [], [], []) 10 (.inr fun i h => h) h (by kernel_rfl) (by kernel_rfl) (AllP.cons hc141 (AllP.cons hc142 AllP.nil)) ?_
  intro a w h
  refine wp_seq ?_
  refine wp_reg_seq tok (orc := orcL []) (fz := []) (l := [1, 3, 21, 22, 23]) (c := _) (.inr fun i h => h) h (by kernel_rfl) (AllP.nil) ?_
  intro a w h
  refine wp_block ?_
  refine wp_loop_fuel (f80.l56 k x0) (fun ((v94, v95, v96) : ((List (List Int)) × (List (List Int)) × Int)) => [(1, .val sh11 (some x0)), (3, .val sh22 (some (x0, (v94, (v95, (some ([] : (List ((Int × Int) × Bool))))))))), (21, .val sh20 x0.2.1), (22, .val (.int .i64) (List.length x0.2.1 : Int)), (23, .val (.int .i64) v96)]) (fun v h => by obtain ⟨v94, v95, v96⟩ := v; rw [f80.l56] at h; cases h) ?_ hF (h.arrive (fz := []) (l := [1, 3, 21, 22, 23]) (.inr fun i h => h) (by kernel_rfl))
  intro m56 v a w hF h
  obtain ⟨v94, v95, v96⟩ := v
  rw [f80.l56] at hF
  refine wp_reg_seq tok (orc := orcL []) (fz := []) (l := [1, 3, 21, 22, 23, 24]) (c := _) (.inr fun i h => h) h (by kernel_rfl) (AllP.nil) ?_
  intro a w h
  refine wp_seq <| wp_if h (b := (decide ((v96 : Int) < (List.length x0.2.1 : Int)))) (by kernel_rfl) (fun hb => ?_) (fun hb => ?_)
  · replace hF := of_t hb hF
    refine wp_skip ?_
    refine wp_seq <| wp_block ?_
    obtain ⟨hc110, hF⟩ := of_if hF
    refine wp_reg_seq tok (orc := orcL []) (fz := []) (l := [1, 3, 4, 5, 21, 22, 23]) (c := _) (.inr fun i h => h) h (by kernel_rfl) (AllP.cons hc110 AllP.nil) ?_
    intro a w h
    obtain ⟨hc107, hF⟩ := of_if hF
    obtain ⟨hc108, hF⟩ := of_if hF
    obtain ⟨hc109, hF⟩ := of_if hF
    refine wp_regy_seq tok (orc := orcL [(44, [⟨.pt false 4294967293 .unit, some ()⟩])]) (fz := []) (l := [1, 3, 4, 5, 21, 22, 23]) (c := _) ([], [], [], []) 18 (.inr fun i h => h) h (by kernel_rfl) (by kernel_rfl) (AllP.cons hc107 (AllP.cons (PrefL.mk (l := [[], [], [.der, .snd, .fst], [.der, .snd, .fst], [], [], [.der, .snd, .fst], [.der, .snd, .fst], [.der, .snd, .fst, .idx (Int.toNat (List.getD x0.2.1 (Int.toNat v96) ((0 : Int), ((0 : Int), ((0 : Int), ((0 : Int), ((0 : Int), (⟨#[]⟩ : ByteArray))))))).1)], [.der, .snd, .fst, .idx (Int.toNat (List.getD x0.2.1 (Int.toNat v96) ((0 : Int), ((0 : Int), ((0 : Int), ((0 : Int), ((0 : Int), (⟨#[]⟩ : ByteArray))))))).1)]]) (p := [.der, .snd, .fst, .idx (Int.toNat (List.getD x0.2.1 (Int.toNat v96) ((0 : Int), ((0 : Int), ((0 : Int), ((0 : Int), ((0 : Int), (⟨#[]⟩ : ByteArray))))))).1)]) rfl) (AllP.cons hc108 (AllP.cons hc109 (AllP.cons (show ([.der, .snd, .fst, .idx (Int.toNat (List.getD x0.2.1 (Int.toNat v96) ((0 : Int), ((0 : Int), ((0 : Int), ((0 : Int), ((0 : Int), (⟨#[]⟩ : ByteArray))))))).1)] : Path) = [.der, .snd, .fst, .idx (Int.toNat (List.getD x0.2.1 (Int.toNat v96) ((0 : Int), ((0 : Int), ((0 : Int), ((0 : Int), ((0 : Int), (⟨#[]⟩ : ByteArray))))))).1)] from rfl) AllP.nil))))) ?_
    intro a w h
    obtain ⟨hc104, hF⟩ := of_if hF
    obtain ⟨hc105, hF⟩ := of_if hF
    obtain ⟨hc106, hF⟩ := of_if hF
    refine wp_regy tok (orc := orcL [(62, [⟨.pt false 4294967293 .unit, some ()⟩])]) (fz := []) (l := [1, 3, 21, 22, 23]) (c := _) ([], [], [], []) 18 (.inr fun i h => h) h (by kernel_rfl) (by kernel_rfl) (AllP.cons hc104 (AllP.cons (PrefL.mk (l := [[], [], [.der, .snd, .snd, .fst], [.der, .snd, .snd, .fst], [], [], [.der, .snd, .snd, .fst], [.der, .snd, .snd, .fst], [.der, .snd, .snd, .fst, .idx (Int.toNat (List.getD x0.2.1 (Int.toNat v96) ((0 : Int), ((0 : Int), ((0 : Int), ((0 : Int), ((0 : Int), (⟨#[]⟩ : ByteArray))))))).2.1)], [.der, .snd, .snd, .fst, .idx (Int.toNat (List.getD x0.2.1 (Int.toNat v96) ((0 : Int), ((0 : Int), ((0 : Int), ((0 : Int), ((0 : Int), (⟨#[]⟩ : ByteArray))))))).2.1)]]) (p := [.der, .snd, .snd, .fst, .idx (Int.toNat (List.getD x0.2.1 (Int.toNat v96) ((0 : Int), ((0 : Int), ((0 : Int), ((0 : Int), ((0 : Int), (⟨#[]⟩ : ByteArray))))))).2.1)]) rfl) (AllP.cons hc105 (AllP.cons hc106 (AllP.cons (show ([.der, .snd, .snd, .fst, .idx (Int.toNat (List.getD x0.2.1 (Int.toNat v96) ((0 : Int), ((0 : Int), ((0 : Int), ((0 : Int), ((0 : Int), (⟨#[]⟩ : ByteArray))))))).2.1)] : Path) = [.der, .snd, .snd, .fst, .idx (Int.toNat (List.getD x0.2.1 (Int.toNat v96) ((0 : Int), ((0 : Int), ((0 : Int), ((0 : Int), ((0 : Int), (⟨#[]⟩ : ByteArray))))))).2.1)] from rfl) AllP.nil))))) ?_
    intro a w h
    refine wp_reg tok (orc := orcL []) (fz := []) (l := [1, 3, 21, 22, 23]) (c := _) (.inr fun i h => h) h (by kernel_rfl) (AllP.nil) ?_
    intro a w h
    exact ⟨((List.set v94 (Int.toNat (List.getD x0.2.1 (Int.toNat v96) ((0 : Int), ((0 : Int), ((0 : Int), ((0 : Int), ((0 : Int), (⟨#[]⟩ : ByteArray))))))).1) (List.append (List.getD v94 (Int.toNat (List.getD x0.2.1 (Int.toNat v96) ((0 : Int), ((0 : Int), ((0 : Int), ((0 : Int), ((0 : Int), (⟨#[]⟩ : ByteArray))))))).1) ([] : (List Int))) [v96])), (List.set v95 (Int.toNat (List.getD x0.2.1 (Int.toNat v96) ((0 : Int), ((0 : Int), ((0 : Int), ((0 : Int), ((0 : Int), (⟨#[]⟩ : ByteArray))))))).2.1) (List.append (List.getD v95 (Int.toNat (List.getD x0.2.1 (Int.toNat v96) ((0 : Int), ((0 : Int), ((0 : Int), ((0 : Int), ((0 : Int), (⟨#[]⟩ : ByteArray))))))).2.1) ([] : (List Int))) [v96])), (IntKind.i64.wrap (v96 + (1 : Int)))), hF, h.arrive (fz := []) (l := [1, 3, 21, 22, 23]) (.inr fun i h => h) (by kernel_rfl)⟩
  · replace hF := of_f hb hF
    refine wp_exit ?_
    refine wp_seq ?_
    refine wp_reg_seq tok (orc := orcL []) (fz := []) (l := [3, 66, 67, 68]) (c := _) (.inr fun i h => h) h (by kernel_rfl) (AllP.nil) ?_
    intro a w h
    refine wp_block ?_
    refine wp_loop_fuel (f80.l126 k x0 v94 v95) (fun ((v137, v138) : ((List ((Int × Int) × Bool)) × Int)) => [(3, .val sh22 (some (x0, (v94, (v95, (some v137)))))), (66, .val sh21 x0.2.2), (67, .val (.int .i64) (List.length x0.2.2 : Int)), (68, .val (.int .i64) v138)]) (fun v h => by obtain ⟨v137, v138⟩ := v; rw [f80.l126] at h; cases h) ?_ hF (h.arrive (fz := []) (l := [3, 66, 67, 68]) (.inr fun i h => h) (by kernel_rfl))
    intro m126 v a w hF h
    obtain ⟨v137, v138⟩ := v
    rw [f80.l126] at hF
    refine wp_reg_seq tok (orc := orcL []) (fz := []) (l := [3, 66, 67, 68, 69]) (c := _) (.inr fun i h => h) h (by kernel_rfl) (AllP.nil) ?_
    intro a w h
    refine wp_seq <| wp_if h (b := (decide ((v138 : Int) < (List.length x0.2.2 : Int)))) (by kernel_rfl) (fun hb => ?_) (fun hb => ?_)
    · replace hF := of_t hb hF
      refine wp_skip ?_
      refine wp_seq <| wp_block ?_
      obtain ⟨hc140, hF⟩ := of_if hF
      refine wp_reg_seq tok (orc := orcL []) (fz := []) (l := [3, 7, 66, 67, 68]) (c := _) (.inr fun i h => h) h (by kernel_rfl) (AllP.cons hc140 AllP.nil) ?_
      intro a w h
      refine wp_regy tok (orc := orcL []) (fz := []) (l := [3, 66, 67, 68]) (c := _) ([], [], [], []) 5 (.inr fun i h => h) h (by kernel_rfl) (by kernel_rfl) (AllP.cons (show eqTy Try.prog 9 167 (.st (.pair (.int .i64) (.int .i64))) = true from by kernel_rfl) AllP.nil) ?_
      intro a w h
      refine wp_reg tok (orc := orcL []) (fz := []) (l := [3, 66, 67, 68]) (c := _) (.inr fun i h => h) h (by kernel_rfl) (AllP.nil) ?_
      intro a w h
      exact ⟨((mput (Sh.beq sh5) (List.getD x0.2.2 (Int.toNat v138) ((0 : Int), (0 : Int))) true v137), (IntKind.i64.wrap (v138 + (1 : Int)))), hF, h.arrive (fz := []) (l := [3, 66, 67, 68]) (.inr fun i h => h) (by kernel_rfl)⟩
    · replace hF := of_f hb hF
      refine wp_exit ?_
      refine wp_reg_seq tok (orc := orcL []) (fz := []) (l := [2, 3]) (c := _) (.inr fun i h => h) h (by kernel_rfl) (AllP.nil) ?_
      intro a w h
      cases hF
      exact wp_ret (ret_okR tok h rfl (by kernel_rfl)).1

end Go.Proofs.Ytchbpdnaodicaaa.V
