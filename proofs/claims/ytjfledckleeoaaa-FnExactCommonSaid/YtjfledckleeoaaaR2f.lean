/-
  THE CONTRACTS OF SOME FUNCTIONS OF THIS SEAT, PRINTED BY A PROGRAM OF THIS PROJECT (wip/gen/vgen.py).
-/
import Derived.Test.YtjfledckleeoaaaProg
import Derived.Test.YtjfledckleeoaaaVmW
import Derived.Test.YtjfledckleeoaaaVmZ
import Derived.KernelRfl
set_option linter.unusedVariables false
open Go Go.Vm Go.Proofs
namespace Go.Proofs.Ytjfledckleeoaaa.V
abbrev sh0 : Sh := (.sl false 114 (.st (.pair (.int .i64) (.st (.pair (.int .i64) (.int .i64))))))
abbrev sh1 : Sh := (.st (.pair (.int .i64) (.pair (.int .i64) (.pair (.int .i64) (.pair (.int .i64) (.pair (.int .i64) .str))))))
abbrev sh2 : Sh := (.sl false 103 (.st (.pair (.int .i64) (.pair (.int .i64) (.pair (.int .i64) (.pair (.int .i64) (.pair (.int .i64) .str)))))))
abbrev sh3 : Sh := (.sl false 117 (.st (.pair (.int .i64) (.int .i64))))
abbrev sh4 : Sh := (.st (.pair (.sl false 114 (.st (.pair (.int .i64) (.st (.pair (.int .i64) (.int .i64)))))) (.pair (.sl false 103 (.st (.pair (.int .i64) (.pair (.int .i64) (.pair (.int .i64) (.pair (.int .i64) (.pair (.int .i64) .str))))))) (.sl false 117 (.st (.pair (.int .i64) (.int .i64)))))))
abbrev sh5 : Sh := (.st (.pair (.int .i64) (.int .i64)))
abbrev sh6 : Sh := (.st (.pair (.int .i64) (.st (.pair (.int .i64) (.int .i64)))))
abbrev sh7 : Sh := (.sl true 107 (.st (.pair (.int .i64) (.st (.pair (.int .i64) (.int .i64))))))
abbrev sh8 : Sh := (.sl true 79 (.st (.pair (.int .i64) (.pair (.int .i64) (.pair (.int .i64) (.pair (.int .i64) (.pair (.int .i64) .str)))))))
abbrev sh9 : Sh := (.sl true 82 (.st (.pair (.int .i64) (.int .i64))))
abbrev sh10 : Sh := (.st (.pair (.sl true 107 (.st (.pair (.int .i64) (.st (.pair (.int .i64) (.int .i64)))))) (.pair (.sl true 79 (.st (.pair (.int .i64) (.pair (.int .i64) (.pair (.int .i64) (.pair (.int .i64) (.pair (.int .i64) .str))))))) (.sl true 82 (.st (.pair (.int .i64) (.int .i64)))))))
abbrev sh11 : Sh := (.pt true 34 (.st (.pair (.sl false 107 (.st (.pair (.int .i64) (.st (.pair (.int .i64) (.int .i64)))))) (.pair (.sl false 79 (.st (.pair (.int .i64) (.pair (.int .i64) (.pair (.int .i64) (.pair (.int .i64) (.pair (.int .i64) .str))))))) (.sl false 82 (.st (.pair (.int .i64) (.int .i64))))))))
abbrev sh12 : Sh := (.st (.pair (.sl false 107 (.st (.pair (.int .i64) (.st (.pair (.int .i64) (.int .i64)))))) (.pair (.sl false 79 (.st (.pair (.int .i64) (.pair (.int .i64) (.pair (.int .i64) (.pair (.int .i64) (.pair (.int .i64) .str))))))) (.sl false 82 (.st (.pair (.int .i64) (.int .i64)))))))
abbrev sh13 : Sh := (.sl false 107 (.st (.pair (.int .i64) (.st (.pair (.int .i64) (.int .i64))))))
abbrev sh14 : Sh := (.sl false 79 (.st (.pair (.int .i64) (.pair (.int .i64) (.pair (.int .i64) (.pair (.int .i64) (.pair (.int .i64) .str)))))))
abbrev sh15 : Sh := (.sl false 82 (.st (.pair (.int .i64) (.int .i64))))
abbrev sh16 : Sh := (.pt true 82 (.st (.pair (.int .i64) (.int .i64))))
abbrev sh17 : Sh := (.pt true 120 (.st (.pair (.st (.pair (.sl false 107 (.st (.pair (.int .i64) (.st (.pair (.int .i64) (.int .i64)))))) (.pair (.sl false 79 (.st (.pair (.int .i64) (.pair (.int .i64) (.pair (.int .i64) (.pair (.int .i64) (.pair (.int .i64) .str))))))) (.sl false 82 (.st (.pair (.int .i64) (.int .i64))))))) (.pair (.sl true 27 (.sl true 2 (.int .i64))) (.pair (.sl true 27 (.sl true 2 (.int .i64))) (.mp true (.st (.pair (.int .i64) (.int .i64))) .bool))))))
abbrev sh18 : Sh := (.pt false 0 (.st (.pair (.st (.pair (.sl false 107 (.st (.pair (.int .i64) (.st (.pair (.int .i64) (.int .i64)))))) (.pair (.sl false 79 (.st (.pair (.int .i64) (.pair (.int .i64) (.pair (.int .i64) (.pair (.int .i64) (.pair (.int .i64) .str))))))) (.sl false 82 (.st (.pair (.int .i64) (.int .i64))))))) (.pair (.sl false 27 (.sl false 2 (.int .i64))) (.pair (.sl false 27 (.sl false 2 (.int .i64))) (.mp false (.st (.pair (.int .i64) (.int .i64))) .bool))))))
abbrev sh19 : Sh := (.mp true (.int .i64) .bool)
def tbl : Tbl := [⟨2, .int .i64, 1, 8, (.int .i64)⟩,
  ⟨3, .int .i64, 1, 8, (.int .i64)⟩,
  ⟨4, .bool, 1, 1, .bool⟩,
  ⟨9, .string, 1, 16, .str⟩,
  ⟨22, .slice 114, 1, 24, (.sl true 114 (.st (.pair (.int .i64) (.st (.pair (.int .i64) (.int .i64))))))⟩,
  ⟨23, .slice 103, 1, 24, (.sl true 103 (.st (.pair (.int .i64) (.pair (.int .i64) (.pair (.int .i64) (.pair (.int .i64) (.pair (.int .i64) .str)))))))⟩,
  ⟨24, .slice 117, 1, 24, (.sl true 117 (.st (.pair (.int .i64) (.int .i64))))⟩,
  ⟨26, .struct [(22, 0), (23, 1), (24, 2)], 3, 72, (.st (.pair (.sl true 114 (.st (.pair (.int .i64) (.st (.pair (.int .i64) (.int .i64)))))) (.pair (.sl true 103 (.st (.pair (.int .i64) (.pair (.int .i64) (.pair (.int .i64) (.pair (.int .i64) (.pair (.int .i64) .str))))))) (.sl true 117 (.st (.pair (.int .i64) (.int .i64)))))))⟩,
  ⟨27, .slice 2, 1, 24, (.sl true 2 (.int .i64))⟩,
  ⟨30, .slice 107, 1, 24, (.sl true 107 (.st (.pair (.int .i64) (.st (.pair (.int .i64) (.int .i64))))))⟩,
  ⟨31, .slice 79, 1, 24, (.sl true 79 (.st (.pair (.int .i64) (.pair (.int .i64) (.pair (.int .i64) (.pair (.int .i64) (.pair (.int .i64) .str)))))))⟩,
  ⟨32, .slice 82, 1, 24, (.sl true 82 (.st (.pair (.int .i64) (.int .i64))))⟩,
  ⟨34, .struct [(30, 0), (31, 1), (32, 2)], 3, 72, (.st (.pair (.sl true 107 (.st (.pair (.int .i64) (.st (.pair (.int .i64) (.int .i64)))))) (.pair (.sl true 79 (.st (.pair (.int .i64) (.pair (.int .i64) (.pair (.int .i64) (.pair (.int .i64) (.pair (.int .i64) .str))))))) (.sl true 82 (.st (.pair (.int .i64) (.int .i64)))))))⟩,
  ⟨54, .slice 27, 1, 24, (.sl true 27 (.sl true 2 (.int .i64)))⟩,
  ⟨70, .ptr 120, 1, 8, (.pt true 120 (.st (.pair (.st (.pair (.sl true 107 (.st (.pair (.int .i64) (.st (.pair (.int .i64) (.int .i64)))))) (.pair (.sl true 79 (.st (.pair (.int .i64) (.pair (.int .i64) (.pair (.int .i64) (.pair (.int .i64) (.pair (.int .i64) .str))))))) (.sl true 82 (.st (.pair (.int .i64) (.int .i64))))))) (.pair (.sl true 27 (.sl true 2 (.int .i64))) (.pair (.sl true 27 (.sl true 2 (.int .i64))) (.mp true (.st (.pair (.int .i64) (.int .i64))) .bool))))))⟩,
  ⟨77, .map 2 4, 1, 8, (.mp true (.int .i64) .bool)⟩,
  ⟨79, .struct [(2, 0), (2, 1), (2, 2), (2, 3), (2, 4), (9, 5)], 6, 56, (.st (.pair (.int .i64) (.pair (.int .i64) (.pair (.int .i64) (.pair (.int .i64) (.pair (.int .i64) .str))))))⟩,
  ⟨82, .struct [(2, 0), (2, 1)], 2, 16, (.st (.pair (.int .i64) (.int .i64)))⟩,
  ⟨103, .struct [(2, 0), (2, 1), (2, 2), (2, 3), (2, 4), (9, 5)], 6, 56, (.st (.pair (.int .i64) (.pair (.int .i64) (.pair (.int .i64) (.pair (.int .i64) (.pair (.int .i64) .str))))))⟩,
  ⟨105, .struct [(2, 0), (2, 1)], 2, 16, (.st (.pair (.int .i64) (.int .i64)))⟩,
  ⟨107, .struct [(2, 0), (105, 1)], 3, 24, (.st (.pair (.int .i64) (.st (.pair (.int .i64) (.int .i64)))))⟩,
  ⟨110, .slice 4, 1, 24, (.sl true 4 .bool)⟩,
  ⟨112, .struct [(2, 0), (2, 1)], 2, 16, (.st (.pair (.int .i64) (.int .i64)))⟩,
  ⟨114, .struct [(2, 0), (112, 1)], 3, 24, (.st (.pair (.int .i64) (.st (.pair (.int .i64) (.int .i64)))))⟩,
  ⟨117, .struct [(2, 0), (2, 1)], 2, 16, (.st (.pair (.int .i64) (.int .i64)))⟩,
  ⟨118, .map 82 4, 1, 8, (.mp true (.st (.pair (.int .i64) (.int .i64))) .bool)⟩,
  ⟨120, .struct [(34, 0), (54, 3), (54, 4), (118, 5)], 6, 128, (.st (.pair (.st (.pair (.sl true 107 (.st (.pair (.int .i64) (.st (.pair (.int .i64) (.int .i64)))))) (.pair (.sl true 79 (.st (.pair (.int .i64) (.pair (.int .i64) (.pair (.int .i64) (.pair (.int .i64) (.pair (.int .i64) .str))))))) (.sl true 82 (.st (.pair (.int .i64) (.int .i64))))))) (.pair (.sl true 27 (.sl true 2 (.int .i64))) (.pair (.sl true 27 (.sl true 2 (.int .i64))) (.mp true (.st (.pair (.int .i64) (.int .i64))) .bool)))))⟩]
theorem tok : TOk Try.prog tbl := by unfold TOk; kernel_rfl

def f54 (k : Nat) (x0 : (List (Int × (Int × Int)))) (x1 : Int) : Option Int := if (decide (((IntKind.i64.wrap (x1 - (List.length x0 : Int))) : Int) < (0 : Int))) then (some (-1 : Int)) else (some (IntKind.i64.wrap (x1 - (List.length x0 : Int))))
set_option maxRecDepth 100000 in
/-- 'laws.szSpotS'. -/
theorem c54 (k : Nat) (x0 : (List (Int × (Int × Int)))) (x1 : Int) (r : Int) (hF : f54 k x0 x1 = some r) : PCall Try.prog 54 [⟨sh0, x0⟩, ⟨(.int .i64), x1⟩] [⟨(.int .i64), r⟩] := by
  refine pcall_intro Try.func54 rfl rfl (Nat.le_of_ble_eq_true rfl) ?_
  intro w0 Zi a w h
  rw [f54] at hF
  refine wp_reg_seq tok (orc := orcL []) (fz := []) (l := [0, 1]) (c := _) (.inr fun i h => h) h (by kernel_rfl) (AllP.nil) ?_
  intro a w h
  refine wp_reg_seq tok (orc := orcL []) (fz := []) (l := [1]) (c := _) (.inr fun i h => h) h (by kernel_rfl) (AllP.nil) ?_
  intro a w h
  refine wp_seq ?_
  refine wp_reg_seq tok (orc := orcL []) (fz := []) (l := [1, 10]) (c := _) (.inr fun i h => h) h (by kernel_rfl) (AllP.nil) ?_
  intro a w h
  refine wp_if h (b := (decide (((IntKind.i64.wrap (x1 - (List.length x0 : Int))) : Int) < (0 : Int)))) (by kernel_rfl) (fun hb => ?_) (fun hb => ?_)
  · replace hF := of_t hb hF
    refine wp_reg_seq tok (orc := orcL []) (fz := []) (l := [4]) (c := _) (.inr fun i h => h) h (by kernel_rfl) (AllP.nil) ?_
    intro a w h
    cases hF
    exact wp_ret (ret_okR tok h rfl (by kernel_rfl)).1
  · replace hF := of_f hb hF
    refine wp_skip ?_
    refine wp_reg_seq tok (orc := orcL []) (fz := []) (l := [4]) (c := _) (.inr fun i h => h) h (by kernel_rfl) (AllP.nil) ?_
    intro a w h
    cases hF
    exact wp_ret (ret_okR tok h rfl (by kernel_rfl)).1

def f101 (k : Nat) (x0 : (Int × (Int × (Int × (Int × (Int × ByteArray)))))) (x1 : Int) : Option Int := if (decide (((IntKind.i64.wrap (x1 - (ByteArray.size x0.2.2.2.2.2 : Int))) : Int) < (0 : Int))) then (some (-1 : Int)) else (some (IntKind.i64.wrap (x1 - (ByteArray.size x0.2.2.2.2.2 : Int))))
set_option maxRecDepth 100000 in
/-- 'laws.szRoad'. -/
theorem c101 (k : Nat) (x0 : (Int × (Int × (Int × (Int × (Int × ByteArray)))))) (x1 : Int) (r : Int) (hF : f101 k x0 x1 = some r) : PCall Try.prog 101 [⟨sh1, x0⟩, ⟨(.int .i64), x1⟩] [⟨(.int .i64), r⟩] := by
  refine pcall_intro Try.func101 rfl rfl (Nat.le_of_ble_eq_true rfl) ?_
  intro w0 Zi a w h
  rw [f101] at hF
  refine wp_reg_seq tok (orc := orcL []) (fz := []) (l := [1, 2]) (c := _) (.inr fun i h => h) h (by kernel_rfl) (AllP.nil) ?_
  intro a w h
  refine wp_reg_seq tok (orc := orcL []) (fz := []) (l := [1]) (c := _) (.inr fun i h => h) h (by kernel_rfl) (AllP.nil) ?_
  intro a w h
  refine wp_seq ?_
  refine wp_reg_seq tok (orc := orcL []) (fz := []) (l := [1, 11]) (c := _) (.inr fun i h => h) h (by kernel_rfl) (AllP.nil) ?_
  intro a w h
  refine wp_if h (b := (decide (((IntKind.i64.wrap (x1 - (ByteArray.size x0.2.2.2.2.2 : Int))) : Int) < (0 : Int)))) (by kernel_rfl) (fun hb => ?_) (fun hb => ?_)
  · replace hF := of_t hb hF
    refine wp_reg_seq tok (orc := orcL []) (fz := []) (l := [4]) (c := _) (.inr fun i h => h) h (by kernel_rfl) (AllP.nil) ?_
    intro a w h
    cases hF
    exact wp_ret (ret_okR tok h rfl (by kernel_rfl)).1
  · replace hF := of_f hb hF
    refine wp_skip ?_
    refine wp_reg_seq tok (orc := orcL []) (fz := []) (l := [4]) (c := _) (.inr fun i h => h) h (by kernel_rfl) (AllP.nil) ?_
    intro a w h
    cases hF
    exact wp_ret (ret_okR tok h rfl (by kernel_rfl)).1

def f55.l28 (k : Nat) (x0 : (List (Int × (Int × (Int × (Int × (Int × ByteArray))))))) : Nat → (Int × Int) → Option Int
  | 0, _ => none
  | m28 + 1, (v47, v48) => if (decide ((v48 : Int) < (List.length x0 : Int))) then (if (0 ≤ v48 ∧ v48 < (List.length x0 : Int)) then ((f101 k (List.getD x0 (Int.toNat v48) ((0 : Int), ((0 : Int), ((0 : Int), ((0 : Int), ((0 : Int), (⟨#[]⟩ : ByteArray))))))) v47).bind fun r52 => (if (decide ((r52 : Int) < (0 : Int))) then (some (-1 : Int)) else ((f55.l28 k x0) m28 (r52, (IntKind.i64.wrap (v48 + (1 : Int))))))) else none) else (some v47)
def f55 (k : Nat) (x0 : (List (Int × (Int × (Int × (Int × (Int × ByteArray))))))) (x1 : Int) : Option Int := if (decide (((IntKind.i64.wrap (x1 - (List.length x0 : Int))) : Int) < (0 : Int))) then (some (-1 : Int)) else (f55.l28 k x0 k ((IntKind.i64.wrap (x1 - (List.length x0 : Int))), (0 : Int)))
set_option maxRecDepth 100000 in
/-- 'laws.szRoadS'. -/
theorem c55 (k : Nat) (x0 : (List (Int × (Int × (Int × (Int × (Int × ByteArray))))))) (x1 : Int) (r : Int) (hF : f55 k x0 x1 = some r) : PCall Try.prog 55 [⟨sh2, x0⟩, ⟨(.int .i64), x1⟩] [⟨(.int .i64), r⟩] := by
  refine pcall_intro Try.func55 rfl rfl (Nat.le_of_ble_eq_true rfl) ?_
  intro w0 Zi a w h
  rw [f55] at hF
  refine wp_reg_seq tok (orc := orcL []) (fz := []) (l := [0, 1]) (c := _) (.inr fun i h => h) h (by kernel_rfl) (AllP.nil) ?_
  intro a w h
  refine wp_reg_seq tok (orc := orcL []) (fz := []) (l := [0, 1]) (c := _) (.inr fun i h => h) h (by kernel_rfl) (AllP.nil) ?_
  intro a w h
  refine wp_seq ?_
  refine wp_reg_seq tok (orc := orcL []) (fz := []) (l := [0, 1, 11]) (c := _) (.inr fun i h => h) h (by kernel_rfl) (AllP.nil) ?_
  intro a w h
  refine wp_if h (b := (decide (((IntKind.i64.wrap (x1 - (List.length x0 : Int))) : Int) < (0 : Int)))) (by kernel_rfl) (fun hb => ?_) (fun hb => ?_)
  · replace hF := of_t hb hF
    refine wp_reg_seq tok (orc := orcL []) (fz := []) (l := [4]) (c := _) (.inr fun i h => h) h (by kernel_rfl) (AllP.nil) ?_
    intro a w h
    cases hF
    exact wp_ret (ret_okR tok h rfl (by kernel_rfl)).1
  · replace hF := of_f hb hF
    refine wp_skip ?_
    refine wp_seq ?_
    refine wp_reg_seq tok (orc := orcL []) (fz := []) (l := [0, 1, 5]) (c := _) (.inr fun i h => h) h (by kernel_rfl) (AllP.nil) ?_
    intro a w h
    refine wp_block ?_
    refine wp_loop_fuel (f55.l28 k x0) (fun ((v47, v48) : (Int × Int)) => [(0, .val sh2 x0), (1, .val (.int .i64) v47), (5, .val (.int .i64) v48)]) (fun v h => by obtain ⟨v47, v48⟩ := v; rw [f55.l28] at h; cases h) ?_ hF (h.arrive (fz := []) (l := [0, 1, 5]) (.inr fun i h => h) (by kernel_rfl))
    intro m28 v a w hF h
    obtain ⟨v47, v48⟩ := v
    rw [f55.l28] at hF
    refine wp_seq ?_
    refine wp_reg_seq tok (orc := orcL []) (fz := []) (l := [0, 1, 5, 15]) (c := _) (.inr fun i h => h) h (by kernel_rfl) (AllP.nil) ?_
    intro a w h
    refine wp_if h (b := (decide ((v48 : Int) < (List.length x0 : Int)))) (by kernel_rfl) (fun hb => ?_) (fun hb => ?_)
    · replace hF := of_t hb hF
      refine wp_skip ?_
      refine wp_seq <| wp_block ?_
      obtain ⟨hc53, hF⟩ := of_if hF
      obtain ⟨r52, hr54, hF⟩ := of_bind hF
      refine wp_reg_seq tok (orc := orcL [(23, [⟨(.int .i64), r52⟩])]) (fz := []) (l := [0, 1, 5]) (c := _) (.inr fun i h => h) h (by kernel_rfl) (AllP.cons hc53 (AllP.cons (c101 k (List.getD x0 (Int.toNat v48) ((0 : Int), ((0 : Int), ((0 : Int), ((0 : Int), ((0 : Int), (⟨#[]⟩ : ByteArray))))))) v47 r52 hr54) AllP.nil)) ?_
      intro a w h
      refine wp_reg_seq tok (orc := orcL []) (fz := []) (l := [0, 1, 5, 25]) (c := _) (.inr fun i h => h) h (by kernel_rfl) (AllP.nil) ?_
      intro a w h
      refine wp_if h (b := (decide ((r52 : Int) < (0 : Int)))) (by kernel_rfl) (fun hb => ?_) (fun hb => ?_)
      · replace hF := of_t hb hF
        refine wp_reg_seq tok (orc := orcL []) (fz := []) (l := [4]) (c := _) (.inr fun i h => h) h (by kernel_rfl) (AllP.nil) ?_
        intro a w h
        cases hF
        exact wp_ret (ret_okR tok h rfl (by kernel_rfl)).1
      · replace hF := of_f hb hF
        refine wp_skip ?_
        refine wp_reg tok (orc := orcL []) (fz := []) (l := [0, 1, 5]) (c := _) (.inr fun i h => h) h (by kernel_rfl) (AllP.nil) ?_
        intro a w h
        exact ⟨(r52, (IntKind.i64.wrap (v48 + (1 : Int)))), hF, h.arrive (fz := []) (l := [0, 1, 5]) (.inr fun i h => h) (by kernel_rfl)⟩
    · replace hF := of_f hb hF
      refine wp_exit ?_
      refine wp_reg_seq tok (orc := orcL []) (fz := []) (l := [4]) (c := _) (.inr fun i h => h) h (by kernel_rfl) (AllP.nil) ?_
      intro a w h
      cases hF
      exact wp_ret (ret_okR tok h rfl (by kernel_rfl)).1

def f56 (k : Nat) (x0 : (List (Int × Int))) (x1 : Int) : Option Int := if (decide (((IntKind.i64.wrap (x1 - (List.length x0 : Int))) : Int) < (0 : Int))) then (some (-1 : Int)) else (some (IntKind.i64.wrap (x1 - (List.length x0 : Int))))
set_option maxRecDepth 100000 in
/-- 'laws.szBanS'. -/
theorem c56 (k : Nat) (x0 : (List (Int × Int))) (x1 : Int) (r : Int) (hF : f56 k x0 x1 = some r) : PCall Try.prog 56 [⟨sh3, x0⟩, ⟨(.int .i64), x1⟩] [⟨(.int .i64), r⟩] := by
  refine pcall_intro Try.func56 rfl rfl (Nat.le_of_ble_eq_true rfl) ?_
  intro w0 Zi a w h
  rw [f56] at hF
  refine wp_reg_seq tok (orc := orcL []) (fz := []) (l := [0, 1]) (c := _) (.inr fun i h => h) h (by kernel_rfl) (AllP.nil) ?_
  intro a w h
  refine wp_reg_seq tok (orc := orcL []) (fz := []) (l := [1]) (c := _) (.inr fun i h => h) h (by kernel_rfl) (AllP.nil) ?_
  intro a w h
  refine wp_seq ?_
  refine wp_reg_seq tok (orc := orcL []) (fz := []) (l := [1, 10]) (c := _) (.inr fun i h => h) h (by kernel_rfl) (AllP.nil) ?_
  intro a w h
  refine wp_if h (b := (decide (((IntKind.i64.wrap (x1 - (List.length x0 : Int))) : Int) < (0 : Int)))) (by kernel_rfl) (fun hb => ?_) (fun hb => ?_)
  · replace hF := of_t hb hF
    refine wp_reg_seq tok (orc := orcL []) (fz := []) (l := [4]) (c := _) (.inr fun i h => h) h (by kernel_rfl) (AllP.nil) ?_
    intro a w h
    cases hF
    exact wp_ret (ret_okR tok h rfl (by kernel_rfl)).1
  · replace hF := of_f hb hF
    refine wp_skip ?_
    refine wp_reg_seq tok (orc := orcL []) (fz := []) (l := [4]) (c := _) (.inr fun i h => h) h (by kernel_rfl) (AllP.nil) ?_
    intro a w h
    cases hF
    exact wp_ret (ret_okR tok h rfl (by kernel_rfl)).1

def f15 (k : Nat) (x0 : ((List (Int × (Int × Int))) × ((List (Int × (Int × (Int × (Int × (Int × ByteArray)))))) × (List (Int × Int))))) (x1 : Int) : Option Int := (f54 k x0.1 x1).bind fun r1 => (if (decide ((r1 : Int) < (0 : Int))) then (some (-1 : Int)) else ((f55 k x0.2.1 r1).bind fun r2 => (if (decide ((r2 : Int) < (0 : Int))) then (some (-1 : Int)) else ((f56 k x0.2.2 r2).bind fun r3 => (if (decide ((r3 : Int) < (0 : Int))) then (some (-1 : Int)) else (some r3))))))
set_option maxRecDepth 100000 in
/-- 'laws.szGraph'. -/
theorem c15 (k : Nat) (x0 : ((List (Int × (Int × Int))) × ((List (Int × (Int × (Int × (Int × (Int × ByteArray)))))) × (List (Int × Int))))) (x1 : Int) (r : Int) (hF : f15 k x0 x1 = some r) : PCall Try.prog 15 [⟨sh4, x0⟩, ⟨(.int .i64), x1⟩] [⟨(.int .i64), r⟩] := by
  refine pcall_intro Try.func15 rfl rfl (Nat.le_of_ble_eq_true rfl) ?_
  intro w0 Zi a w h
  rw [f15] at hF
  refine wp_reg_seq tok (orc := orcL []) (fz := []) (l := [1, 2]) (c := _) (.inr fun i h => h) h (by kernel_rfl) (AllP.nil) ?_
  intro a w h
  obtain ⟨r1, hr6, hF⟩ := of_bind hF
  refine wp_reg_seq tok (orc := orcL [(8, [⟨(.int .i64), r1⟩])]) (fz := []) (l := [1, 2]) (c := _) (.inr fun i h => h) h (by kernel_rfl) (AllP.cons (c54 k x0.1 x1 r1 hr6) AllP.nil) ?_
  intro a w h
  refine wp_seq ?_
  refine wp_reg_seq tok (orc := orcL []) (fz := []) (l := [1, 2, 10]) (c := _) (.inr fun i h => h) h (by kernel_rfl) (AllP.nil) ?_
  intro a w h
  refine wp_if h (b := (decide ((r1 : Int) < (0 : Int)))) (by kernel_rfl) (fun hb => ?_) (fun hb => ?_)
  · replace hF := of_t hb hF
    refine wp_reg_seq tok (orc := orcL []) (fz := []) (l := [4]) (c := _) (.inr fun i h => h) h (by kernel_rfl) (AllP.nil) ?_
    intro a w h
    cases hF
    exact wp_ret (ret_okR tok h rfl (by kernel_rfl)).1
  · replace hF := of_f hb hF
    refine wp_skip ?_
    obtain ⟨r2, hr5, hF⟩ := of_bind hF
    refine wp_reg_seq tok (orc := orcL [(14, [⟨(.int .i64), r2⟩])]) (fz := []) (l := [1, 2]) (c := _) (.inr fun i h => h) h (by kernel_rfl) (AllP.cons (c55 k x0.2.1 r1 r2 hr5) AllP.nil) ?_
    intro a w h
    refine wp_seq ?_
    refine wp_reg_seq tok (orc := orcL []) (fz := []) (l := [1, 2, 16]) (c := _) (.inr fun i h => h) h (by kernel_rfl) (AllP.nil) ?_
    intro a w h
    refine wp_if h (b := (decide ((r2 : Int) < (0 : Int)))) (by kernel_rfl) (fun hb => ?_) (fun hb => ?_)
    · replace hF := of_t hb hF
      refine wp_reg_seq tok (orc := orcL []) (fz := []) (l := [4]) (c := _) (.inr fun i h => h) h (by kernel_rfl) (AllP.nil) ?_
      intro a w h
      cases hF
      exact wp_ret (ret_okR tok h rfl (by kernel_rfl)).1
    · replace hF := of_f hb hF
      refine wp_skip ?_
      obtain ⟨r3, hr4, hF⟩ := of_bind hF
      refine wp_reg_seq tok (orc := orcL [(20, [⟨(.int .i64), r3⟩])]) (fz := []) (l := [1]) (c := _) (.inr fun i h => h) h (by kernel_rfl) (AllP.cons (c56 k x0.2.2 r2 r3 hr4) AllP.nil) ?_
      intro a w h
      refine wp_seq ?_
      refine wp_reg_seq tok (orc := orcL []) (fz := []) (l := [1, 22]) (c := _) (.inr fun i h => h) h (by kernel_rfl) (AllP.nil) ?_
      intro a w h
      refine wp_if h (b := (decide ((r3 : Int) < (0 : Int)))) (by kernel_rfl) (fun hb => ?_) (fun hb => ?_)
      · replace hF := of_t hb hF
        refine wp_reg_seq tok (orc := orcL []) (fz := []) (l := [4]) (c := _) (.inr fun i h => h) h (by kernel_rfl) (AllP.nil) ?_
        intro a w h
        cases hF
        exact wp_ret (ret_okR tok h rfl (by kernel_rfl)).1
      · replace hF := of_f hb hF
        refine wp_skip ?_
        refine wp_reg_seq tok (orc := orcL []) (fz := []) (l := [4]) (c := _) (.inr fun i h => h) h (by kernel_rfl) (AllP.nil) ?_
        intro a w h
        cases hF
        exact wp_ret (ret_okR tok h rfl (by kernel_rfl)).1

def f127 (k : Nat) (x0 : (Int × Int)) : Option (Int × Int) := some (x0.1, x0.2)
set_option maxRecDepth 100000 in
/-- 'laws.toPoint'. -/
theorem c127 (k : Nat) (x0 : (Int × Int)) (r : (Int × Int)) (hF : f127 k x0 = some r) : PCall Try.prog 127 [⟨sh5, x0⟩] [⟨sh5, r⟩] := by
  refine pcall_intro Try.func127 rfl rfl (Nat.le_of_ble_eq_true rfl) ?_
  intro w0 Zi a w h
  rw [f127] at hF
  refine wp_reg_seq tok (orc := orcL []) (fz := []) (l := [1, 2]) (c := _) (.inr fun i h => h) h (by kernel_rfl) (AllP.nil) ?_
  intro a w h
  refine wp_reg_seq tok (orc := orcL []) (fz := []) (l := [1, 2, 3]) (c := _) (.inr fun i h => h) h (by kernel_rfl) (AllP.nil) ?_
  intro a w h
  refine wp_reg_seq tok (orc := orcL []) (fz := []) (l := [1, 2, 3]) (c := _) (.inr fun i h => h) h (by kernel_rfl) (AllP.nil) ?_
  intro a w h
  refine wp_reg_seq tok (orc := orcL []) (fz := []) (l := [2, 3]) (c := _) (.inr fun i h => h) h (by kernel_rfl) (AllP.nil) ?_
  intro a w h
  refine wp_reg_seq tok (orc := orcL []) (fz := []) (l := [2]) (c := _) (.inr fun i h => h) h (by kernel_rfl) (AllP.nil) ?_
  intro a w h
  cases hF
  exact wp_ret (ret_okR tok h rfl (by kernel_rfl)).1

def f105 (k : Nat) (x0 : (Int × (Int × Int))) : Option (Int × (Int × Int)) := (f127 k x0.2).bind fun r1 => (some (x0.1, r1))
set_option maxRecDepth 100000 in
/-- 'laws.toSpot'. -/
theorem c105 (k : Nat) (x0 : (Int × (Int × Int))) (r : (Int × (Int × Int))) (hF : f105 k x0 = some r) : PCall Try.prog 105 [⟨sh6, x0⟩] [⟨sh6, r⟩] := by
  refine pcall_intro Try.func105 rfl rfl (Nat.le_of_ble_eq_true rfl) ?_
  intro w0 Zi a w h
  rw [f105] at hF
  refine wp_reg_seq tok (orc := orcL []) (fz := []) (l := [1, 2]) (c := _) (.inr fun i h => h) h (by kernel_rfl) (AllP.nil) ?_
  intro a w h
  refine wp_reg_seq tok (orc := orcL []) (fz := []) (l := [1, 2, 3]) (c := _) (.inr fun i h => h) h (by kernel_rfl) (AllP.nil) ?_
  intro a w h
  refine wp_reg_seq tok (orc := orcL []) (fz := []) (l := [1, 2, 3]) (c := _) (.inr fun i h => h) h (by kernel_rfl) (AllP.nil) ?_
  intro a w h
  obtain ⟨r1, hr2, hF⟩ := of_bind hF
  refine wp_reg_seq tok (orc := orcL [(9, [⟨sh5, r1⟩])]) (fz := []) (l := [2, 3]) (c := _) (.inr fun i h => h) h (by kernel_rfl) (AllP.cons (c127 k x0.2 r1 hr2) AllP.nil) ?_
  intro a w h
  refine wp_reg_seq tok (orc := orcL []) (fz := []) (l := [2]) (c := _) (.inr fun i h => h) h (by kernel_rfl) (AllP.nil) ?_
  intro a w h
  cases hF
  exact wp_ret (ret_okR tok h rfl (by kernel_rfl)).1

def f60.l34 (k : Nat) (x0 : (List (Int × (Int × Int)))) : Nat → ((List (Int × (Int × Int))) × Int) → Option (List (Int × (Int × Int)))
  | 0, _ => none
  | m34 + 1, (v57, v58) => if (decide ((v58 : Int) < (List.length x0 : Int))) then (if (0 ≤ v58 ∧ v58 < (List.length x0 : Int)) then ((f105 k (List.getD x0 (Int.toNat v58) ((0 : Int), ((0 : Int), (0 : Int))))).bind fun r63 => (if (0 ≤ v58 ∧ v58 < (List.length v57 : Int)) then ((f60.l34 k x0) m34 ((List.set v57 (Int.toNat v58) r63), (IntKind.i64.wrap (v58 + (1 : Int))))) else none)) else none) else (some v57)
def f60 (k : Nat) (x0 : (List (Int × (Int × Int)))) : Option (List (Int × (Int × Int))) := if (0 ≤ (List.length x0 : Int) ∧ Int.toNat (List.length x0 : Int) * 24 ≤ 140737488355328) then (f60.l34 k x0 k ((List.replicate (Int.toNat (List.length x0 : Int)) ((0 : Int), ((0 : Int), (0 : Int)))), (0 : Int))) else none
set_option maxRecDepth 100000 in
/-- 'laws.toSpotS'. -/
theorem c60 (k : Nat) (x0 : (List (Int × (Int × Int)))) (r : (List (Int × (Int × Int)))) (hF : f60 k x0 = some r) : PCall Try.prog 60 [⟨sh0, x0⟩] [⟨sh7, r⟩] := by
  refine pcall_intro Try.func60 rfl rfl (Nat.le_of_ble_eq_true rfl) ?_
  intro w0 Zi a w h
  rw [f60] at hF
  refine wp_reg_seq tok (orc := orcL []) (fz := []) (l := [0]) (c := _) (.inr fun i h => h) h (by kernel_rfl) (AllP.nil) ?_
  intro a w h
  obtain ⟨hc67, hF⟩ := of_if hF
  refine wp_reg_seq tok (orc := orcL []) (fz := []) (l := [0, 3]) (c := _) (.inr fun i h => h) h (by kernel_rfl) (AllP.cons hc67 AllP.nil) ?_
  intro a w h
  refine wp_seq ?_
  refine wp_reg_seq tok (orc := orcL []) (fz := []) (l := [0, 3, 4]) (c := _) (.inr fun i h => h) h (by kernel_rfl) (AllP.nil) ?_
  intro a w h
  refine wp_block ?_
  refine wp_loop_fuel (f60.l34 k x0) (fun ((v57, v58) : ((List (Int × (Int × Int))) × Int)) => [(0, .val sh0 x0), (3, .val sh7 v57), (4, .val (.int .i64) v58)]) (fun v h => by obtain ⟨v57, v58⟩ := v; rw [f60.l34] at h; cases h) ?_ hF (h.arrive (fz := []) (l := [0, 3, 4]) (.inr fun i h => h) (by kernel_rfl))
  intro m34 v a w hF h
  obtain ⟨v57, v58⟩ := v
  rw [f60.l34] at hF
  refine wp_seq ?_
  refine wp_reg_seq tok (orc := orcL []) (fz := []) (l := [0, 3, 4, 11]) (c := _) (.inr fun i h => h) h (by kernel_rfl) (AllP.nil) ?_
  intro a w h
  refine wp_if h (b := (decide ((v58 : Int) < (List.length x0 : Int)))) (by kernel_rfl) (fun hb => ?_) (fun hb => ?_)
  · replace hF := of_t hb hF
    refine wp_skip ?_
    refine wp_seq <| wp_block ?_
    obtain ⟨hc64, hF⟩ := of_if hF
    obtain ⟨r63, hr65, hF⟩ := of_bind hF
    obtain ⟨hc66, hF⟩ := of_if hF
    refine wp_reg tok (orc := orcL [(20, [⟨sh6, r63⟩])]) (fz := []) (l := [0, 3, 4]) (c := _) (.inr fun i h => h) h (by kernel_rfl) (AllP.cons hc64 (AllP.cons (c105 k (List.getD x0 (Int.toNat v58) ((0 : Int), ((0 : Int), (0 : Int)))) r63 hr65) (AllP.cons hc66 AllP.nil))) ?_
    intro a w h
    refine wp_reg tok (orc := orcL []) (fz := []) (l := [0, 3, 4]) (c := _) (.inr fun i h => h) h (by kernel_rfl) (AllP.nil) ?_
    intro a w h
    exact ⟨((List.set v57 (Int.toNat v58) r63), (IntKind.i64.wrap (v58 + (1 : Int)))), hF, h.arrive (fz := []) (l := [0, 3, 4]) (.inr fun i h => h) (by kernel_rfl)⟩
  · replace hF := of_f hb hF
    refine wp_exit ?_
    refine wp_reg_seq tok (orc := orcL []) (fz := []) (l := [2, 3]) (c := _) (.inr fun i h => h) h (by kernel_rfl) (AllP.nil) ?_
    intro a w h
    cases hF
    exact wp_ret (ret_okR tok h rfl (by kernel_rfl)).1

def f106 (k : Nat) (x0 : (Int × (Int × (Int × (Int × (Int × ByteArray)))))) : Option (Int × (Int × (Int × (Int × (Int × ByteArray))))) := some (x0.1, (x0.2.1, (x0.2.2.1, (x0.2.2.2.1, (x0.2.2.2.2.1, x0.2.2.2.2.2)))))
set_option maxRecDepth 100000 in
/-- 'laws.toRoad'. -/
theorem c106 (k : Nat) (x0 : (Int × (Int × (Int × (Int × (Int × ByteArray)))))) (r : (Int × (Int × (Int × (Int × (Int × ByteArray)))))) (hF : f106 k x0 = some r) : PCall Try.prog 106 [⟨sh1, x0⟩] [⟨sh1, r⟩] := by
  refine pcall_intro Try.func106 rfl rfl (Nat.le_of_ble_eq_true rfl) ?_
  intro w0 Zi a w h
  rw [f106] at hF
  refine wp_reg_seq tok (orc := orcL []) (fz := []) (l := [1, 2]) (c := _) (.inr fun i h => h) h (by kernel_rfl) (AllP.nil) ?_
  intro a w h
  refine wp_reg_seq tok (orc := orcL []) (fz := []) (l := [1, 2, 3]) (c := _) (.inr fun i h => h) h (by kernel_rfl) (AllP.nil) ?_
  intro a w h
  refine wp_reg_seq tok (orc := orcL []) (fz := []) (l := [1, 2, 3]) (c := _) (.inr fun i h => h) h (by kernel_rfl) (AllP.nil) ?_
  intro a w h
  refine wp_reg_seq tok (orc := orcL []) (fz := []) (l := [1, 2, 3]) (c := _) (.inr fun i h => h) h (by kernel_rfl) (AllP.nil) ?_
  intro a w h
  refine wp_reg_seq tok (orc := orcL []) (fz := []) (l := [1, 2, 3]) (c := _) (.inr fun i h => h) h (by kernel_rfl) (AllP.nil) ?_
  intro a w h
  refine wp_reg_seq tok (orc := orcL []) (fz := []) (l := [1, 2, 3]) (c := _) (.inr fun i h => h) h (by kernel_rfl) (AllP.nil) ?_
  intro a w h
  refine wp_reg_seq tok (orc := orcL []) (fz := []) (l := [1, 2, 3]) (c := _) (.inr fun i h => h) h (by kernel_rfl) (AllP.nil) ?_
  intro a w h
  refine wp_reg_seq tok (orc := orcL []) (fz := []) (l := [2, 3]) (c := _) (.inr fun i h => h) h (by kernel_rfl) (AllP.nil) ?_
  intro a w h
  refine wp_reg_seq tok (orc := orcL []) (fz := []) (l := [2]) (c := _) (.inr fun i h => h) h (by kernel_rfl) (AllP.nil) ?_
  intro a w h
  cases hF
  exact wp_ret (ret_okR tok h rfl (by kernel_rfl)).1

def f61.l34 (k : Nat) (x0 : (List (Int × (Int × (Int × (Int × (Int × ByteArray))))))) : Nat → ((List (Int × (Int × (Int × (Int × (Int × ByteArray)))))) × Int) → Option (List (Int × (Int × (Int × (Int × (Int × ByteArray))))))
  | 0, _ => none
  | m34 + 1, (v57, v58) => if (decide ((v58 : Int) < (List.length x0 : Int))) then (if (0 ≤ v58 ∧ v58 < (List.length x0 : Int)) then ((f106 k (List.getD x0 (Int.toNat v58) ((0 : Int), ((0 : Int), ((0 : Int), ((0 : Int), ((0 : Int), (⟨#[]⟩ : ByteArray)))))))).bind fun r63 => (if (0 ≤ v58 ∧ v58 < (List.length v57 : Int)) then ((f61.l34 k x0) m34 ((List.set v57 (Int.toNat v58) r63), (IntKind.i64.wrap (v58 + (1 : Int))))) else none)) else none) else (some v57)
def f61 (k : Nat) (x0 : (List (Int × (Int × (Int × (Int × (Int × ByteArray))))))) : Option (List (Int × (Int × (Int × (Int × (Int × ByteArray)))))) := if (0 ≤ (List.length x0 : Int) ∧ Int.toNat (List.length x0 : Int) * 56 ≤ 140737488355328) then (f61.l34 k x0 k ((List.replicate (Int.toNat (List.length x0 : Int)) ((0 : Int), ((0 : Int), ((0 : Int), ((0 : Int), ((0 : Int), (⟨#[]⟩ : ByteArray))))))), (0 : Int))) else none
set_option maxRecDepth 100000 in
/-- 'laws.toRoadS'. -/
theorem c61 (k : Nat) (x0 : (List (Int × (Int × (Int × (Int × (Int × ByteArray))))))) (r : (List (Int × (Int × (Int × (Int × (Int × ByteArray))))))) (hF : f61 k x0 = some r) : PCall Try.prog 61 [⟨sh2, x0⟩] [⟨sh8, r⟩] := by
  refine pcall_intro Try.func61 rfl rfl (Nat.le_of_ble_eq_true rfl) ?_
  intro w0 Zi a w h
  rw [f61] at hF
  refine wp_reg_seq tok (orc := orcL []) (fz := []) (l := [0]) (c := _) (.inr fun i h => h) h (by kernel_rfl) (AllP.nil) ?_
  intro a w h
  obtain ⟨hc67, hF⟩ := of_if hF
  refine wp_reg_seq tok (orc := orcL []) (fz := []) (l := [0, 3]) (c := _) (.inr fun i h => h) h (by kernel_rfl) (AllP.cons hc67 AllP.nil) ?_
  intro a w h
  refine wp_seq ?_
  refine wp_reg_seq tok (orc := orcL []) (fz := []) (l := [0, 3, 4]) (c := _) (.inr fun i h => h) h (by kernel_rfl) (AllP.nil) ?_
  intro a w h
  refine wp_block ?_
  refine wp_loop_fuel (f61.l34 k x0) (fun ((v57, v58) : ((List (Int × (Int × (Int × (Int × (Int × ByteArray)))))) × Int)) => [(0, .val sh2 x0), (3, .val sh8 v57), (4, .val (.int .i64) v58)]) (fun v h => by obtain ⟨v57, v58⟩ := v; rw [f61.l34] at h; cases h) ?_ hF (h.arrive (fz := []) (l := [0, 3, 4]) (.inr fun i h => h) (by kernel_rfl))
  intro m34 v a w hF h
  obtain ⟨v57, v58⟩ := v
  rw [f61.l34] at hF
  refine wp_seq ?_
  refine wp_reg_seq tok (orc := orcL []) (fz := []) (l := [0, 3, 4, 11]) (c := _) (.inr fun i h => h) h (by kernel_rfl) (AllP.nil) ?_
  intro a w h
  refine wp_if h (b := (decide ((v58 : Int) < (List.length x0 : Int)))) (by kernel_rfl) (fun hb => ?_) (fun hb => ?_)
  · replace hF := of_t hb hF
    refine wp_skip ?_
    refine wp_seq <| wp_block ?_
    obtain ⟨hc64, hF⟩ := of_if hF
    obtain ⟨r63, hr65, hF⟩ := of_bind hF
    obtain ⟨hc66, hF⟩ := of_if hF
    refine wp_reg tok (orc := orcL [(20, [⟨sh1, r63⟩])]) (fz := []) (l := [0, 3, 4]) (c := _) (.inr fun i h => h) h (by kernel_rfl) (AllP.cons hc64 (AllP.cons (c106 k (List.getD x0 (Int.toNat v58) ((0 : Int), ((0 : Int), ((0 : Int), ((0 : Int), ((0 : Int), (⟨#[]⟩ : ByteArray))))))) r63 hr65) (AllP.cons hc66 AllP.nil))) ?_
    intro a w h
    refine wp_reg tok (orc := orcL []) (fz := []) (l := [0, 3, 4]) (c := _) (.inr fun i h => h) h (by kernel_rfl) (AllP.nil) ?_
    intro a w h
    exact ⟨((List.set v57 (Int.toNat v58) r63), (IntKind.i64.wrap (v58 + (1 : Int)))), hF, h.arrive (fz := []) (l := [0, 3, 4]) (.inr fun i h => h) (by kernel_rfl)⟩
  · replace hF := of_f hb hF
    refine wp_exit ?_
    refine wp_reg_seq tok (orc := orcL []) (fz := []) (l := [2, 3]) (c := _) (.inr fun i h => h) h (by kernel_rfl) (AllP.nil) ?_
    intro a w h
    cases hF
    exact wp_ret (ret_okR tok h rfl (by kernel_rfl)).1

def f107 (k : Nat) (x0 : (Int × Int)) : Option (Int × Int) := some (x0.1, x0.2)
set_option maxRecDepth 100000 in
/-- 'laws.toBan'. -/
theorem c107 (k : Nat) (x0 : (Int × Int)) (r : (Int × Int)) (hF : f107 k x0 = some r) : PCall Try.prog 107 [⟨sh5, x0⟩] [⟨sh5, r⟩] := by
  refine pcall_intro Try.func107 rfl rfl (Nat.le_of_ble_eq_true rfl) ?_
  intro w0 Zi a w h
  rw [f107] at hF
  refine wp_reg_seq tok (orc := orcL []) (fz := []) (l := [1, 2]) (c := _) (.inr fun i h => h) h (by kernel_rfl) (AllP.nil) ?_
  intro a w h
  refine wp_reg_seq tok (orc := orcL []) (fz := []) (l := [1, 2, 3]) (c := _) (.inr fun i h => h) h (by kernel_rfl) (AllP.nil) ?_
  intro a w h
  refine wp_reg_seq tok (orc := orcL []) (fz := []) (l := [1, 2, 3]) (c := _) (.inr fun i h => h) h (by kernel_rfl) (AllP.nil) ?_
  intro a w h
  refine wp_reg_seq tok (orc := orcL []) (fz := []) (l := [2, 3]) (c := _) (.inr fun i h => h) h (by kernel_rfl) (AllP.nil) ?_
  intro a w h
  refine wp_reg_seq tok (orc := orcL []) (fz := []) (l := [2]) (c := _) (.inr fun i h => h) h (by kernel_rfl) (AllP.nil) ?_
  intro a w h
  cases hF
  exact wp_ret (ret_okR tok h rfl (by kernel_rfl)).1

def f62.l34 (k : Nat) (x0 : (List (Int × Int))) : Nat → ((List (Int × Int)) × Int) → Option (List (Int × Int))
  | 0, _ => none
  | m34 + 1, (v57, v58) => if (decide ((v58 : Int) < (List.length x0 : Int))) then (if (0 ≤ v58 ∧ v58 < (List.length x0 : Int)) then ((f107 k (List.getD x0 (Int.toNat v58) ((0 : Int), (0 : Int)))).bind fun r63 => (if (0 ≤ v58 ∧ v58 < (List.length v57 : Int)) then ((f62.l34 k x0) m34 ((List.set v57 (Int.toNat v58) r63), (IntKind.i64.wrap (v58 + (1 : Int))))) else none)) else none) else (some v57)
def f62 (k : Nat) (x0 : (List (Int × Int))) : Option (List (Int × Int)) := if (0 ≤ (List.length x0 : Int) ∧ Int.toNat (List.length x0 : Int) * 16 ≤ 140737488355328) then (f62.l34 k x0 k ((List.replicate (Int.toNat (List.length x0 : Int)) ((0 : Int), (0 : Int))), (0 : Int))) else none
set_option maxRecDepth 100000 in
/-- 'laws.toBanS'. -/
theorem c62 (k : Nat) (x0 : (List (Int × Int))) (r : (List (Int × Int))) (hF : f62 k x0 = some r) : PCall Try.prog 62 [⟨sh3, x0⟩] [⟨sh9, r⟩] := by
  refine pcall_intro Try.func62 rfl rfl (Nat.le_of_ble_eq_true rfl) ?_
  intro w0 Zi a w h
  rw [f62] at hF
  refine wp_reg_seq tok (orc := orcL []) (fz := []) (l := [0]) (c := _) (.inr fun i h => h) h (by kernel_rfl) (AllP.nil) ?_
  intro a w h
  obtain ⟨hc67, hF⟩ := of_if hF
  refine wp_reg_seq tok (orc := orcL []) (fz := []) (l := [0, 3]) (c := _) (.inr fun i h => h) h (by kernel_rfl) (AllP.cons hc67 AllP.nil) ?_
  intro a w h
  refine wp_seq ?_
  refine wp_reg_seq tok (orc := orcL []) (fz := []) (l := [0, 3, 4]) (c := _) (.inr fun i h => h) h (by kernel_rfl) (AllP.nil) ?_
  intro a w h
  refine wp_block ?_
  refine wp_loop_fuel (f62.l34 k x0) (fun ((v57, v58) : ((List (Int × Int)) × Int)) => [(0, .val sh3 x0), (3, .val sh9 v57), (4, .val (.int .i64) v58)]) (fun v h => by obtain ⟨v57, v58⟩ := v; rw [f62.l34] at h; cases h) ?_ hF (h.arrive (fz := []) (l := [0, 3, 4]) (.inr fun i h => h) (by kernel_rfl))
  intro m34 v a w hF h
  obtain ⟨v57, v58⟩ := v
  rw [f62.l34] at hF
  refine wp_seq ?_
  refine wp_reg_seq tok (orc := orcL []) (fz := []) (l := [0, 3, 4, 11]) (c := _) (.inr fun i h => h) h (by kernel_rfl) (AllP.nil) ?_
  intro a w h
  refine wp_if h (b := (decide ((v58 : Int) < (List.length x0 : Int)))) (by kernel_rfl) (fun hb => ?_) (fun hb => ?_)
  · replace hF := of_t hb hF
    refine wp_skip ?_
    refine wp_seq <| wp_block ?_
    obtain ⟨hc64, hF⟩ := of_if hF
    obtain ⟨r63, hr65, hF⟩ := of_bind hF
    obtain ⟨hc66, hF⟩ := of_if hF
    refine wp_reg tok (orc := orcL [(20, [⟨sh5, r63⟩])]) (fz := []) (l := [0, 3, 4]) (c := _) (.inr fun i h => h) h (by kernel_rfl) (AllP.cons hc64 (AllP.cons (c107 k (List.getD x0 (Int.toNat v58) ((0 : Int), (0 : Int))) r63 hr65) (AllP.cons hc66 AllP.nil))) ?_
    intro a w h
    refine wp_reg tok (orc := orcL []) (fz := []) (l := [0, 3, 4]) (c := _) (.inr fun i h => h) h (by kernel_rfl) (AllP.nil) ?_
    intro a w h
    exact ⟨((List.set v57 (Int.toNat v58) r63), (IntKind.i64.wrap (v58 + (1 : Int)))), hF, h.arrive (fz := []) (l := [0, 3, 4]) (.inr fun i h => h) (by kernel_rfl)⟩
  · replace hF := of_f hb hF
    refine wp_exit ?_
    refine wp_reg_seq tok (orc := orcL []) (fz := []) (l := [2, 3]) (c := _) (.inr fun i h => h) h (by kernel_rfl) (AllP.nil) ?_
    intro a w h
    cases hF
    exact wp_ret (ret_okR tok h rfl (by kernel_rfl)).1

def f17 (k : Nat) (x0 : ((List (Int × (Int × Int))) × ((List (Int × (Int × (Int × (Int × (Int × ByteArray)))))) × (List (Int × Int))))) : Option ((List (Int × (Int × Int))) × ((List (Int × (Int × (Int × (Int × (Int × ByteArray)))))) × (List (Int × Int)))) := (f60 k x0.1).bind fun r1 => ((f61 k x0.2.1).bind fun r2 => ((f62 k x0.2.2).bind fun r3 => (some (r1, (r2, r3)))))
set_option maxRecDepth 100000 in
/-- 'laws.toGraph'. -/
theorem c17 (k : Nat) (x0 : ((List (Int × (Int × Int))) × ((List (Int × (Int × (Int × (Int × (Int × ByteArray)))))) × (List (Int × Int))))) (r : ((List (Int × (Int × Int))) × ((List (Int × (Int × (Int × (Int × (Int × ByteArray)))))) × (List (Int × Int))))) (hF : f17 k x0 = some r) : PCall Try.prog 17 [⟨sh4, x0⟩] [⟨sh10, r⟩] := by
  refine pcall_intro Try.func17 rfl rfl (Nat.le_of_ble_eq_true rfl) ?_
  intro w0 Zi a w h
  rw [f17] at hF
  refine wp_reg_seq tok (orc := orcL []) (fz := []) (l := [1, 2]) (c := _) (.inr fun i h => h) h (by kernel_rfl) (AllP.nil) ?_
  intro a w h
  refine wp_reg_seq tok (orc := orcL []) (fz := []) (l := [1, 2, 3]) (c := _) (.inr fun i h => h) h (by kernel_rfl) (AllP.nil) ?_
  intro a w h
  obtain ⟨r1, hr6, hF⟩ := of_bind hF
  refine wp_reg_seq tok (orc := orcL [(6, [⟨sh7, r1⟩])]) (fz := []) (l := [1, 2, 3]) (c := _) (.inr fun i h => h) h (by kernel_rfl) (AllP.cons (c60 k x0.1 r1 hr6) AllP.nil) ?_
  intro a w h
  obtain ⟨r2, hr5, hF⟩ := of_bind hF
  refine wp_reg_seq tok (orc := orcL [(10, [⟨sh8, r2⟩])]) (fz := []) (l := [1, 2, 3]) (c := _) (.inr fun i h => h) h (by kernel_rfl) (AllP.cons (c61 k x0.2.1 r2 hr5) AllP.nil) ?_
  intro a w h
  obtain ⟨r3, hr4, hF⟩ := of_bind hF
  refine wp_reg_seq tok (orc := orcL [(14, [⟨sh9, r3⟩])]) (fz := []) (l := [2, 3]) (c := _) (.inr fun i h => h) h (by kernel_rfl) (AllP.cons (c62 k x0.2.2 r3 hr4) AllP.nil) ?_
  intro a w h
  refine wp_reg_seq tok (orc := orcL []) (fz := []) (l := [2]) (c := _) (.inr fun i h => h) h (by kernel_rfl) (AllP.nil) ?_
  intro a w h
  cases hF
  exact wp_ret (ret_okR tok h rfl (by kernel_rfl)).1

def f18.l22 (k : Nat) (x0 : (List Int)) : Nat → ((List Int) × Int) → Option (List Int)
  | 0, _ => none
  | m22 + 1, (v37, v38) => if (decide ((v38 : Int) < (List.length x0 : Int))) then (if (0 ≤ v38 ∧ v38 < (List.length x0 : Int)) then (if (0 ≤ v38 ∧ v38 < (List.length v37 : Int)) then ((f18.l22 k x0) m22 ((List.set v37 (Int.toNat v38) (List.getD x0 (Int.toNat v38) (0 : Int))), (IntKind.i64.wrap (v38 + (1 : Int))))) else none) else none) else (some v37)
def f18 (k : Nat) (x0 : (List Int)) : Option (List Int) := if (0 ≤ (List.length x0 : Int) ∧ Int.toNat (List.length x0 : Int) * 8 ≤ 140737488355328) then (f18.l22 k x0 k ((List.replicate (Int.toNat (List.length x0 : Int)) (0 : Int)), (0 : Int))) else none
set_option maxRecDepth 100000 in
/-- 'laws.toInt64S'. -/
theorem c18 (k : Nat) (x0 : (List Int)) (r : (List Int)) (hF : f18 k x0 = some r) : PCall Try.prog 18 [⟨(.sl false 2 (.int .i64)), x0⟩] [⟨(.sl true 2 (.int .i64)), r⟩] := by
  refine pcall_intro Try.func18 rfl rfl (Nat.le_of_ble_eq_true rfl) ?_
  intro w0 Zi a w h
  rw [f18] at hF
  refine wp_reg_seq tok (orc := orcL []) (fz := []) (l := [0]) (c := _) (.inr fun i h => h) h (by kernel_rfl) (AllP.nil) ?_
  intro a w h
  obtain ⟨hc43, hF⟩ := of_if hF
  refine wp_reg_seq tok (orc := orcL []) (fz := []) (l := [0, 3]) (c := _) (.inr fun i h => h) h (by kernel_rfl) (AllP.cons hc43 AllP.nil) ?_
  intro a w h
  refine wp_seq ?_
  refine wp_reg_seq tok (orc := orcL []) (fz := []) (l := [0, 3, 4]) (c := _) (.inr fun i h => h) h (by kernel_rfl) (AllP.nil) ?_
  intro a w h
  refine wp_block ?_
  refine wp_loop_fuel (f18.l22 k x0) (fun ((v37, v38) : ((List Int) × Int)) => [(0, .val (.sl false 2 (.int .i64)) x0), (3, .val (.sl true 2 (.int .i64)) v37), (4, .val (.int .i64) v38)]) (fun v h => by obtain ⟨v37, v38⟩ := v; rw [f18.l22] at h; cases h) ?_ hF (h.arrive (fz := []) (l := [0, 3, 4]) (.inr fun i h => h) (by kernel_rfl))
  intro m22 v a w hF h
  obtain ⟨v37, v38⟩ := v
  rw [f18.l22] at hF
  refine wp_seq ?_
  refine wp_reg_seq tok (orc := orcL []) (fz := []) (l := [0, 3, 4, 11]) (c := _) (.inr fun i h => h) h (by kernel_rfl) (AllP.nil) ?_
  intro a w h
  refine wp_if h (b := (decide ((v38 : Int) < (List.length x0 : Int)))) (by kernel_rfl) (fun hb => ?_) (fun hb => ?_)
  · replace hF := of_t hb hF
    refine wp_skip ?_
    refine wp_seq <| wp_block ?_
    obtain ⟨hc41, hF⟩ := of_if hF
    obtain ⟨hc42, hF⟩ := of_if hF
    refine wp_reg tok (orc := orcL []) (fz := []) (l := [0, 3, 4]) (c := _) (.inr fun i h => h) h (by kernel_rfl) (AllP.cons hc41 (AllP.cons hc42 AllP.nil)) ?_
    intro a w h
    refine wp_reg tok (orc := orcL []) (fz := []) (l := [0, 3, 4]) (c := _) (.inr fun i h => h) h (by kernel_rfl) (AllP.nil) ?_
    intro a w h
    exact ⟨((List.set v37 (Int.toNat v38) (List.getD x0 (Int.toNat v38) (0 : Int))), (IntKind.i64.wrap (v38 + (1 : Int)))), hF, h.arrive (fz := []) (l := [0, 3, 4]) (.inr fun i h => h) (by kernel_rfl)⟩
  · replace hF := of_f hb hF
    refine wp_exit ?_
    refine wp_reg_seq tok (orc := orcL []) (fz := []) (l := [2, 3]) (c := _) (.inr fun i h => h) h (by kernel_rfl) (AllP.nil) ?_
    intro a w h
    cases hF
    exact wp_ret (ret_okR tok h rfl (by kernel_rfl)).1

def f102 (k : Nat) (x0 : Int) : Option Bool := some (bif (decide ((x0 : Int) ≥ (1 : Int))) then (decide ((x0 : Int) ≤ (1000000000 : Int))) else false)
set_option maxRecDepth 100000 in
/-- 'spec.l2IdOk'. -/
theorem c102 (k : Nat) (x0 : Int) (r : Bool) (hF : f102 k x0 = some r) : PCall Try.prog 102 [⟨(.int .i64), x0⟩] [⟨.bool, r⟩] := by
  refine pcall_intro Try.func102 rfl rfl (Nat.le_of_ble_eq_true rfl) ?_
  intro w0 Zi a w h
  rw [f102] at hF
  refine wp_reg_seq tok (orc := orcL []) (fz := []) (l := [0]) (c := _) (.inr fun i h => h) h (by kernel_rfl) (AllP.nil) ?_
  intro a w h
  refine wp_reg_seq tok (orc := orcL []) (fz := []) (l := [2]) (c := _) (.inr fun i h => h) h (by kernel_rfl) (AllP.nil) ?_
  intro a w h
  cases hF
  exact wp_ret (ret_okR tok h rfl (by kernel_rfl)).1

def f103 (k : Nat) (x0 : (Int × Int)) : Option Bool := some (bif (bif (bif (decide ((x0.1 : Int) ≥ (-10000000 : Int))) then (decide ((x0.1 : Int) ≤ (10000000 : Int))) else false) then (decide ((x0.2 : Int) ≥ (-10000000 : Int))) else false) then (decide ((x0.2 : Int) ≤ (10000000 : Int))) else false)
set_option maxRecDepth 100000 in
/-- 'spec.PointOk'. -/
theorem c103 (k : Nat) (x0 : (Int × Int)) (r : Bool) (hF : f103 k x0 = some r) : PCall Try.prog 103 [⟨sh5, x0⟩] [⟨.bool, r⟩] := by
  refine pcall_intro Try.func103 rfl rfl (Nat.le_of_ble_eq_true rfl) ?_
  intro w0 Zi a w h
  rw [f103] at hF
  refine wp_reg_seq tok (orc := orcL []) (fz := []) (l := [1]) (c := _) (.inr fun i h => h) h (by kernel_rfl) (AllP.nil) ?_
  intro a w h
  refine wp_reg_seq tok (orc := orcL []) (fz := []) (l := [2]) (c := _) (.inr fun i h => h) h (by kernel_rfl) (AllP.nil) ?_
  intro a w h
  cases hF
  exact wp_ret (ret_okR tok h rfl (by kernel_rfl)).1

def f104 (k : Nat) (x0 : (Int × Int)) (x1 : (Int × Int)) : Option Bool := some (bif (decide ((x0.1 : Int) < x1.1)) then true else (bif ((x0.1 : Int) == x1.1) then (decide ((x0.2 : Int) < x1.2)) else false))
set_option maxRecDepth 100000 in
/-- 'spec.l9BanLess'. -/
theorem c104 (k : Nat) (x0 : (Int × Int)) (x1 : (Int × Int)) (r : Bool) (hF : f104 k x0 x1 = some r) : PCall Try.prog 104 [⟨sh5, x0⟩, ⟨sh5, x1⟩] [⟨.bool, r⟩] := by
  refine pcall_intro Try.func104 rfl rfl (Nat.le_of_ble_eq_true rfl) ?_
  intro w0 Zi a w h
  rw [f104] at hF
  refine wp_reg_seq tok (orc := orcL []) (fz := []) (l := [2, 3]) (c := _) (.inr fun i h => h) h (by kernel_rfl) (AllP.nil) ?_
  intro a w h
  refine wp_reg_seq tok (orc := orcL []) (fz := []) (l := [4]) (c := _) (.inr fun i h => h) h (by kernel_rfl) (AllP.nil) ?_
  intro a w h
  cases hF
  exact wp_ret (ret_okR tok h rfl (by kernel_rfl)).1

def f57.l206 (k : Nat) (x0 : ((List (Int × (Int × Int))) × ((List (Int × (Int × (Int × (Int × (Int × ByteArray)))))) × (List (Int × Int))))) : Nat → Int → Option Bool
  | 0, _ => none
  | m206 + 1, v242 => if (decide ((v242 : Int) < (List.length x0.2.2 : Int))) then (if (0 ≤ v242 ∧ v242 < (List.length x0.2.2 : Int)) then (if (((bif (bif (bif (decide (((List.getD x0.2.2 (Int.toNat v242) ((0 : Int), (0 : Int))).1 : Int) < (0 : Int))) then true else (decide (((List.getD x0.2.2 (Int.toNat v242) ((0 : Int), (0 : Int))).1 : Int) ≥ (List.length x0.2.1 : Int)))) then true else (decide (((List.getD x0.2.2 (Int.toNat v242) ((0 : Int), (0 : Int))).2 : Int) < (0 : Int)))) then true else (decide (((List.getD x0.2.2 (Int.toNat v242) ((0 : Int), (0 : Int))).2 : Int) ≥ (List.length x0.2.1 : Int)))) = false) → (0 ≤ (List.getD x0.2.2 (Int.toNat v242) ((0 : Int), (0 : Int))).1 ∧ (List.getD x0.2.2 (Int.toNat v242) ((0 : Int), (0 : Int))).1 < (List.length x0.2.1 : Int))) then (if (((bif (bif (bif (decide (((List.getD x0.2.2 (Int.toNat v242) ((0 : Int), (0 : Int))).1 : Int) < (0 : Int))) then true else (decide (((List.getD x0.2.2 (Int.toNat v242) ((0 : Int), (0 : Int))).1 : Int) ≥ (List.length x0.2.1 : Int)))) then true else (decide (((List.getD x0.2.2 (Int.toNat v242) ((0 : Int), (0 : Int))).2 : Int) < (0 : Int)))) then true else (decide (((List.getD x0.2.2 (Int.toNat v242) ((0 : Int), (0 : Int))).2 : Int) ≥ (List.length x0.2.1 : Int)))) = false) → (0 ≤ (List.getD x0.2.2 (Int.toNat v242) ((0 : Int), (0 : Int))).2 ∧ (List.getD x0.2.2 (Int.toNat v242) ((0 : Int), (0 : Int))).2 < (List.length x0.2.1 : Int))) then (if ((((bif (bif (bif (bif (decide (((List.getD x0.2.2 (Int.toNat v242) ((0 : Int), (0 : Int))).1 : Int) < (0 : Int))) then true else (decide (((List.getD x0.2.2 (Int.toNat v242) ((0 : Int), (0 : Int))).1 : Int) ≥ (List.length x0.2.1 : Int)))) then true else (decide (((List.getD x0.2.2 (Int.toNat v242) ((0 : Int), (0 : Int))).2 : Int) < (0 : Int)))) then true else (decide (((List.getD x0.2.2 (Int.toNat v242) ((0 : Int), (0 : Int))).2 : Int) ≥ (List.length x0.2.1 : Int)))) then true else (((List.getD x0.2.1 (Int.toNat (List.getD x0.2.2 (Int.toNat v242) ((0 : Int), (0 : Int))).1) ((0 : Int), ((0 : Int), ((0 : Int), ((0 : Int), ((0 : Int), (⟨#[]⟩ : ByteArray))))))).2.1 : Int) != (List.getD x0.2.1 (Int.toNat (List.getD x0.2.2 (Int.toNat v242) ((0 : Int), (0 : Int))).2) ((0 : Int), ((0 : Int), ((0 : Int), ((0 : Int), ((0 : Int), (⟨#[]⟩ : ByteArray))))))).1)) = false) ∧ ((decide ((v242 : Int) > (0 : Int))) = true)) → (0 ≤ (IntKind.i64.wrap (v242 - (1 : Int))) ∧ (IntKind.i64.wrap (v242 - (1 : Int))) < (List.length x0.2.2 : Int))) then ((if (((bif (bif (bif (bif (decide (((List.getD x0.2.2 (Int.toNat v242) ((0 : Int), (0 : Int))).1 : Int) < (0 : Int))) then true else (decide (((List.getD x0.2.2 (Int.toNat v242) ((0 : Int), (0 : Int))).1 : Int) ≥ (List.length x0.2.1 : Int)))) then true else (decide (((List.getD x0.2.2 (Int.toNat v242) ((0 : Int), (0 : Int))).2 : Int) < (0 : Int)))) then true else (decide (((List.getD x0.2.2 (Int.toNat v242) ((0 : Int), (0 : Int))).2 : Int) ≥ (List.length x0.2.1 : Int)))) then true else (((List.getD x0.2.1 (Int.toNat (List.getD x0.2.2 (Int.toNat v242) ((0 : Int), (0 : Int))).1) ((0 : Int), ((0 : Int), ((0 : Int), ((0 : Int), ((0 : Int), (⟨#[]⟩ : ByteArray))))))).2.1 : Int) != (List.getD x0.2.1 (Int.toNat (List.getD x0.2.2 (Int.toNat v242) ((0 : Int), (0 : Int))).2) ((0 : Int), ((0 : Int), ((0 : Int), ((0 : Int), ((0 : Int), (⟨#[]⟩ : ByteArray))))))).1)) = false) ∧ ((decide ((v242 : Int) > (0 : Int))) = true)) then f104 k (List.getD x0.2.2 (Int.toNat (IntKind.i64.wrap (v242 - (1 : Int)))) ((0 : Int), (0 : Int))) (List.getD x0.2.2 (Int.toNat v242) ((0 : Int), (0 : Int))) else some default).bind fun r251 => ((some ((bif (bif (bif (bif (bif (decide (((List.getD x0.2.2 (Int.toNat v242) ((0 : Int), (0 : Int))).1 : Int) < (0 : Int))) then true else (decide (((List.getD x0.2.2 (Int.toNat v242) ((0 : Int), (0 : Int))).1 : Int) ≥ (List.length x0.2.1 : Int)))) then true else (decide (((List.getD x0.2.2 (Int.toNat v242) ((0 : Int), (0 : Int))).2 : Int) < (0 : Int)))) then true else (decide (((List.getD x0.2.2 (Int.toNat v242) ((0 : Int), (0 : Int))).2 : Int) ≥ (List.length x0.2.1 : Int)))) then true else (((List.getD x0.2.1 (Int.toNat (List.getD x0.2.2 (Int.toNat v242) ((0 : Int), (0 : Int))).1) ((0 : Int), ((0 : Int), ((0 : Int), ((0 : Int), ((0 : Int), (⟨#[]⟩ : ByteArray))))))).2.1 : Int) != (List.getD x0.2.1 (Int.toNat (List.getD x0.2.2 (Int.toNat v242) ((0 : Int), (0 : Int))).2) ((0 : Int), ((0 : Int), ((0 : Int), ((0 : Int), ((0 : Int), (⟨#[]⟩ : ByteArray))))))).1)) then true else (bif (decide ((v242 : Int) > (0 : Int))) then (!r251) else false)) : Bool)).bind fun v252 => (if v252 then (some false) else ((f57.l206 k x0) m206 (IntKind.i64.wrap (v242 + (1 : Int))))))) else none) else none) else none) else none) else (some true)
def f57.l118 (k : Nat) (x0 : ((List (Int × (Int × Int))) × ((List (Int × (Int × (Int × (Int × (Int × ByteArray)))))) × (List (Int × Int))))) : Nat → Int → Option Bool
  | 0, _ => none
  | m118 + 1, v142 => if (decide ((v142 : Int) < (List.length x0.2.1 : Int))) then (if (0 ≤ v142 ∧ v142 < (List.length x0.2.1 : Int)) then ((if ((bif (bif (bif (decide (((List.getD x0.2.1 (Int.toNat v142) ((0 : Int), ((0 : Int), ((0 : Int), ((0 : Int), ((0 : Int), (⟨#[]⟩ : ByteArray))))))).1 : Int) < (0 : Int))) then true else (decide (((List.getD x0.2.1 (Int.toNat v142) ((0 : Int), ((0 : Int), ((0 : Int), ((0 : Int), ((0 : Int), (⟨#[]⟩ : ByteArray))))))).1 : Int) ≥ (List.length x0.1 : Int)))) then true else (decide (((List.getD x0.2.1 (Int.toNat v142) ((0 : Int), ((0 : Int), ((0 : Int), ((0 : Int), ((0 : Int), (⟨#[]⟩ : ByteArray))))))).2.1 : Int) < (0 : Int)))) then true else (decide (((List.getD x0.2.1 (Int.toNat v142) ((0 : Int), ((0 : Int), ((0 : Int), ((0 : Int), ((0 : Int), (⟨#[]⟩ : ByteArray))))))).2.1 : Int) ≥ (List.length x0.1 : Int)))) = false) then f102 k (List.getD x0.2.1 (Int.toNat v142) ((0 : Int), ((0 : Int), ((0 : Int), ((0 : Int), ((0 : Int), (⟨#[]⟩ : ByteArray))))))).2.2.1 else some default).bind fun r148 => ((some ((bif (bif (bif (bif (bif (bif (bif (bif (decide (((List.getD x0.2.1 (Int.toNat v142) ((0 : Int), ((0 : Int), ((0 : Int), ((0 : Int), ((0 : Int), (⟨#[]⟩ : ByteArray))))))).1 : Int) < (0 : Int))) then true else (decide (((List.getD x0.2.1 (Int.toNat v142) ((0 : Int), ((0 : Int), ((0 : Int), ((0 : Int), ((0 : Int), (⟨#[]⟩ : ByteArray))))))).1 : Int) ≥ (List.length x0.1 : Int)))) then true else (decide (((List.getD x0.2.1 (Int.toNat v142) ((0 : Int), ((0 : Int), ((0 : Int), ((0 : Int), ((0 : Int), (⟨#[]⟩ : ByteArray))))))).2.1 : Int) < (0 : Int)))) then true else (decide (((List.getD x0.2.1 (Int.toNat v142) ((0 : Int), ((0 : Int), ((0 : Int), ((0 : Int), ((0 : Int), (⟨#[]⟩ : ByteArray))))))).2.1 : Int) ≥ (List.length x0.1 : Int)))) then true else (!r148)) then true else (decide (((List.getD x0.2.1 (Int.toNat v142) ((0 : Int), ((0 : Int), ((0 : Int), ((0 : Int), ((0 : Int), (⟨#[]⟩ : ByteArray))))))).2.2.2.1 : Int) < (1 : Int)))) then true else (decide (((List.getD x0.2.1 (Int.toNat v142) ((0 : Int), ((0 : Int), ((0 : Int), ((0 : Int), ((0 : Int), (⟨#[]⟩ : ByteArray))))))).2.2.2.1 : Int) > (1000000 : Int)))) then true else (decide (((List.getD x0.2.1 (Int.toNat v142) ((0 : Int), ((0 : Int), ((0 : Int), ((0 : Int), ((0 : Int), (⟨#[]⟩ : ByteArray))))))).2.2.2.2.1 : Int) < (0 : Int)))) then true else (decide (((List.getD x0.2.1 (Int.toNat v142) ((0 : Int), ((0 : Int), ((0 : Int), ((0 : Int), ((0 : Int), (⟨#[]⟩ : ByteArray))))))).2.2.2.2.1 : Int) > (1000000000 : Int)))) : Bool)).bind fun v149 => (if v149 then (some false) else ((f57.l118 k x0) m118 (IntKind.i64.wrap (v142 + (1 : Int))))))) else none) else (f57.l206 k x0 k (0 : Int))
def f57.l42 (k : Nat) (x0 : ((List (Int × (Int × Int))) × ((List (Int × (Int × (Int × (Int × (Int × ByteArray)))))) × (List (Int × Int))))) : Nat → Int → Option Bool
  | 0, _ => none
  | m42 + 1, v70 => if (decide ((v70 : Int) < (List.length x0.1 : Int))) then (if (0 ≤ v70 ∧ v70 < (List.length x0.1 : Int)) then ((f102 k (List.getD x0.1 (Int.toNat v70) ((0 : Int), ((0 : Int), (0 : Int)))).1).bind fun r77 => ((if ((!r77) = false) then f103 k (List.getD x0.1 (Int.toNat v70) ((0 : Int), ((0 : Int), (0 : Int)))).2 else some default).bind fun r78 => (if ((((bif (!r77) then true else (!r78)) = false) ∧ ((decide ((v70 : Int) > (0 : Int))) = true)) → (0 ≤ (IntKind.i64.wrap (v70 - (1 : Int))) ∧ (IntKind.i64.wrap (v70 - (1 : Int))) < (List.length x0.1 : Int))) then (if (bif (bif (!r77) then true else (!r78)) then true else (bif (decide ((v70 : Int) > (0 : Int))) then (decide (((List.getD x0.1 (Int.toNat (IntKind.i64.wrap (v70 - (1 : Int)))) ((0 : Int), ((0 : Int), (0 : Int)))).1 : Int) ≥ (List.getD x0.1 (Int.toNat v70) ((0 : Int), ((0 : Int), (0 : Int)))).1)) else false)) then (some false) else ((f57.l42 k x0) m42 (IntKind.i64.wrap (v70 + (1 : Int))))) else none))) else none) else (f57.l118 k x0 k (0 : Int))
def f57 (k : Nat) (x0 : ((List (Int × (Int × Int))) × ((List (Int × (Int × (Int × (Int × (Int × ByteArray)))))) × (List (Int × Int))))) : Option Bool := if (bif (bif (decide (((List.length x0.1 : Int) : Int) > (5000 : Int))) then true else (decide (((List.length x0.2.1 : Int) : Int) > (8000 : Int)))) then true else (decide (((List.length x0.2.2 : Int) : Int) > (2000 : Int)))) then (some false) else (f57.l42 k x0 k (0 : Int))
set_option maxRecDepth 100000 in
/-- 'spec.GraphOk'. -/
theorem c57 (k : Nat) (x0 : ((List (Int × (Int × Int))) × ((List (Int × (Int × (Int × (Int × (Int × ByteArray)))))) × (List (Int × Int))))) (r : Bool) (hF : f57 k x0 = some r) : PCall Try.prog 57 [⟨sh12, x0⟩] [⟨.bool, r⟩] := by
  refine pcall_intro Try.func57 rfl rfl (Nat.le_of_ble_eq_true rfl) ?_
  intro w0 Zi a w h
  rw [f57] at hF
  refine wp_reg_seq tok (orc := orcL []) (fz := []) (l := [1]) (c := _) (.inr fun i h => h) h (by kernel_rfl) (AllP.nil) ?_
  intro a w h
  refine wp_seq ?_
  refine wp_reg_seq tok (orc := orcL []) (fz := []) (l := [1, 26]) (c := _) (.inr fun i h => h) h (by kernel_rfl) (AllP.nil) ?_
  intro a w h
  refine wp_if h (b := (bif (bif (decide (((List.length x0.1 : Int) : Int) > (5000 : Int))) then true else (decide (((List.length x0.2.1 : Int) : Int) > (8000 : Int)))) then true else (decide (((List.length x0.2.2 : Int) : Int) > (2000 : Int))))) (by kernel_rfl) (fun hb => ?_) (fun hb => ?_)
  · replace hF := of_t hb hF
    refine wp_reg_seq tok (orc := orcL []) (fz := []) (l := [2]) (c := _) (.inr fun i h => h) h (by kernel_rfl) (AllP.nil) ?_
    intro a w h
    cases hF
    exact wp_ret (ret_okR tok h rfl (by kernel_rfl)).1
  · replace hF := of_f hb hF
    refine wp_skip ?_
    refine wp_seq ?_
    refine wp_reg_seq tok (orc := orcL []) (fz := []) (l := [1, 3]) (c := _) (.inr fun i h => h) h (by kernel_rfl) (AllP.nil) ?_
    intro a w h
    refine wp_block ?_
    refine wp_loop_fuel (f57.l42 k x0) (fun (v70 : Int) => [(1, .val sh11 (some x0)), (3, .val (.int .i64) v70)]) (fun v h => by rw [f57.l42] at h; cases h) ?_ hF (h.arrive (fz := []) (l := [1, 3]) (.inr fun i h => h) (by kernel_rfl))
    intro m42 v70 a w hF h
    rw [f57.l42] at hF
    refine wp_seq ?_
    refine wp_reg_seq tok (orc := orcL []) (fz := []) (l := [1, 3, 31]) (c := _) (.inr fun i h => h) h (by kernel_rfl) (AllP.nil) ?_
    intro a w h
    refine wp_if h (b := (decide ((v70 : Int) < (List.length x0.1 : Int)))) (by kernel_rfl) (fun hb => ?_) (fun hb => ?_)
    · replace hF := of_t hb hF
      refine wp_skip ?_
      refine wp_seq <| wp_block ?_
      obtain ⟨hc82, hF⟩ := of_if hF
      refine wp_reg_seq tok (orc := orcL []) (fz := []) (l := [1, 3, 4]) (c := _) (.inr fun i h => h) h (by kernel_rfl) (AllP.cons hc82 AllP.nil) ?_
      intro a w h
      obtain ⟨r77, hr79, hF⟩ := of_bind hF
      obtain ⟨r78, hr80, hF⟩ := of_bind hF
      obtain ⟨hc81, hF⟩ := of_if hF
      refine wp_regy_seq tok (orc := orcL [(41, [⟨.bool, r77⟩]), (46, [⟨.bool, r78⟩])]) (fz := []) (l := [1, 3, 64]) (c := _) ([], [], [], []) 26 (.inr fun i h => h) h (by kernel_rfl) (by kernel_rfl) (AllP.cons (c102 k (List.getD x0.1 (Int.toNat v70) ((0 : Int), ((0 : Int), (0 : Int)))).1 r77 hr79) (AllP.cons (fun (hg : ((!r77) = false)) => c103 k (List.getD x0.1 (Int.toNat v70) ((0 : Int), ((0 : Int), (0 : Int)))).2 r78 (of_g hg hr80)) (AllP.cons hc81 AllP.nil))) ?_
      intro a w h
      refine wp_if h (b := (bif (bif (!r77) then true else (!r78)) then true else (bif (decide ((v70 : Int) > (0 : Int))) then (decide (((List.getD x0.1 (Int.toNat (IntKind.i64.wrap (v70 - (1 : Int)))) ((0 : Int), ((0 : Int), (0 : Int)))).1 : Int) ≥ (List.getD x0.1 (Int.toNat v70) ((0 : Int), ((0 : Int), (0 : Int)))).1)) else false))) (by kernel_rfl) (fun hb => ?_) (fun hb => ?_)
      · replace hF := of_t hb hF
        refine wp_reg_seq tok (orc := orcL []) (fz := []) (l := [2]) (c := _) (.inr fun i h => h) h (by kernel_rfl) (AllP.nil) ?_
        intro a w h
        cases hF
        exact wp_ret (ret_okR tok h rfl (by kernel_rfl)).1
      · replace hF := of_f hb hF
        refine wp_skip ?_
        refine wp_reg tok (orc := orcL []) (fz := []) (l := [1, 3]) (c := _) (.inr fun i h => h) h (by kernel_rfl) (AllP.nil) ?_
        intro a w h
        exact ⟨(IntKind.i64.wrap (v70 + (1 : Int))), hF, h.arrive (fz := []) (l := [1, 3]) (.inr fun i h => h) (by kernel_rfl)⟩
    · replace hF := of_f hb hF
      refine wp_exit ?_
      refine wp_reg_seq tok (orc := orcL []) (fz := []) (l := [1, 5]) (c := _) (.inr fun i h => h) h (by kernel_rfl) (AllP.nil) ?_
      intro a w h
      refine wp_seq ?_
      refine wp_reg_seq tok (orc := orcL []) (fz := []) (l := [1, 5, 6]) (c := _) (.inr fun i h => h) h (by kernel_rfl) (AllP.nil) ?_
      intro a w h
      refine wp_block ?_
      refine wp_loop_fuel (f57.l118 k x0) (fun (v142 : Int) => [(1, .val sh11 (some x0)), (5, .val (.int .i64) (List.length x0.1 : Int)), (6, .val (.int .i64) v142)]) (fun v h => by rw [f57.l118] at h; cases h) ?_ hF (h.arrive (fz := []) (l := [1, 5, 6]) (.inr fun i h => h) (by kernel_rfl))
      intro m118 v142 a w hF h
      rw [f57.l118] at hF
      refine wp_seq ?_
      refine wp_reg_seq tok (orc := orcL []) (fz := []) (l := [1, 5, 6, 72]) (c := _) (.inr fun i h => h) h (by kernel_rfl) (AllP.nil) ?_
      intro a w h
      refine wp_if h (b := (decide ((v142 : Int) < (List.length x0.2.1 : Int)))) (by kernel_rfl) (fun hb => ?_) (fun hb => ?_)
      · replace hF := of_t hb hF
        refine wp_skip ?_
        refine wp_seq <| wp_block ?_
        obtain ⟨hc152, hF⟩ := of_if hF
        refine wp_reg_seq tok (orc := orcL []) (fz := []) (l := [1, 5, 6, 7]) (c := _) (.inr fun i h => h) h (by kernel_rfl) (AllP.cons hc152 AllP.nil) ?_
        intro a w h
        obtain ⟨r148, hr151, hF⟩ := of_bind hF
        refine wp_reg_seq tok (orc := orcL [(103, [⟨.bool, r148⟩])]) (fz := []) (l := [1, 5, 6, 125]) (c := _) (.inr fun i h => h) h (by kernel_rfl) (AllP.cons (fun (hg : ((bif (bif (bif (decide (((List.getD x0.2.1 (Int.toNat v142) ((0 : Int), ((0 : Int), ((0 : Int), ((0 : Int), ((0 : Int), (⟨#[]⟩ : ByteArray))))))).1 : Int) < (0 : Int))) then true else (decide (((List.getD x0.2.1 (Int.toNat v142) ((0 : Int), ((0 : Int), ((0 : Int), ((0 : Int), ((0 : Int), (⟨#[]⟩ : ByteArray))))))).1 : Int) ≥ (List.length x0.1 : Int)))) then true else (decide (((List.getD x0.2.1 (Int.toNat v142) ((0 : Int), ((0 : Int), ((0 : Int), ((0 : Int), ((0 : Int), (⟨#[]⟩ : ByteArray))))))).2.1 : Int) < (0 : Int)))) then true else (decide (((List.getD x0.2.1 (Int.toNat v142) ((0 : Int), ((0 : Int), ((0 : Int), ((0 : Int), ((0 : Int), (⟨#[]⟩ : ByteArray))))))).2.1 : Int) ≥ (List.length x0.1 : Int)))) = false)) => c102 k (List.getD x0.2.1 (Int.toNat v142) ((0 : Int), ((0 : Int), ((0 : Int), ((0 : Int), ((0 : Int), (⟨#[]⟩ : ByteArray))))))).2.2.1 r148 (of_g hg hr151)) AllP.nil) ?_
        intro a w h
        obtain ⟨v149, hv150, hF⟩ := of_bind hF
        replace h := h.cast (S' := [(1, .val sh11 (some x0)), (5, .val (.int .i64) (List.length x0.1 : Int)), (6, .val (.int .i64) v142), (125, .val .bool v149)]) (by cases hv150; kernel_rfl)
        refine wp_if h (b := v149) (by kernel_rfl) (fun hb => ?_) (fun hb => ?_)
        · replace hF := of_t hb hF
          refine wp_reg_seq tok (orc := orcL []) (fz := []) (l := [2]) (c := _) (.inr fun i h => h) h (by kernel_rfl) (AllP.nil) ?_
          intro a w h
          cases hF
          exact wp_ret (ret_okR tok h rfl (by kernel_rfl)).1
        · replace hF := of_f hb hF
          refine wp_skip ?_
          refine wp_reg tok (orc := orcL []) (fz := []) (l := [1, 5, 6]) (c := _) (.inr fun i h => h) h (by kernel_rfl) (AllP.nil) ?_
          intro a w h
          exact ⟨(IntKind.i64.wrap (v142 + (1 : Int))), hF, h.arrive (fz := []) (l := [1, 5, 6]) (.inr fun i h => h) (by kernel_rfl)⟩
      · replace hF := of_f hb hF
        refine wp_exit ?_
        refine wp_reg_seq tok (orc := orcL []) (fz := []) (l := [1, 8]) (c := _) (.inr fun i h => h) h (by kernel_rfl) (AllP.nil) ?_
        intro a w h
        refine wp_seq ?_
        refine wp_reg_seq tok (orc := orcL []) (fz := []) (l := [1, 8, 9]) (c := _) (.inr fun i h => h) h (by kernel_rfl) (AllP.nil) ?_
        intro a w h
        refine wp_block ?_
        refine wp_loop_fuel (f57.l206 k x0) (fun (v242 : Int) => [(1, .val sh11 (some x0)), (8, .val (.int .i64) (List.length x0.2.1 : Int)), (9, .val (.int .i64) v242)]) (fun v h => by rw [f57.l206] at h; cases h) ?_ hF (h.arrive (fz := []) (l := [1, 8, 9]) (.inr fun i h => h) (by kernel_rfl))
        intro m206 v242 a w hF h
        rw [f57.l206] at hF
        refine wp_seq ?_
        refine wp_reg_seq tok (orc := orcL []) (fz := []) (l := [1, 8, 9, 133]) (c := _) (.inr fun i h => h) h (by kernel_rfl) (AllP.nil) ?_
        intro a w h
        refine wp_if h (b := (decide ((v242 : Int) < (List.length x0.2.2 : Int)))) (by kernel_rfl) (fun hb => ?_) (fun hb => ?_)
        · replace hF := of_t hb hF
          refine wp_skip ?_
          refine wp_seq <| wp_block ?_
          obtain ⟨hc258, hF⟩ := of_if hF
          refine wp_reg_seq tok (orc := orcL []) (fz := []) (l := [1, 8, 9, 10]) (c := _) (.inr fun i h => h) h (by kernel_rfl) (AllP.cons hc258 AllP.nil) ?_
          intro a w h
          obtain ⟨hc254, hF⟩ := of_if hF
          obtain ⟨hc255, hF⟩ := of_if hF
          obtain ⟨hc256, hF⟩ := of_if hF
          obtain ⟨r251, hr257, hF⟩ := of_bind hF
          refine wp_regy_seq tok (orc := orcL [(189, [⟨.bool, r251⟩])]) (fz := []) (l := [1, 8, 9, 192]) (c := _) ([], [], [], []) 52 (.inr fun i h => h) h (by kernel_rfl) (by kernel_rfl) (AllP.cons hc254 (AllP.cons hc255 (AllP.cons hc256 (AllP.cons (fun (hg : (((bif (bif (bif (bif (decide (((List.getD x0.2.2 (Int.toNat v242) ((0 : Int), (0 : Int))).1 : Int) < (0 : Int))) then true else (decide (((List.getD x0.2.2 (Int.toNat v242) ((0 : Int), (0 : Int))).1 : Int) ≥ (List.length x0.2.1 : Int)))) then true else (decide (((List.getD x0.2.2 (Int.toNat v242) ((0 : Int), (0 : Int))).2 : Int) < (0 : Int)))) then true else (decide (((List.getD x0.2.2 (Int.toNat v242) ((0 : Int), (0 : Int))).2 : Int) ≥ (List.length x0.2.1 : Int)))) then true else (((List.getD x0.2.1 (Int.toNat (List.getD x0.2.2 (Int.toNat v242) ((0 : Int), (0 : Int))).1) ((0 : Int), ((0 : Int), ((0 : Int), ((0 : Int), ((0 : Int), (⟨#[]⟩ : ByteArray))))))).2.1 : Int) != (List.getD x0.2.1 (Int.toNat (List.getD x0.2.2 (Int.toNat v242) ((0 : Int), (0 : Int))).2) ((0 : Int), ((0 : Int), ((0 : Int), ((0 : Int), ((0 : Int), (⟨#[]⟩ : ByteArray))))))).1)) = false) ∧ ((decide ((v242 : Int) > (0 : Int))) = true))) => c104 k (List.getD x0.2.2 (Int.toNat (IntKind.i64.wrap (v242 - (1 : Int)))) ((0 : Int), (0 : Int))) (List.getD x0.2.2 (Int.toNat v242) ((0 : Int), (0 : Int))) r251 (of_g hg hr257)) AllP.nil)))) ?_
          intro a w h
          obtain ⟨v252, hv253, hF⟩ := of_bind hF
          replace h := h.cast (S' := [(1, .val sh11 (some x0)), (8, .val (.int .i64) (List.length x0.2.1 : Int)), (9, .val (.int .i64) v242), (192, .val .bool v252)]) (by cases hv253; kernel_rfl)
          refine wp_if h (b := v252) (by kernel_rfl) (fun hb => ?_) (fun hb => ?_)
          · replace hF := of_t hb hF
            refine wp_reg_seq tok (orc := orcL []) (fz := []) (l := [2]) (c := _) (.inr fun i h => h) h (by kernel_rfl) (AllP.nil) ?_
            intro a w h
            cases hF
            exact wp_ret (ret_okR tok h rfl (by kernel_rfl)).1
          · replace hF := of_f hb hF
            refine wp_skip ?_
            refine wp_reg tok (orc := orcL []) (fz := []) (l := [1, 8, 9]) (c := _) (.inr fun i h => h) h (by kernel_rfl) (AllP.nil) ?_
            intro a w h
            exact ⟨(IntKind.i64.wrap (v242 + (1 : Int))), hF, h.arrive (fz := []) (l := [1, 8, 9]) (.inr fun i h => h) (by kernel_rfl)⟩
        · replace hF := of_f hb hF
          refine wp_exit ?_
          refine wp_reg_seq tok (orc := orcL []) (fz := []) (l := [2]) (c := _) (.inr fun i h => h) h (by kernel_rfl) (AllP.nil) ?_
          intro a w h
          cases hF
          exact wp_ret (ret_okR tok h rfl (by kernel_rfl)).1

def f75 (k : Nat) (x0 : ((List (Int × (Int × Int))) × ((List (Int × (Int × (Int × (Int × (Int × ByteArray)))))) × (List (Int × Int))))) (x1 : Int) : Option Bool := some (bif (decide ((x1 : Int) ≥ (0 : Int))) then (decide ((x1 : Int) < (List.length x0.2.1 : Int))) else false)
set_option maxRecDepth 100000 in
/-- 'spec.l10RoadIs'. -/
theorem c75 (k : Nat) (x0 : ((List (Int × (Int × Int))) × ((List (Int × (Int × (Int × (Int × (Int × ByteArray)))))) × (List (Int × Int))))) (x1 : Int) (r : Bool) (hF : f75 k x0 x1 = some r) : PCall Try.prog 75 [⟨sh12, x0⟩, ⟨(.int .i64), x1⟩] [⟨.bool, r⟩] := by
  refine pcall_intro Try.func75 rfl rfl (Nat.le_of_ble_eq_true rfl) ?_
  intro w0 Zi a w h
  rw [f75] at hF
  refine wp_reg_seq tok (orc := orcL []) (fz := []) (l := [1, 2]) (c := _) (.inr fun i h => h) h (by kernel_rfl) (AllP.nil) ?_
  intro a w h
  refine wp_reg_seq tok (orc := orcL []) (fz := []) (l := [4]) (c := _) (.inr fun i h => h) h (by kernel_rfl) (AllP.nil) ?_
  intro a w h
  cases hF
  exact wp_ret (ret_okR tok h rfl (by kernel_rfl)).1

def f58.l24 (k : Nat) (x1 : (List Int)) (x0 : ((List (Int × (Int × Int))) × ((List (Int × (Int × (Int × (Int × (Int × ByteArray)))))) × (List (Int × Int))))) : Nat → Int → Option Bool
  | 0, _ => none
  | m24 + 1, v40 => if (decide ((v40 : Int) < (List.length x1 : Int))) then (if (0 ≤ v40 ∧ v40 < (List.length x1 : Int)) then ((f75 k x0 (List.getD x1 (Int.toNat v40) (0 : Int))).bind fun r44 => (if (!r44) then (some false) else ((f58.l24 k x1 x0) m24 (IntKind.i64.wrap (v40 + (1 : Int)))))) else none) else (some true)
def f58 (k : Nat) (x0 : ((List (Int × (Int × Int))) × ((List (Int × (Int × (Int × (Int × (Int × ByteArray)))))) × (List (Int × Int))))) (x1 : (List Int)) : Option Bool := f58.l24 k x1 x0 k (0 : Int)
set_option maxRecDepth 100000 in
/-- 'spec.l12RoadsOk'. -/
theorem c58 (k : Nat) (x0 : ((List (Int × (Int × Int))) × ((List (Int × (Int × (Int × (Int × (Int × ByteArray)))))) × (List (Int × Int))))) (x1 : (List Int)) (r : Bool) (hF : f58 k x0 x1 = some r) : PCall Try.prog 58 [⟨sh12, x0⟩, ⟨(.sl false 2 (.int .i64)), x1⟩] [⟨.bool, r⟩] := by
  refine pcall_intro Try.func58 rfl rfl (Nat.le_of_ble_eq_true rfl) ?_
  intro w0 Zi a w h
  rw [f58] at hF
  refine wp_reg_seq tok (orc := orcL []) (fz := []) (l := [1, 2]) (c := _) (.inr fun i h => h) h (by kernel_rfl) (AllP.nil) ?_
  intro a w h
  refine wp_seq ?_
  refine wp_reg_seq tok (orc := orcL []) (fz := []) (l := [1, 2, 5]) (c := _) (.inr fun i h => h) h (by kernel_rfl) (AllP.nil) ?_
  intro a w h
  refine wp_block ?_
  refine wp_loop_fuel (f58.l24 k x1 x0) (fun (v40 : Int) => [(1, .val (.sl false 2 (.int .i64)) x1), (2, .val sh11 (some x0)), (5, .val (.int .i64) v40)]) (fun v h => by rw [f58.l24] at h; cases h) ?_ hF (h.arrive (fz := []) (l := [1, 2, 5]) (.inr fun i h => h) (by kernel_rfl))
  intro m24 v40 a w hF h
  rw [f58.l24] at hF
  refine wp_seq ?_
  refine wp_reg_seq tok (orc := orcL []) (fz := []) (l := [1, 2, 5, 9]) (c := _) (.inr fun i h => h) h (by kernel_rfl) (AllP.nil) ?_
  intro a w h
  refine wp_if h (b := (decide ((v40 : Int) < (List.length x1 : Int)))) (by kernel_rfl) (fun hb => ?_) (fun hb => ?_)
  · replace hF := of_t hb hF
    refine wp_skip ?_
    refine wp_seq <| wp_block ?_
    obtain ⟨hc45, hF⟩ := of_if hF
    obtain ⟨r44, hr46, hF⟩ := of_bind hF
    refine wp_regy_seq tok (orc := orcL [(17, [⟨.bool, r44⟩])]) (fz := []) (l := [1, 2, 5, 18]) (c := _) ([], [], [], []) 7 (.inr fun i h => h) h (by kernel_rfl) (by kernel_rfl) (AllP.cons hc45 (AllP.cons (c75 k x0 (List.getD x1 (Int.toNat v40) (0 : Int)) r44 hr46) AllP.nil)) ?_
    intro a w h
    refine wp_if h (b := (!r44)) (by kernel_rfl) (fun hb => ?_) (fun hb => ?_)
    · replace hF := of_t hb hF
      refine wp_reg_seq tok (orc := orcL []) (fz := []) (l := [4]) (c := _) (.inr fun i h => h) h (by kernel_rfl) (AllP.nil) ?_
      intro a w h
      cases hF
      exact wp_ret (ret_okR tok h rfl (by kernel_rfl)).1
    · replace hF := of_f hb hF
      refine wp_skip ?_
      refine wp_reg tok (orc := orcL []) (fz := []) (l := [1, 2, 5]) (c := _) (.inr fun i h => h) h (by kernel_rfl) (AllP.nil) ?_
      intro a w h
      exact ⟨(IntKind.i64.wrap (v40 + (1 : Int))), hF, h.arrive (fz := []) (l := [1, 2, 5]) (.inr fun i h => h) (by kernel_rfl)⟩
  · replace hF := of_f hb hF
    refine wp_exit ?_
    refine wp_reg_seq tok (orc := orcL []) (fz := []) (l := [4]) (c := _) (.inr fun i h => h) h (by kernel_rfl) (AllP.nil) ?_
    intro a w h
    cases hF
    exact wp_ret (ret_okR tok h rfl (by kernel_rfl)).1

def f70.j152 (k : Nat) (v143 : Int) (q101 : ((List Bool) × Int × Int) → Option Int) : ((List Bool) × Int) → Option Int
  | (v150, v151) => q101 (v150, v151, (IntKind.i64.wrap (v143 + (1 : Int))))
def f70.l101 (k : Nat) (x1 : (List Int)) (x0 : ((List (Int × (Int × Int))) × ((List (Int × (Int × (Int × (Int × (Int × ByteArray)))))) × (List (Int × Int))))) : Nat → ((List Bool) × Int × Int) → Option Int
  | 0, _ => none
  | m101 + 1, (v141, v142, v143) => if (decide ((v143 : Int) < (List.length x1 : Int))) then (if (0 ≤ v143 ∧ v143 < (List.length x1 : Int)) then (if (0 ≤ (List.getD x1 (Int.toNat v143) (0 : Int)) ∧ (List.getD x1 (Int.toNat v143) (0 : Int)) < (List.length v141 : Int)) then (if (List.getD v141 (Int.toNat (List.getD x1 (Int.toNat v143) (0 : Int))) false) then (if (0 ≤ v143 ∧ v143 < (List.length x1 : Int)) then (if (0 ≤ (List.getD x1 (Int.toNat v143) (0 : Int)) ∧ (List.getD x1 (Int.toNat v143) (0 : Int)) < (List.length x0.2.1 : Int)) then (if (0 ≤ v143 ∧ v143 < (List.length x1 : Int)) then (if (0 ≤ (List.getD x1 (Int.toNat v143) (0 : Int)) ∧ (List.getD x1 (Int.toNat v143) (0 : Int)) < (List.length v141 : Int)) then (f70.j152 k v143 ((f70.l101 k x1 x0) m101) ((List.set v141 (Int.toNat (List.getD x1 (Int.toNat v143) (0 : Int))) false), (IntKind.i64.wrap (v142 + (List.getD x0.2.1 (Int.toNat (List.getD x1 (Int.toNat v143) (0 : Int))) ((0 : Int), ((0 : Int), ((0 : Int), ((0 : Int), ((0 : Int), (⟨#[]⟩ : ByteArray))))))).2.2.2.1)))) else none) else none) else none) else none) else (f70.j152 k v143 ((f70.l101 k x1 x0) m101) (v141, v142))) else none) else none) else (some v142)
def f70.l22 (k : Nat) (x2 : (List Int)) (x1 : (List Int)) (x0 : ((List (Int × (Int × Int))) × ((List (Int × (Int × (Int × (Int × (Int × ByteArray)))))) × (List (Int × Int))))) : Nat → ((List Bool) × Int) → Option Int
  | 0, _ => none
  | m22 + 1, (v37, v38) => if (decide ((v38 : Int) < (List.length x2 : Int))) then (if (0 ≤ v38 ∧ v38 < (List.length x2 : Int)) then (if (0 ≤ (List.getD x2 (Int.toNat v38) (0 : Int)) ∧ (List.getD x2 (Int.toNat v38) (0 : Int)) < (List.length v37 : Int)) then ((f70.l22 k x2 x1 x0) m22 ((List.set v37 (Int.toNat (List.getD x2 (Int.toNat v38) (0 : Int))) true), (IntKind.i64.wrap (v38 + (1 : Int))))) else none) else none) else (f70.l101 k x1 x0 k (v37, (0 : Int), (0 : Int)))
def f70 (k : Nat) (x0 : ((List (Int × (Int × Int))) × ((List (Int × (Int × (Int × (Int × (Int × ByteArray)))))) × (List (Int × Int))))) (x1 : (List Int)) (x2 : (List Int)) : Option Int := if (0 ≤ (List.length x0.2.1 : Int) ∧ Int.toNat (List.length x0.2.1 : Int) * 1 ≤ 140737488355328) then (f70.l22 k x2 x1 x0 k ((List.replicate (Int.toNat (List.length x0.2.1 : Int)) false), (0 : Int))) else none
set_option maxRecDepth 100000 in
/-- 'spec.l12Common'. -/
theorem c70 (k : Nat) (x0 : ((List (Int × (Int × Int))) × ((List (Int × (Int × (Int × (Int × (Int × ByteArray)))))) × (List (Int × Int))))) (x1 : (List Int)) (x2 : (List Int)) (r : Int) (hF : f70 k x0 x1 x2 = some r) : PCall Try.prog 70 [⟨sh12, x0⟩, ⟨(.sl false 2 (.int .i64)), x1⟩, ⟨(.sl false 2 (.int .i64)), x2⟩] [⟨(.int .i64), r⟩] := by
  refine pcall_intro Try.func70 rfl rfl (Nat.le_of_ble_eq_true rfl) ?_
  intro w0 Zi a w h
  rw [f70] at hF
  refine wp_reg_seq tok (orc := orcL []) (fz := []) (l := [1, 2, 3]) (c := _) (.inr fun i h => h) h (by kernel_rfl) (AllP.nil) ?_
  intro a w h
  obtain ⟨hc159, hF⟩ := of_if hF
  refine wp_reg_seq tok (orc := orcL []) (fz := []) (l := [1, 2, 3, 7]) (c := _) (.inr fun i h => h) h (by kernel_rfl) (AllP.cons hc159 AllP.nil) ?_
  intro a w h
  refine wp_seq ?_
  refine wp_reg_seq tok (orc := orcL []) (fz := []) (l := [1, 2, 3, 7, 8]) (c := _) (.inr fun i h => h) h (by kernel_rfl) (AllP.nil) ?_
  intro a w h
  refine wp_block ?_
  refine wp_loop_fuel (f70.l22 k x2 x1 x0) (fun ((v37, v38) : ((List Bool) × Int)) => [(1, .val (.sl false 2 (.int .i64)) x1), (2, .val (.sl false 2 (.int .i64)) x2), (3, .val sh11 (some x0)), (7, .val (.sl true 4 .bool) v37), (8, .val (.int .i64) v38)]) (fun v h => by obtain ⟨v37, v38⟩ := v; rw [f70.l22] at h; cases h) ?_ hF (h.arrive (fz := []) (l := [1, 2, 3, 7, 8]) (.inr fun i h => h) (by kernel_rfl))
  intro m22 v a w hF h
  obtain ⟨v37, v38⟩ := v
  rw [f70.l22] at hF
  refine wp_seq ?_
  refine wp_reg_seq tok (orc := orcL []) (fz := []) (l := [1, 2, 3, 7, 8, 18]) (c := _) (.inr fun i h => h) h (by kernel_rfl) (AllP.nil) ?_
  intro a w h
  refine wp_if h (b := (decide ((v38 : Int) < (List.length x2 : Int)))) (by kernel_rfl) (fun hb => ?_) (fun hb => ?_)
  · replace hF := of_t hb hF
    refine wp_skip ?_
    refine wp_seq <| wp_block ?_
    obtain ⟨hc41, hF⟩ := of_if hF
    obtain ⟨hc42, hF⟩ := of_if hF
    refine wp_reg tok (orc := orcL []) (fz := []) (l := [1, 2, 3, 7, 8]) (c := _) (.inr fun i h => h) h (by kernel_rfl) (AllP.cons hc41 (AllP.cons hc42 AllP.nil)) ?_
    intro a w h
    refine wp_reg tok (orc := orcL []) (fz := []) (l := [1, 2, 3, 7, 8]) (c := _) (.inr fun i h => h) h (by kernel_rfl) (AllP.nil) ?_
    intro a w h
    exact ⟨((List.set v37 (Int.toNat (List.getD x2 (Int.toNat v38) (0 : Int))) true), (IntKind.i64.wrap (v38 + (1 : Int)))), hF, h.arrive (fz := []) (l := [1, 2, 3, 7, 8]) (.inr fun i h => h) (by kernel_rfl)⟩
  · replace hF := of_f hb hF
    refine wp_exit ?_
    refine wp_reg_seq tok (orc := orcL []) (fz := []) (l := [1, 3, 7, 9]) (c := _) (.inr fun i h => h) h (by kernel_rfl) (AllP.nil) ?_
    intro a w h
    refine wp_seq ?_
    refine wp_reg_seq tok (orc := orcL []) (fz := []) (l := [1, 3, 7, 9, 10]) (c := _) (.inr fun i h => h) h (by kernel_rfl) (AllP.nil) ?_
    intro a w h
    refine wp_block ?_
    refine wp_loop_fuel (f70.l101 k x1 x0) (fun ((v141, v142, v143) : ((List Bool) × Int × Int)) => [(1, .val (.sl false 2 (.int .i64)) x1), (3, .val sh11 (some x0)), (7, .val (.sl true 4 .bool) v141), (9, .val (.int .i64) v142), (10, .val (.int .i64) v143)]) (fun v h => by obtain ⟨v141, v142, v143⟩ := v; rw [f70.l101] at h; cases h) ?_ hF (h.arrive (fz := []) (l := [1, 3, 7, 9, 10]) (.inr fun i h => h) (by kernel_rfl))
    intro m101 v a w hF h
    obtain ⟨v141, v142, v143⟩ := v
    rw [f70.l101] at hF
    refine wp_seq ?_
    refine wp_reg_seq tok (orc := orcL []) (fz := []) (l := [1, 3, 7, 9, 10, 30]) (c := _) (.inr fun i h => h) h (by kernel_rfl) (AllP.nil) ?_
    intro a w h
    refine wp_if h (b := (decide ((v143 : Int) < (List.length x1 : Int)))) (by kernel_rfl) (fun hb => ?_) (fun hb => ?_)
    · replace hF := of_t hb hF
      refine wp_skip ?_
      refine wp_mid (fun a w => ∃ v : ((List Bool) × Int), f70.j152 k v143 ((f70.l101 k x1 x0) m101) v = some r ∧ Rel w0 (fun _ => False) Zi Try.f70.ntmps ((fun ((v150, v151) : ((List Bool) × Int)) => ([(1, .val (.sl false 2 (.int .i64)) x1), (3, .val sh11 (some x0)), (7, .val (.sl true 4 .bool) v150), (9, .val (.int .i64) v151), (10, .val (.int .i64) v143)] : SS)) v) a w) ?_ ?_
      ·
        refine wp_block ?_
        obtain ⟨hc157, hF⟩ := of_if hF
        obtain ⟨hc158, hF⟩ := of_if hF
        refine wp_reg_seq tok (orc := orcL []) (fz := []) (l := [1, 3, 7, 9, 10, 39]) (c := _) (.inr fun i h => h) h (by kernel_rfl) (AllP.cons hc157 (AllP.cons hc158 AllP.nil)) ?_
        intro a w h
        refine wp_if h (b := (List.getD v141 (Int.toNat (List.getD x1 (Int.toNat v143) (0 : Int))) false)) (by kernel_rfl) (fun hb => ?_) (fun hb => ?_)
        · replace hF := of_t hb hF
          obtain ⟨hc155, hF⟩ := of_if hF
          obtain ⟨hc156, hF⟩ := of_if hF
          refine wp_regy_seq tok (orc := orcL []) (fz := []) (l := [1, 3, 7, 9, 10]) (c := _) ([], [], [], []) 12 (.inr fun i h => h) h (by kernel_rfl) (by kernel_rfl) (AllP.cons hc155 (AllP.cons hc156 AllP.nil)) ?_
          intro a w h
          obtain ⟨hc153, hF⟩ := of_if hF
          obtain ⟨hc154, hF⟩ := of_if hF
          refine wp_reg tok (orc := orcL []) (fz := []) (l := [1, 3, 7, 9, 10]) (c := _) (.inr fun i h => h) h (by kernel_rfl) (AllP.cons hc153 (AllP.cons hc154 AllP.nil)) ?_
          intro a w h
          exact ⟨((List.set v141 (Int.toNat (List.getD x1 (Int.toNat v143) (0 : Int))) false), (IntKind.i64.wrap (v142 + (List.getD x0.2.1 (Int.toNat (List.getD x1 (Int.toNat v143) (0 : Int))) ((0 : Int), ((0 : Int), ((0 : Int), ((0 : Int), ((0 : Int), (⟨#[]⟩ : ByteArray))))))).2.2.2.1))), hF, h.arrive (fz := []) (l := [1, 3, 7, 9, 10]) (.inr fun i h => h) (by kernel_rfl)⟩
        · replace hF := of_f hb hF
          refine wp_skip ?_
          exact ⟨(v141, v142), hF, h.arrive (fz := []) (l := [1, 3, 7, 9, 10]) (.inr fun i h => h) (by kernel_rfl)⟩
      · rintro a w ⟨v, hF, h⟩
        obtain ⟨v150, v151⟩ := v
        rw [f70.j152] at hF
        refine wp_reg tok (orc := orcL []) (fz := []) (l := [1, 3, 7, 9, 10]) (c := _) (.inr fun i h => h) h (by kernel_rfl) (AllP.nil) ?_
        intro a w h
        exact ⟨(v150, v151, (IntKind.i64.wrap (v143 + (1 : Int)))), hF, h.arrive (fz := []) (l := [1, 3, 7, 9, 10]) (.inr fun i h => h) (by kernel_rfl)⟩
    · replace hF := of_f hb hF
      refine wp_exit ?_
      refine wp_reg_seq tok (orc := orcL []) (fz := []) (l := [6]) (c := _) (.inr fun i h => h) h (by kernel_rfl) (AllP.nil) ?_
      intro a w h
      cases hF
      exact wp_ret (ret_okR tok h rfl (by kernel_rfl)).1

def f22 (k : Nat) (x0 : ((List (Int × (Int × Int))) × ((List (Int × (Int × (Int × (Int × (Int × ByteArray)))))) × (List (Int × Int))))) (x1 : (List Int)) (x2 : (List Int)) : Option Int := (f57 k x0).bind fun r1 => ((if ((!r1) = false) then f58 k x0 x1 else some default).bind fun r2 => ((if ((bif (!r1) then true else (!r2)) = false) then f58 k x0 x2 else some default).bind fun r3 => (if (bif (bif (!r1) then true else (!r2)) then true else (!r3)) then (some (0 : Int)) else ((f70 k x0 x1 x2).bind fun r4 => (some r4)))))
set_option maxRecDepth 100000 in
/-- 'spec.Common'. -/
theorem c22 (k : Nat) (x0 : ((List (Int × (Int × Int))) × ((List (Int × (Int × (Int × (Int × (Int × ByteArray)))))) × (List (Int × Int))))) (x1 : (List Int)) (x2 : (List Int)) (r : Int) (hF : f22 k x0 x1 x2 = some r) : PCall Try.prog 22 [⟨sh12, x0⟩, ⟨(.sl false 2 (.int .i64)), x1⟩, ⟨(.sl false 2 (.int .i64)), x2⟩] [⟨(.int .i64), r⟩] := by
  refine pcall_intro Try.func22 rfl rfl (Nat.le_of_ble_eq_true rfl) ?_
  intro w0 Zi a w h
  rw [f22] at hF
  refine wp_reg_seq tok (orc := orcL []) (fz := []) (l := [1, 2, 3]) (c := _) (.inr fun i h => h) h (by kernel_rfl) (AllP.nil) ?_
  intro a w h
  refine wp_seq ?_
  obtain ⟨r1, hr6, hF⟩ := of_bind hF
  obtain ⟨r2, hr7, hF⟩ := of_bind hF
  obtain ⟨r3, hr8, hF⟩ := of_bind hF
  refine wp_reg_seq tok (orc := orcL [(8, [⟨.bool, r1⟩]), (13, [⟨.bool, r2⟩]), (19, [⟨.bool, r3⟩])]) (fz := []) (l := [1, 2, 3, 21]) (c := _) (.inr fun i h => h) h (by kernel_rfl) (AllP.cons (c57 k x0 r1 hr6) (AllP.cons (fun (hg : ((!r1) = false)) => c58 k x0 x1 r2 (of_g hg hr7)) (AllP.cons (fun (hg : ((bif (!r1) then true else (!r2)) = false)) => c58 k x0 x2 r3 (of_g hg hr8)) AllP.nil))) ?_
  intro a w h
  refine wp_if h (b := (bif (bif (!r1) then true else (!r2)) then true else (!r3))) (by kernel_rfl) (fun hb => ?_) (fun hb => ?_)
  · replace hF := of_t hb hF
    refine wp_reg_seq tok (orc := orcL []) (fz := []) (l := [6]) (c := _) (.inr fun i h => h) h (by kernel_rfl) (AllP.nil) ?_
    intro a w h
    cases hF
    exact wp_ret (ret_okR tok h rfl (by kernel_rfl)).1
  · replace hF := of_f hb hF
    refine wp_skip ?_
    obtain ⟨r4, hr5, hF⟩ := of_bind hF
    refine wp_reg_seq tok (orc := orcL [(25, [⟨(.int .i64), r4⟩])]) (fz := []) (l := [6]) (c := _) (.inr fun i h => h) h (by kernel_rfl) (AllP.cons (c70 k x0 x1 x2 r4 hr5) AllP.nil) ?_
    intro a w h
    cases hF
    exact wp_ret (ret_okR tok h rfl (by kernel_rfl)).1

def f108 (k : Nat) (x0 : Int) : Option Bool := some (bif (decide ((x0 : Int) ≥ (1 : Int))) then (decide ((x0 : Int) ≤ (1000000000 : Int))) else false)
set_option maxRecDepth 100000 in
/-- 'impl.idOk'. -/
theorem c108 (k : Nat) (x0 : Int) (r : Bool) (hF : f108 k x0 = some r) : PCall Try.prog 108 [⟨(.int .i64), x0⟩] [⟨.bool, r⟩] := by
  refine pcall_intro Try.func108 rfl rfl (Nat.le_of_ble_eq_true rfl) ?_
  intro w0 Zi a w h
  rw [f108] at hF
  refine wp_reg_seq tok (orc := orcL []) (fz := []) (l := [0]) (c := _) (.inr fun i h => h) h (by kernel_rfl) (AllP.nil) ?_
  intro a w h
  refine wp_reg_seq tok (orc := orcL []) (fz := []) (l := [2]) (c := _) (.inr fun i h => h) h (by kernel_rfl) (AllP.nil) ?_
  intro a w h
  cases hF
  exact wp_ret (ret_okR tok h rfl (by kernel_rfl)).1

def f109 (k : Nat) (x0 : (Int × Int)) : Option Bool := some (bif (bif (bif (decide ((x0.1 : Int) ≥ (-10000000 : Int))) then (decide ((x0.1 : Int) ≤ (10000000 : Int))) else false) then (decide ((x0.2 : Int) ≥ (-10000000 : Int))) else false) then (decide ((x0.2 : Int) ≤ (10000000 : Int))) else false)
set_option maxRecDepth 100000 in
/-- 'impl.PointOk'. -/
theorem c109 (k : Nat) (x0 : (Int × Int)) (r : Bool) (hF : f109 k x0 = some r) : PCall Try.prog 109 [⟨sh5, x0⟩] [⟨.bool, r⟩] := by
  refine pcall_intro Try.func109 rfl rfl (Nat.le_of_ble_eq_true rfl) ?_
  intro w0 Zi a w h
  rw [f109] at hF
  refine wp_reg_seq tok (orc := orcL []) (fz := []) (l := [1]) (c := _) (.inr fun i h => h) h (by kernel_rfl) (AllP.nil) ?_
  intro a w h
  refine wp_reg_seq tok (orc := orcL []) (fz := []) (l := [2]) (c := _) (.inr fun i h => h) h (by kernel_rfl) (AllP.nil) ?_
  intro a w h
  cases hF
  exact wp_ret (ret_okR tok h rfl (by kernel_rfl)).1

def f63.j256 (k : Nat) (v247 : Int) (q209 : Int → Option Bool) : Unit → Option Bool
  | _ => q209 (IntKind.i64.wrap (v247 + (1 : Int)))
def f63.l209 (k : Nat) (x0 : ((List (Int × (Int × Int))) × ((List (Int × (Int × (Int × (Int × (Int × ByteArray)))))) × (List (Int × Int))))) : Nat → Int → Option Bool
  | 0, _ => none
  | m209 + 1, v247 => if (decide ((v247 : Int) < (List.length x0.2.2 : Int))) then (if (0 ≤ v247 ∧ v247 < (List.length x0.2.2 : Int)) then (if (((bif (bif (bif (decide (((List.getD x0.2.2 (Int.toNat v247) ((0 : Int), (0 : Int))).1 : Int) < (0 : Int))) then true else (decide (((List.getD x0.2.2 (Int.toNat v247) ((0 : Int), (0 : Int))).1 : Int) ≥ (List.length x0.2.1 : Int)))) then true else (decide (((List.getD x0.2.2 (Int.toNat v247) ((0 : Int), (0 : Int))).2 : Int) < (0 : Int)))) then true else (decide (((List.getD x0.2.2 (Int.toNat v247) ((0 : Int), (0 : Int))).2 : Int) ≥ (List.length x0.2.1 : Int)))) = false) → (0 ≤ (List.getD x0.2.2 (Int.toNat v247) ((0 : Int), (0 : Int))).1 ∧ (List.getD x0.2.2 (Int.toNat v247) ((0 : Int), (0 : Int))).1 < (List.length x0.2.1 : Int))) then (if (((bif (bif (bif (decide (((List.getD x0.2.2 (Int.toNat v247) ((0 : Int), (0 : Int))).1 : Int) < (0 : Int))) then true else (decide (((List.getD x0.2.2 (Int.toNat v247) ((0 : Int), (0 : Int))).1 : Int) ≥ (List.length x0.2.1 : Int)))) then true else (decide (((List.getD x0.2.2 (Int.toNat v247) ((0 : Int), (0 : Int))).2 : Int) < (0 : Int)))) then true else (decide (((List.getD x0.2.2 (Int.toNat v247) ((0 : Int), (0 : Int))).2 : Int) ≥ (List.length x0.2.1 : Int)))) = false) → (0 ≤ (List.getD x0.2.2 (Int.toNat v247) ((0 : Int), (0 : Int))).2 ∧ (List.getD x0.2.2 (Int.toNat v247) ((0 : Int), (0 : Int))).2 < (List.length x0.2.1 : Int))) then ((some ((bif (bif (bif (bif (decide (((List.getD x0.2.2 (Int.toNat v247) ((0 : Int), (0 : Int))).1 : Int) < (0 : Int))) then true else (decide (((List.getD x0.2.2 (Int.toNat v247) ((0 : Int), (0 : Int))).1 : Int) ≥ (List.length x0.2.1 : Int)))) then true else (decide (((List.getD x0.2.2 (Int.toNat v247) ((0 : Int), (0 : Int))).2 : Int) < (0 : Int)))) then true else (decide (((List.getD x0.2.2 (Int.toNat v247) ((0 : Int), (0 : Int))).2 : Int) ≥ (List.length x0.2.1 : Int)))) then true else (((List.getD x0.2.1 (Int.toNat (List.getD x0.2.2 (Int.toNat v247) ((0 : Int), (0 : Int))).1) ((0 : Int), ((0 : Int), ((0 : Int), ((0 : Int), ((0 : Int), (⟨#[]⟩ : ByteArray))))))).2.1 : Int) != (List.getD x0.2.1 (Int.toNat (List.getD x0.2.2 (Int.toNat v247) ((0 : Int), (0 : Int))).2) ((0 : Int), ((0 : Int), ((0 : Int), ((0 : Int), ((0 : Int), (⟨#[]⟩ : ByteArray))))))).1)) : Bool)).bind fun v257 => (if v257 then (some false) else (if (decide ((v247 : Int) > (0 : Int))) then (if (0 ≤ (IntKind.i64.wrap (v247 - (1 : Int))) ∧ (IntKind.i64.wrap (v247 - (1 : Int))) < (List.length x0.2.2 : Int)) then ((some ((bif (decide (((List.getD x0.2.2 (Int.toNat (IntKind.i64.wrap (v247 - (1 : Int)))) ((0 : Int), (0 : Int))).1 : Int) > (List.getD x0.2.2 (Int.toNat v247) ((0 : Int), (0 : Int))).1)) then true else (bif (((List.getD x0.2.2 (Int.toNat (IntKind.i64.wrap (v247 - (1 : Int)))) ((0 : Int), (0 : Int))).1 : Int) == (List.getD x0.2.2 (Int.toNat v247) ((0 : Int), (0 : Int))).1) then (decide (((List.getD x0.2.2 (Int.toNat (IntKind.i64.wrap (v247 - (1 : Int)))) ((0 : Int), (0 : Int))).2 : Int) ≥ (List.getD x0.2.2 (Int.toNat v247) ((0 : Int), (0 : Int))).2)) else false)) : Bool)).bind fun v258 => (if v258 then (some false) else (f63.j256 k v247 ((f63.l209 k x0) m209) ()))) else none) else (f63.j256 k v247 ((f63.l209 k x0) m209) ())))) else none) else none) else none) else (some true)
def f63.l118 (k : Nat) (x0 : ((List (Int × (Int × Int))) × ((List (Int × (Int × (Int × (Int × (Int × ByteArray)))))) × (List (Int × Int))))) : Nat → Int → Option Bool
  | 0, _ => none
  | m118 + 1, v142 => if (decide ((v142 : Int) < (List.length x0.2.1 : Int))) then (if (0 ≤ v142 ∧ v142 < (List.length x0.2.1 : Int)) then ((if ((bif (bif (bif (decide (((List.getD x0.2.1 (Int.toNat v142) ((0 : Int), ((0 : Int), ((0 : Int), ((0 : Int), ((0 : Int), (⟨#[]⟩ : ByteArray))))))).1 : Int) < (0 : Int))) then true else (decide (((List.getD x0.2.1 (Int.toNat v142) ((0 : Int), ((0 : Int), ((0 : Int), ((0 : Int), ((0 : Int), (⟨#[]⟩ : ByteArray))))))).1 : Int) ≥ (List.length x0.1 : Int)))) then true else (decide (((List.getD x0.2.1 (Int.toNat v142) ((0 : Int), ((0 : Int), ((0 : Int), ((0 : Int), ((0 : Int), (⟨#[]⟩ : ByteArray))))))).2.1 : Int) < (0 : Int)))) then true else (decide (((List.getD x0.2.1 (Int.toNat v142) ((0 : Int), ((0 : Int), ((0 : Int), ((0 : Int), ((0 : Int), (⟨#[]⟩ : ByteArray))))))).2.1 : Int) ≥ (List.length x0.1 : Int)))) = false) then f108 k (List.getD x0.2.1 (Int.toNat v142) ((0 : Int), ((0 : Int), ((0 : Int), ((0 : Int), ((0 : Int), (⟨#[]⟩ : ByteArray))))))).2.2.1 else some default).bind fun r148 => ((some ((bif (bif (bif (bif (bif (bif (bif (bif (decide (((List.getD x0.2.1 (Int.toNat v142) ((0 : Int), ((0 : Int), ((0 : Int), ((0 : Int), ((0 : Int), (⟨#[]⟩ : ByteArray))))))).1 : Int) < (0 : Int))) then true else (decide (((List.getD x0.2.1 (Int.toNat v142) ((0 : Int), ((0 : Int), ((0 : Int), ((0 : Int), ((0 : Int), (⟨#[]⟩ : ByteArray))))))).1 : Int) ≥ (List.length x0.1 : Int)))) then true else (decide (((List.getD x0.2.1 (Int.toNat v142) ((0 : Int), ((0 : Int), ((0 : Int), ((0 : Int), ((0 : Int), (⟨#[]⟩ : ByteArray))))))).2.1 : Int) < (0 : Int)))) then true else (decide (((List.getD x0.2.1 (Int.toNat v142) ((0 : Int), ((0 : Int), ((0 : Int), ((0 : Int), ((0 : Int), (⟨#[]⟩ : ByteArray))))))).2.1 : Int) ≥ (List.length x0.1 : Int)))) then true else (!r148)) then true else (decide (((List.getD x0.2.1 (Int.toNat v142) ((0 : Int), ((0 : Int), ((0 : Int), ((0 : Int), ((0 : Int), (⟨#[]⟩ : ByteArray))))))).2.2.2.1 : Int) < (1 : Int)))) then true else (decide (((List.getD x0.2.1 (Int.toNat v142) ((0 : Int), ((0 : Int), ((0 : Int), ((0 : Int), ((0 : Int), (⟨#[]⟩ : ByteArray))))))).2.2.2.1 : Int) > (1000000 : Int)))) then true else (decide (((List.getD x0.2.1 (Int.toNat v142) ((0 : Int), ((0 : Int), ((0 : Int), ((0 : Int), ((0 : Int), (⟨#[]⟩ : ByteArray))))))).2.2.2.2.1 : Int) < (0 : Int)))) then true else (decide (((List.getD x0.2.1 (Int.toNat v142) ((0 : Int), ((0 : Int), ((0 : Int), ((0 : Int), ((0 : Int), (⟨#[]⟩ : ByteArray))))))).2.2.2.2.1 : Int) > (1000000000 : Int)))) : Bool)).bind fun v149 => (if v149 then (some false) else ((f63.l118 k x0) m118 (IntKind.i64.wrap (v142 + (1 : Int))))))) else none) else (f63.l209 k x0 k (0 : Int))
def f63.l42 (k : Nat) (x0 : ((List (Int × (Int × Int))) × ((List (Int × (Int × (Int × (Int × (Int × ByteArray)))))) × (List (Int × Int))))) : Nat → Int → Option Bool
  | 0, _ => none
  | m42 + 1, v70 => if (decide ((v70 : Int) < (List.length x0.1 : Int))) then (if (0 ≤ v70 ∧ v70 < (List.length x0.1 : Int)) then ((f108 k (List.getD x0.1 (Int.toNat v70) ((0 : Int), ((0 : Int), (0 : Int)))).1).bind fun r77 => ((if ((!r77) = false) then f109 k (List.getD x0.1 (Int.toNat v70) ((0 : Int), ((0 : Int), (0 : Int)))).2 else some default).bind fun r78 => (if ((((bif (!r77) then true else (!r78)) = false) ∧ ((decide ((v70 : Int) > (0 : Int))) = true)) → (0 ≤ (IntKind.i64.wrap (v70 - (1 : Int))) ∧ (IntKind.i64.wrap (v70 - (1 : Int))) < (List.length x0.1 : Int))) then (if (bif (bif (!r77) then true else (!r78)) then true else (bif (decide ((v70 : Int) > (0 : Int))) then (decide (((List.getD x0.1 (Int.toNat (IntKind.i64.wrap (v70 - (1 : Int)))) ((0 : Int), ((0 : Int), (0 : Int)))).1 : Int) ≥ (List.getD x0.1 (Int.toNat v70) ((0 : Int), ((0 : Int), (0 : Int)))).1)) else false)) then (some false) else ((f63.l42 k x0) m42 (IntKind.i64.wrap (v70 + (1 : Int))))) else none))) else none) else (f63.l118 k x0 k (0 : Int))
def f63 (k : Nat) (x0 : ((List (Int × (Int × Int))) × ((List (Int × (Int × (Int × (Int × (Int × ByteArray)))))) × (List (Int × Int))))) : Option Bool := if (bif (bif (decide (((List.length x0.1 : Int) : Int) > (5000 : Int))) then true else (decide (((List.length x0.2.1 : Int) : Int) > (8000 : Int)))) then true else (decide (((List.length x0.2.2 : Int) : Int) > (2000 : Int)))) then (some false) else (f63.l42 k x0 k (0 : Int))
set_option maxRecDepth 100000 in
/-- 'impl.GraphOk'. -/
theorem c63 (k : Nat) (x0 : ((List (Int × (Int × Int))) × ((List (Int × (Int × (Int × (Int × (Int × ByteArray)))))) × (List (Int × Int))))) (r : Bool) (hF : f63 k x0 = some r) : PCall Try.prog 63 [⟨sh12, x0⟩] [⟨.bool, r⟩] := by
  refine pcall_intro Try.func63 rfl rfl (Nat.le_of_ble_eq_true rfl) ?_
  intro w0 Zi a w h
  rw [f63] at hF
  refine wp_reg_seq tok (orc := orcL []) (fz := []) (l := [1]) (c := _) (.inr fun i h => h) h (by kernel_rfl) (AllP.nil) ?_
  intro a w h
  refine wp_seq ?_
  refine wp_reg_seq tok (orc := orcL []) (fz := []) (l := [1, 27]) (c := _) (.inr fun i h => h) h (by kernel_rfl) (AllP.nil) ?_
  intro a w h
  refine wp_if h (b := (bif (bif (decide (((List.length x0.1 : Int) : Int) > (5000 : Int))) then true else (decide (((List.length x0.2.1 : Int) : Int) > (8000 : Int)))) then true else (decide (((List.length x0.2.2 : Int) : Int) > (2000 : Int))))) (by kernel_rfl) (fun hb => ?_) (fun hb => ?_)
  · replace hF := of_t hb hF
    refine wp_reg_seq tok (orc := orcL []) (fz := []) (l := [2]) (c := _) (.inr fun i h => h) h (by kernel_rfl) (AllP.nil) ?_
    intro a w h
    cases hF
    exact wp_ret (ret_okR tok h rfl (by kernel_rfl)).1
  · replace hF := of_f hb hF
    refine wp_skip ?_
    refine wp_seq ?_
    refine wp_reg_seq tok (orc := orcL []) (fz := []) (l := [1, 29, 30, 31]) (c := _) (.inr fun i h => h) h (by kernel_rfl) (AllP.nil) ?_
    intro a w h
    refine wp_block ?_
    refine wp_loop_fuel (f63.l42 k x0) (fun (v70 : Int) => [(1, .val sh11 (some x0)), (29, .val sh13 x0.1), (30, .val (.int .i64) (List.length x0.1 : Int)), (31, .val (.int .i64) v70)]) (fun v h => by rw [f63.l42] at h; cases h) ?_ hF (h.arrive (fz := []) (l := [1, 29, 30, 31]) (.inr fun i h => h) (by kernel_rfl))
    intro m42 v70 a w hF h
    rw [f63.l42] at hF
    refine wp_reg_seq tok (orc := orcL []) (fz := []) (l := [1, 29, 30, 31, 32]) (c := _) (.inr fun i h => h) h (by kernel_rfl) (AllP.nil) ?_
    intro a w h
    refine wp_seq <| wp_if h (b := (decide ((v70 : Int) < (List.length x0.1 : Int)))) (by kernel_rfl) (fun hb => ?_) (fun hb => ?_)
    · replace hF := of_t hb hF
      refine wp_skip ?_
      refine wp_seq <| wp_block ?_
      obtain ⟨hc82, hF⟩ := of_if hF
      refine wp_reg_seq tok (orc := orcL []) (fz := []) (l := [1, 3, 4, 29, 30, 31]) (c := _) (.inr fun i h => h) h (by kernel_rfl) (AllP.cons hc82 AllP.nil) ?_
      intro a w h
      obtain ⟨r77, hr79, hF⟩ := of_bind hF
      obtain ⟨r78, hr80, hF⟩ := of_bind hF
      obtain ⟨hc81, hF⟩ := of_if hF
      refine wp_regy_seq tok (orc := orcL [(38, [⟨.bool, r77⟩]), (43, [⟨.bool, r78⟩])]) (fz := []) (l := [1, 29, 30, 31, 61]) (c := _) ([], [], [], []) 26 (.inr fun i h => h) h (by kernel_rfl) (by kernel_rfl) (AllP.cons (c108 k (List.getD x0.1 (Int.toNat v70) ((0 : Int), ((0 : Int), (0 : Int)))).1 r77 hr79) (AllP.cons (fun (hg : ((!r77) = false)) => c109 k (List.getD x0.1 (Int.toNat v70) ((0 : Int), ((0 : Int), (0 : Int)))).2 r78 (of_g hg hr80)) (AllP.cons hc81 AllP.nil))) ?_
      intro a w h
      refine wp_if h (b := (bif (bif (!r77) then true else (!r78)) then true else (bif (decide ((v70 : Int) > (0 : Int))) then (decide (((List.getD x0.1 (Int.toNat (IntKind.i64.wrap (v70 - (1 : Int)))) ((0 : Int), ((0 : Int), (0 : Int)))).1 : Int) ≥ (List.getD x0.1 (Int.toNat v70) ((0 : Int), ((0 : Int), (0 : Int)))).1)) else false))) (by kernel_rfl) (fun hb => ?_) (fun hb => ?_)
      · replace hF := of_t hb hF
        refine wp_reg_seq tok (orc := orcL []) (fz := []) (l := [2]) (c := _) (.inr fun i h => h) h (by kernel_rfl) (AllP.nil) ?_
        intro a w h
        cases hF
        exact wp_ret (ret_okR tok h rfl (by kernel_rfl)).1
      · replace hF := of_f hb hF
        refine wp_skip ?_
        refine wp_reg tok (orc := orcL []) (fz := []) (l := [1, 29, 30, 31]) (c := _) (.inr fun i h => h) h (by kernel_rfl) (AllP.nil) ?_
        intro a w h
        exact ⟨(IntKind.i64.wrap (v70 + (1 : Int))), hF, h.arrive (fz := []) (l := [1, 29, 30, 31]) (.inr fun i h => h) (by kernel_rfl)⟩
    · replace hF := of_f hb hF
      refine wp_exit ?_
      refine wp_reg_seq tok (orc := orcL []) (fz := []) (l := [1, 5]) (c := _) (.inr fun i h => h) h (by kernel_rfl) (AllP.nil) ?_
      intro a w h
      refine wp_seq ?_
      refine wp_reg_seq tok (orc := orcL []) (fz := []) (l := [1, 5, 67, 68, 69]) (c := _) (.inr fun i h => h) h (by kernel_rfl) (AllP.nil) ?_
      intro a w h
      refine wp_block ?_
      refine wp_loop_fuel (f63.l118 k x0) (fun (v142 : Int) => [(1, .val sh11 (some x0)), (5, .val (.int .i64) (List.length x0.1 : Int)), (67, .val sh14 x0.2.1), (68, .val (.int .i64) (List.length x0.2.1 : Int)), (69, .val (.int .i64) v142)]) (fun v h => by rw [f63.l118] at h; cases h) ?_ hF (h.arrive (fz := []) (l := [1, 5, 67, 68, 69]) (.inr fun i h => h) (by kernel_rfl))
      intro m118 v142 a w hF h
      rw [f63.l118] at hF
      refine wp_reg_seq tok (orc := orcL []) (fz := []) (l := [1, 5, 67, 68, 69, 70]) (c := _) (.inr fun i h => h) h (by kernel_rfl) (AllP.nil) ?_
      intro a w h
      refine wp_seq <| wp_if h (b := (decide ((v142 : Int) < (List.length x0.2.1 : Int)))) (by kernel_rfl) (fun hb => ?_) (fun hb => ?_)
      · replace hF := of_t hb hF
        refine wp_skip ?_
        refine wp_seq <| wp_block ?_
        obtain ⟨hc152, hF⟩ := of_if hF
        refine wp_reg_seq tok (orc := orcL []) (fz := []) (l := [1, 5, 7, 67, 68, 69]) (c := _) (.inr fun i h => h) h (by kernel_rfl) (AllP.cons hc152 AllP.nil) ?_
        intro a w h
        obtain ⟨r148, hr151, hF⟩ := of_bind hF
        refine wp_reg_seq tok (orc := orcL [(96, [⟨.bool, r148⟩])]) (fz := []) (l := [1, 5, 67, 68, 69, 118]) (c := _) (.inr fun i h => h) h (by kernel_rfl) (AllP.cons (fun (hg : ((bif (bif (bif (decide (((List.getD x0.2.1 (Int.toNat v142) ((0 : Int), ((0 : Int), ((0 : Int), ((0 : Int), ((0 : Int), (⟨#[]⟩ : ByteArray))))))).1 : Int) < (0 : Int))) then true else (decide (((List.getD x0.2.1 (Int.toNat v142) ((0 : Int), ((0 : Int), ((0 : Int), ((0 : Int), ((0 : Int), (⟨#[]⟩ : ByteArray))))))).1 : Int) ≥ (List.length x0.1 : Int)))) then true else (decide (((List.getD x0.2.1 (Int.toNat v142) ((0 : Int), ((0 : Int), ((0 : Int), ((0 : Int), ((0 : Int), (⟨#[]⟩ : ByteArray))))))).2.1 : Int) < (0 : Int)))) then true else (decide (((List.getD x0.2.1 (Int.toNat v142) ((0 : Int), ((0 : Int), ((0 : Int), ((0 : Int), ((0 : Int), (⟨#[]⟩ : ByteArray))))))).2.1 : Int) ≥ (List.length x0.1 : Int)))) = false)) => c108 k (List.getD x0.2.1 (Int.toNat v142) ((0 : Int), ((0 : Int), ((0 : Int), ((0 : Int), ((0 : Int), (⟨#[]⟩ : ByteArray))))))).2.2.1 r148 (of_g hg hr151)) AllP.nil) ?_
        intro a w h
        obtain ⟨v149, hv150, hF⟩ := of_bind hF
        replace h := h.cast (S' := [(1, .val sh11 (some x0)), (5, .val (.int .i64) (List.length x0.1 : Int)), (67, .val sh14 x0.2.1), (68, .val (.int .i64) (List.length x0.2.1 : Int)), (69, .val (.int .i64) v142), (118, .val .bool v149)]) (by cases hv150; kernel_rfl)
        refine wp_if h (b := v149) (by kernel_rfl) (fun hb => ?_) (fun hb => ?_)
        · replace hF := of_t hb hF
          refine wp_reg_seq tok (orc := orcL []) (fz := []) (l := [2]) (c := _) (.inr fun i h => h) h (by kernel_rfl) (AllP.nil) ?_
          intro a w h
          cases hF
          exact wp_ret (ret_okR tok h rfl (by kernel_rfl)).1
        · replace hF := of_f hb hF
          refine wp_skip ?_
          refine wp_reg tok (orc := orcL []) (fz := []) (l := [1, 5, 67, 68, 69]) (c := _) (.inr fun i h => h) h (by kernel_rfl) (AllP.nil) ?_
          intro a w h
          exact ⟨(IntKind.i64.wrap (v142 + (1 : Int))), hF, h.arrive (fz := []) (l := [1, 5, 67, 68, 69]) (.inr fun i h => h) (by kernel_rfl)⟩
      · replace hF := of_f hb hF
        refine wp_exit ?_
        refine wp_reg_seq tok (orc := orcL []) (fz := []) (l := [1, 8]) (c := _) (.inr fun i h => h) h (by kernel_rfl) (AllP.nil) ?_
        intro a w h
        refine wp_seq ?_
        refine wp_reg_seq tok (orc := orcL []) (fz := []) (l := [1, 8, 124, 125, 126]) (c := _) (.inr fun i h => h) h (by kernel_rfl) (AllP.nil) ?_
        intro a w h
        refine wp_block ?_
        refine wp_loop_fuel (f63.l209 k x0) (fun (v247 : Int) => [(1, .val sh11 (some x0)), (8, .val (.int .i64) (List.length x0.2.1 : Int)), (124, .val sh15 x0.2.2), (125, .val (.int .i64) (List.length x0.2.2 : Int)), (126, .val (.int .i64) v247)]) (fun v h => by rw [f63.l209] at h; cases h) ?_ hF (h.arrive (fz := []) (l := [1, 8, 124, 125, 126]) (.inr fun i h => h) (by kernel_rfl))
        intro m209 v247 a w hF h
        rw [f63.l209] at hF
        refine wp_reg_seq tok (orc := orcL []) (fz := []) (l := [1, 8, 124, 125, 126, 127]) (c := _) (.inr fun i h => h) h (by kernel_rfl) (AllP.nil) ?_
        intro a w h
        refine wp_seq <| wp_if h (b := (decide ((v247 : Int) < (List.length x0.2.2 : Int)))) (by kernel_rfl) (fun hb => ?_) (fun hb => ?_)
        · replace hF := of_t hb hF
          refine wp_skip ?_
          refine wp_mid (fun a w => ∃ v : Unit, f63.j256 k v247 ((f63.l209 k x0) m209) v = some r ∧ Rel w0 (fun _ => False) Zi Try.f63.ntmps ((fun (_ : Unit) => ([(1, .val sh11 (some x0)), (8, .val (.int .i64) (List.length x0.2.1 : Int)), (124, .val sh15 x0.2.2), (125, .val (.int .i64) (List.length x0.2.2 : Int)), (126, .val (.int .i64) v247)] : SS)) v) a w) ?_ ?_
          ·
            refine wp_block ?_
            obtain ⟨hc264, hF⟩ := of_if hF
            refine wp_reg_seq tok (orc := orcL []) (fz := []) (l := [1, 8, 9, 10, 124, 125, 126]) (c := _) (.inr fun i h => h) h (by kernel_rfl) (AllP.cons hc264 AllP.nil) ?_
            intro a w h
            refine wp_seq ?_
            obtain ⟨hc262, hF⟩ := of_if hF
            obtain ⟨hc263, hF⟩ := of_if hF
            refine wp_regy_seq tok (orc := orcL []) (fz := []) (l := [1, 8, 9, 10, 124, 125, 126, 167]) (c := _) ([], [], [], []) 37 (.inr fun i h => h) h (by kernel_rfl) (by kernel_rfl) (AllP.cons hc262 (AllP.cons hc263 AllP.nil)) ?_
            intro a w h
            obtain ⟨v257, hv261, hF⟩ := of_bind hF
            replace h := h.cast (S' := [(1, .val sh11 (some x0)), (8, .val (.int .i64) (List.length x0.2.1 : Int)), (9, .val (.int .i64) v247), (10, .val sh16 (some (List.getD x0.2.2 (Int.toNat v247) ((0 : Int), (0 : Int))))), (124, .val sh15 x0.2.2), (125, .val (.int .i64) (List.length x0.2.2 : Int)), (126, .val (.int .i64) v247), (167, .val .bool v257)]) (by cases hv261; kernel_rfl)
            refine wp_if h (b := v257) (by kernel_rfl) (fun hb => ?_) (fun hb => ?_)
            · replace hF := of_t hb hF
              refine wp_reg_seq tok (orc := orcL []) (fz := []) (l := [2]) (c := _) (.inr fun i h => h) h (by kernel_rfl) (AllP.nil) ?_
              intro a w h
              cases hF
              exact wp_ret (ret_okR tok h rfl (by kernel_rfl)).1
            · replace hF := of_f hb hF
              refine wp_skip ?_
              refine wp_reg_seq tok (orc := orcL []) (fz := []) (l := [1, 8, 9, 10, 124, 125, 126, 169]) (c := _) (.inr fun i h => h) h (by kernel_rfl) (AllP.nil) ?_
              intro a w h
              refine wp_if h (b := (decide ((v247 : Int) > (0 : Int)))) (by kernel_rfl) (fun hb => ?_) (fun hb => ?_)
              · replace hF := of_t hb hF
                obtain ⟨hc260, hF⟩ := of_if hF
                refine wp_reg_seq tok (orc := orcL []) (fz := []) (l := [1, 8, 10, 11, 124, 125, 126]) (c := _) (.inr fun i h => h) h (by kernel_rfl) (AllP.cons hc260 AllP.nil) ?_
                intro a w h
                refine wp_reg_seq tok (orc := orcL []) (fz := []) (l := [1, 8, 124, 125, 126, 194]) (c := _) (.inr fun i h => h) h (by kernel_rfl) (AllP.nil) ?_
                intro a w h
                obtain ⟨v258, hv259, hF⟩ := of_bind hF
                replace h := h.cast (S' := [(1, .val sh11 (some x0)), (8, .val (.int .i64) (List.length x0.2.1 : Int)), (124, .val sh15 x0.2.2), (125, .val (.int .i64) (List.length x0.2.2 : Int)), (126, .val (.int .i64) v247), (194, .val .bool v258)]) (by cases hv259; kernel_rfl)
                refine wp_if h (b := v258) (by kernel_rfl) (fun hb => ?_) (fun hb => ?_)
                · replace hF := of_t hb hF
                  refine wp_reg_seq tok (orc := orcL []) (fz := []) (l := [2]) (c := _) (.inr fun i h => h) h (by kernel_rfl) (AllP.nil) ?_
                  intro a w h
                  cases hF
                  exact wp_ret (ret_okR tok h rfl (by kernel_rfl)).1
                · replace hF := of_f hb hF
                  refine wp_skip ?_
                  exact ⟨(), hF, h.arrive (fz := []) (l := [1, 8, 124, 125, 126]) (.inr fun i h => h) (by kernel_rfl)⟩
              · replace hF := of_f hb hF
                refine wp_skip ?_
                exact ⟨(), hF, h.arrive (fz := []) (l := [1, 8, 124, 125, 126]) (.inr fun i h => h) (by kernel_rfl)⟩
          · rintro a w ⟨v, hF, h⟩
            obtain ⟨⟩ := v
            rw [f63.j256] at hF
            refine wp_reg tok (orc := orcL []) (fz := []) (l := [1, 8, 124, 125, 126]) (c := _) (.inr fun i h => h) h (by kernel_rfl) (AllP.nil) ?_
            intro a w h
            exact ⟨(IntKind.i64.wrap (v247 + (1 : Int))), hF, h.arrive (fz := []) (l := [1, 8, 124, 125, 126]) (.inr fun i h => h) (by kernel_rfl)⟩
        · replace hF := of_f hb hF
          refine wp_exit ?_
          refine wp_reg_seq tok (orc := orcL []) (fz := []) (l := [2]) (c := _) (.inr fun i h => h) h (by kernel_rfl) (AllP.nil) ?_
          intro a w h
          cases hF
          exact wp_ret (ret_okR tok h rfl (by kernel_rfl)).1

def f64.l126 (k : Nat) (x0 : ((List (Int × (Int × Int))) × ((List (Int × (Int × (Int × (Int × (Int × ByteArray)))))) × (List (Int × Int))))) (v94 : (List (List Int))) (v95 : (List (List Int))) : Nat → ((List ((Int × Int) × Bool)) × Int) → Option (((List (Int × (Int × Int))) × ((List (Int × (Int × (Int × (Int × (Int × ByteArray)))))) × (List (Int × Int)))) × ((List (List Int)) × ((List (List Int)) × (Option (List ((Int × Int) × Bool))))))
  | 0, _ => none
  | m126 + 1, (v137, v138) => if (decide ((v138 : Int) < (List.length x0.2.2 : Int))) then (if (0 ≤ v138 ∧ v138 < (List.length x0.2.2 : Int)) then ((f64.l126 k x0 v94 v95) m126 ((mput (Sh.beq sh5) (List.getD x0.2.2 (Int.toNat v138) ((0 : Int), (0 : Int))) true v137), (IntKind.i64.wrap (v138 + (1 : Int))))) else none) else (some (x0, (v94, (v95, (some v137)))))
def f64.l56 (k : Nat) (x0 : ((List (Int × (Int × Int))) × ((List (Int × (Int × (Int × (Int × (Int × ByteArray)))))) × (List (Int × Int))))) : Nat → ((List (List Int)) × (List (List Int)) × Int) → Option (((List (Int × (Int × Int))) × ((List (Int × (Int × (Int × (Int × (Int × ByteArray)))))) × (List (Int × Int)))) × ((List (List Int)) × ((List (List Int)) × (Option (List ((Int × Int) × Bool))))))
  | 0, _ => none
  | m56 + 1, (v94, v95, v96) => if (decide ((v96 : Int) < (List.length x0.2.1 : Int))) then (if (0 ≤ v96 ∧ v96 < (List.length x0.2.1 : Int)) then (if (0 ≤ (List.getD x0.2.1 (Int.toNat v96) ((0 : Int), ((0 : Int), ((0 : Int), ((0 : Int), ((0 : Int), (⟨#[]⟩ : ByteArray))))))).1 ∧ (List.getD x0.2.1 (Int.toNat v96) ((0 : Int), ((0 : Int), ((0 : Int), ((0 : Int), ((0 : Int), (⟨#[]⟩ : ByteArray))))))).1 < (List.length v94 : Int)) then (if ((List.length (List.getD v94 (Int.toNat (List.getD x0.2.1 (Int.toNat v96) ((0 : Int), ((0 : Int), ((0 : Int), ((0 : Int), ((0 : Int), (⟨#[]⟩ : ByteArray))))))).1) ([] : (List Int))) + List.length [v96]) * 8 ≤ 140737488355328) then (if (0 ≤ (List.getD x0.2.1 (Int.toNat v96) ((0 : Int), ((0 : Int), ((0 : Int), ((0 : Int), ((0 : Int), (⟨#[]⟩ : ByteArray))))))).1 ∧ (List.getD x0.2.1 (Int.toNat v96) ((0 : Int), ((0 : Int), ((0 : Int), ((0 : Int), ((0 : Int), (⟨#[]⟩ : ByteArray))))))).1 < (List.length v94 : Int)) then (if (0 ≤ (List.getD x0.2.1 (Int.toNat v96) ((0 : Int), ((0 : Int), ((0 : Int), ((0 : Int), ((0 : Int), (⟨#[]⟩ : ByteArray))))))).2.1 ∧ (List.getD x0.2.1 (Int.toNat v96) ((0 : Int), ((0 : Int), ((0 : Int), ((0 : Int), ((0 : Int), (⟨#[]⟩ : ByteArray))))))).2.1 < (List.length v95 : Int)) then (if ((List.length (List.getD v95 (Int.toNat (List.getD x0.2.1 (Int.toNat v96) ((0 : Int), ((0 : Int), ((0 : Int), ((0 : Int), ((0 : Int), (⟨#[]⟩ : ByteArray))))))).2.1) ([] : (List Int))) + List.length [v96]) * 8 ≤ 140737488355328) then (if (0 ≤ (List.getD x0.2.1 (Int.toNat v96) ((0 : Int), ((0 : Int), ((0 : Int), ((0 : Int), ((0 : Int), (⟨#[]⟩ : ByteArray))))))).2.1 ∧ (List.getD x0.2.1 (Int.toNat v96) ((0 : Int), ((0 : Int), ((0 : Int), ((0 : Int), ((0 : Int), (⟨#[]⟩ : ByteArray))))))).2.1 < (List.length v95 : Int)) then ((f64.l56 k x0) m56 ((List.set v94 (Int.toNat (List.getD x0.2.1 (Int.toNat v96) ((0 : Int), ((0 : Int), ((0 : Int), ((0 : Int), ((0 : Int), (⟨#[]⟩ : ByteArray))))))).1) (List.append (List.getD v94 (Int.toNat (List.getD x0.2.1 (Int.toNat v96) ((0 : Int), ((0 : Int), ((0 : Int), ((0 : Int), ((0 : Int), (⟨#[]⟩ : ByteArray))))))).1) ([] : (List Int))) [v96])), (List.set v95 (Int.toNat (List.getD x0.2.1 (Int.toNat v96) ((0 : Int), ((0 : Int), ((0 : Int), ((0 : Int), ((0 : Int), (⟨#[]⟩ : ByteArray))))))).2.1) (List.append (List.getD v95 (Int.toNat (List.getD x0.2.1 (Int.toNat v96) ((0 : Int), ((0 : Int), ((0 : Int), ((0 : Int), ((0 : Int), (⟨#[]⟩ : ByteArray))))))).2.1) ([] : (List Int))) [v96])), (IntKind.i64.wrap (v96 + (1 : Int))))) else none) else none) else none) else none) else none) else none) else none) else (f64.l126 k x0 v94 v95 k (([] : (List ((Int × Int) × Bool))), (0 : Int)))
def f64 (k : Nat) (x0 : ((List (Int × (Int × Int))) × ((List (Int × (Int × (Int × (Int × (Int × ByteArray)))))) × (List (Int × Int))))) : Option (((List (Int × (Int × Int))) × ((List (Int × (Int × (Int × (Int × (Int × ByteArray)))))) × (List (Int × Int)))) × ((List (List Int)) × ((List (List Int)) × (Option (List ((Int × Int) × Bool)))))) := if (0 ≤ (List.length x0.1 : Int) ∧ Int.toNat (List.length x0.1 : Int) * 24 ≤ 140737488355328) then (if (0 ≤ (List.length x0.1 : Int) ∧ Int.toNat (List.length x0.1 : Int) * 24 ≤ 140737488355328) then (f64.l56 k x0 k ((List.replicate (Int.toNat (List.length x0.1 : Int)) ([] : (List Int))), (List.replicate (Int.toNat (List.length x0.1 : Int)) ([] : (List Int))), (0 : Int))) else none) else none
set_option maxRecDepth 100000 in
/-- 'impl.myNetOf'. -/
theorem c64 (k : Nat) (x0 : ((List (Int × (Int × Int))) × ((List (Int × (Int × (Int × (Int × (Int × ByteArray)))))) × (List (Int × Int))))) (r : (((List (Int × (Int × Int))) × ((List (Int × (Int × (Int × (Int × (Int × ByteArray)))))) × (List (Int × Int)))) × ((List (List Int)) × ((List (List Int)) × (Option (List ((Int × Int) × Bool))))))) (hF : f64 k x0 = some r) : PCall Try.prog 64 [⟨sh12, x0⟩] [⟨sh17, some r⟩] := by
  refine pcall_intro Try.func64 rfl rfl (Nat.le_of_ble_eq_true rfl) ?_
  intro w0 Zi a w h
  rw [f64] at hF
  refine wp_reg_seq tok (orc := orcL []) (fz := []) (l := [1]) (c := _) (.inr fun i h => h) h (by kernel_rfl) (AllP.nil) ?_
  intro a w h
  obtain ⟨hc141, hF⟩ := of_if hF
  obtain ⟨hc142, hF⟩ := of_if hF
  refine wp_regy_seq tok (orc := orcL []) (fz := []) (l := [1, 3]) (c := _) ([], [], [], []) 10 (.inr fun i h => h) h (by kernel_rfl) (by kernel_rfl) (AllP.cons hc141 (AllP.cons hc142 AllP.nil)) ?_
  intro a w h
  refine wp_seq ?_
  refine wp_reg_seq tok (orc := orcL []) (fz := []) (l := [1, 3, 21, 22, 23]) (c := _) (.inr fun i h => h) h (by kernel_rfl) (AllP.nil) ?_
  intro a w h
  refine wp_block ?_
  refine wp_loop_fuel (f64.l56 k x0) (fun ((v94, v95, v96) : ((List (List Int)) × (List (List Int)) × Int)) => [(1, .val sh11 (some x0)), (3, .val sh17 (some (x0, (v94, (v95, (some ([] : (List ((Int × Int) × Bool))))))))), (21, .val sh14 x0.2.1), (22, .val (.int .i64) (List.length x0.2.1 : Int)), (23, .val (.int .i64) v96)]) (fun v h => by obtain ⟨v94, v95, v96⟩ := v; rw [f64.l56] at h; cases h) ?_ hF (h.arrive (fz := []) (l := [1, 3, 21, 22, 23]) (.inr fun i h => h) (by kernel_rfl))
  intro m56 v a w hF h
  obtain ⟨v94, v95, v96⟩ := v
  rw [f64.l56] at hF
  refine wp_reg_seq tok (orc := orcL []) (fz := []) (l := [1, 3, 21, 22, 23, 24]) (c := _) (.inr fun i h => h) h (by kernel_rfl) (AllP.nil) ?_
  intro a w h
  refine wp_seq <| wp_if h (b := (decide ((v96 : Int) < (List.length x0.2.1 : Int)))) (by kernel_rfl) (fun hb => ?_) (fun hb => ?_)
  · replace hF := of_t hb hF
    refine wp_skip ?_
    refine wp_seq <| wp_block ?_
    obtain ⟨hc110, hF⟩ := of_if hF
    refine wp_reg_seq tok (orc := orcL []) (fz := []) (l := [1, 3, 4, 5, 21, 22, 23]) (c := _) (.inr fun i h => h) h (by kernel_rfl) (AllP.cons hc110 AllP.nil) ?_
    intro a w h
    obtain ⟨hc107, hF⟩ := of_if hF
    obtain ⟨hc108, hF⟩ := of_if hF
    obtain ⟨hc109, hF⟩ := of_if hF
    refine wp_regy_seq tok (orc := orcL [(44, [⟨.pt false 4294967293 .unit, some ()⟩])]) (fz := []) (l := [1, 3, 4, 5, 21, 22, 23]) (c := _) ([], [], [], []) 18 (.inr fun i h => h) h (by kernel_rfl) (by kernel_rfl) (AllP.cons hc107 (AllP.cons (PrefL.mk (l := [[], [], [.der, .snd, .fst], [.der, .snd, .fst], [], [], [.der, .snd, .fst], [.der, .snd, .fst], [.der, .snd, .fst, .idx (Int.toNat (List.getD x0.2.1 (Int.toNat v96) ((0 : Int), ((0 : Int), ((0 : Int), ((0 : Int), ((0 : Int), (⟨#[]⟩ : ByteArray))))))).1)], [.der, .snd, .fst, .idx (Int.toNat (List.getD x0.2.1 (Int.toNat v96) ((0 : Int), ((0 : Int), ((0 : Int), ((0 : Int), ((0 : Int), (⟨#[]⟩ : ByteArray))))))).1)]]) (p := [.der, .snd, .fst, .idx (Int.toNat (List.getD x0.2.1 (Int.toNat v96) ((0 : Int), ((0 : Int), ((0 : Int), ((0 : Int), ((0 : Int), (⟨#[]⟩ : ByteArray))))))).1)]) rfl) (AllP.cons hc108 (AllP.cons hc109 (AllP.cons (show ([.der, .snd, .fst, .idx (Int.toNat (List.getD x0.2.1 (Int.toNat v96) ((0 : Int), ((0 : Int), ((0 : Int), ((0 : Int), ((0 : Int), (⟨#[]⟩ : ByteArray))))))).1)] : Path) = [.der, .snd, .fst, .idx (Int.toNat (List.getD x0.2.1 (Int.toNat v96) ((0 : Int), ((0 : Int), ((0 : Int), ((0 : Int), ((0 : Int), (⟨#[]⟩ : ByteArray))))))).1)] from rfl) AllP.nil))))) ?_
    intro a w h
    obtain ⟨hc104, hF⟩ := of_if hF
    obtain ⟨hc105, hF⟩ := of_if hF
    obtain ⟨hc106, hF⟩ := of_if hF
    refine wp_regy tok (orc := orcL [(62, [⟨.pt false 4294967293 .unit, some ()⟩])]) (fz := []) (l := [1, 3, 21, 22, 23]) (c := _) ([], [], [], []) 18 (.inr fun i h => h) h (by kernel_rfl) (by kernel_rfl) (AllP.cons hc104 (AllP.cons (PrefL.mk (l := [[], [], [.der, .snd, .snd, .fst], [.der, .snd, .snd, .fst], [], [], [.der, .snd, .snd, .fst], [.der, .snd, .snd, .fst], [.der, .snd, .snd, .fst, .idx (Int.toNat (List.getD x0.2.1 (Int.toNat v96) ((0 : Int), ((0 : Int), ((0 : Int), ((0 : Int), ((0 : Int), (⟨#[]⟩ : ByteArray))))))).2.1)], [.der, .snd, .snd, .fst, .idx (Int.toNat (List.getD x0.2.1 (Int.toNat v96) ((0 : Int), ((0 : Int), ((0 : Int), ((0 : Int), ((0 : Int), (⟨#[]⟩ : ByteArray))))))).2.1)]]) (p := [.der, .snd, .snd, .fst, .idx (Int.toNat (List.getD x0.2.1 (Int.toNat v96) ((0 : Int), ((0 : Int), ((0 : Int), ((0 : Int), ((0 : Int), (⟨#[]⟩ : ByteArray))))))).2.1)]) rfl) (AllP.cons hc105 (AllP.cons hc106 (AllP.cons (show ([.der, .snd, .snd, .fst, .idx (Int.toNat (List.getD x0.2.1 (Int.toNat v96) ((0 : Int), ((0 : Int), ((0 : Int), ((0 : Int), ((0 : Int), (⟨#[]⟩ : ByteArray))))))).2.1)] : Path) = [.der, .snd, .snd, .fst, .idx (Int.toNat (List.getD x0.2.1 (Int.toNat v96) ((0 : Int), ((0 : Int), ((0 : Int), ((0 : Int), ((0 : Int), (⟨#[]⟩ : ByteArray))))))).2.1)] from rfl) AllP.nil))))) ?_
    intro a w h
    refine wp_reg tok (orc := orcL []) (fz := []) (l := [1, 3, 21, 22, 23]) (c := _) (.inr fun i h => h) h (by kernel_rfl) (AllP.nil) ?_
    intro a w h
    exact ⟨((List.set v94 (Int.toNat (List.getD x0.2.1 (Int.toNat v96) ((0 : Int), ((0 : Int), ((0 : Int), ((0 : Int), ((0 : Int), (⟨#[]⟩ : ByteArray))))))).1) (List.append (List.getD v94 (Int.toNat (List.getD x0.2.1 (Int.toNat v96) ((0 : Int), ((0 : Int), ((0 : Int), ((0 : Int), ((0 : Int), (⟨#[]⟩ : ByteArray))))))).1) ([] : (List Int))) [v96])), (List.set v95 (Int.toNat (List.getD x0.2.1 (Int.toNat v96) ((0 : Int), ((0 : Int), ((0 : Int), ((0 : Int), ((0 : Int), (⟨#[]⟩ : ByteArray))))))).2.1) (List.append (List.getD v95 (Int.toNat (List.getD x0.2.1 (Int.toNat v96) ((0 : Int), ((0 : Int), ((0 : Int), ((0 : Int), ((0 : Int), (⟨#[]⟩ : ByteArray))))))).2.1) ([] : (List Int))) [v96])), (IntKind.i64.wrap (v96 + (1 : Int)))), hF, h.arrive (fz := []) (l := [1, 3, 21, 22, 23]) (.inr fun i h => h) (by kernel_rfl)⟩
  · replace hF := of_f hb hF
    refine wp_exit ?_
    refine wp_seq ?_
    refine wp_reg_seq tok (orc := orcL []) (fz := []) (l := [3, 66, 67, 68]) (c := _) (.inr fun i h => h) h (by kernel_rfl) (AllP.nil) ?_
    intro a w h
    refine wp_block ?_
    refine wp_loop_fuel (f64.l126 k x0 v94 v95) (fun ((v137, v138) : ((List ((Int × Int) × Bool)) × Int)) => [(3, .val sh17 (some (x0, (v94, (v95, (some v137)))))), (66, .val sh15 x0.2.2), (67, .val (.int .i64) (List.length x0.2.2 : Int)), (68, .val (.int .i64) v138)]) (fun v h => by obtain ⟨v137, v138⟩ := v; rw [f64.l126] at h; cases h) ?_ hF (h.arrive (fz := []) (l := [3, 66, 67, 68]) (.inr fun i h => h) (by kernel_rfl))
    intro m126 v a w hF h
    obtain ⟨v137, v138⟩ := v
    rw [f64.l126] at hF
    refine wp_reg_seq tok (orc := orcL []) (fz := []) (l := [3, 66, 67, 68, 69]) (c := _) (.inr fun i h => h) h (by kernel_rfl) (AllP.nil) ?_
    intro a w h
    refine wp_seq <| wp_if h (b := (decide ((v138 : Int) < (List.length x0.2.2 : Int)))) (by kernel_rfl) (fun hb => ?_) (fun hb => ?_)
    · replace hF := of_t hb hF
      refine wp_skip ?_
      refine wp_seq <| wp_block ?_
      obtain ⟨hc140, hF⟩ := of_if hF
      refine wp_reg_seq tok (orc := orcL []) (fz := []) (l := [3, 7, 66, 67, 68]) (c := _) (.inr fun i h => h) h (by kernel_rfl) (AllP.cons hc140 AllP.nil) ?_
      intro a w h
      refine wp_regy tok (orc := orcL []) (fz := []) (l := [3, 66, 67, 68]) (c := _) ([], [], [], []) 5 (.inr fun i h => h) h (by kernel_rfl) (by kernel_rfl) (AllP.cons (show eqTy Try.prog 9 82 (.st (.pair (.int .i64) (.int .i64))) = true from by kernel_rfl) AllP.nil) ?_
      intro a w h
      refine wp_reg tok (orc := orcL []) (fz := []) (l := [3, 66, 67, 68]) (c := _) (.inr fun i h => h) h (by kernel_rfl) (AllP.nil) ?_
      intro a w h
      exact ⟨((mput (Sh.beq sh5) (List.getD x0.2.2 (Int.toNat v138) ((0 : Int), (0 : Int))) true v137), (IntKind.i64.wrap (v138 + (1 : Int)))), hF, h.arrive (fz := []) (l := [3, 66, 67, 68]) (.inr fun i h => h) (by kernel_rfl)⟩
    · replace hF := of_f hb hF
      refine wp_exit ?_
      refine wp_reg_seq tok (orc := orcL []) (fz := []) (l := [2, 3]) (c := _) (.inr fun i h => h) h (by kernel_rfl) (AllP.nil) ?_
      intro a w h
      cases hF
      exact wp_ret (ret_okR tok h rfl (by kernel_rfl)).1

def f65 (k : Nat) (x0 : (((List (Int × (Int × Int))) × ((List (Int × (Int × (Int × (Int × (Int × ByteArray)))))) × (List (Int × Int)))) × ((List (List Int)) × ((List (List Int)) × (Option (List ((Int × Int) × Bool))))))) (x1 : Int) : Option Bool := some (bif (decide ((x1 : Int) ≥ (0 : Int))) then (decide ((x1 : Int) < (List.length x0.1.2.1 : Int))) else false)
set_option maxRecDepth 100000 in
/-- 'impl.myNet).road'. -/
theorem c65 (k : Nat) (x0 : (((List (Int × (Int × Int))) × ((List (Int × (Int × (Int × (Int × (Int × ByteArray)))))) × (List (Int × Int)))) × ((List (List Int)) × ((List (List Int)) × (Option (List ((Int × Int) × Bool))))))) (x1 : Int) (r : Bool) (hF : f65 k x0 x1 = some r) : PCall Try.prog 65 [⟨sh18, some x0⟩, ⟨(.int .i64), x1⟩] [⟨.bool, r⟩] := by
  refine pcall_intro Try.func65 rfl rfl (Nat.le_of_ble_eq_true rfl) ?_
  intro w0 Zi a w h
  rw [f65] at hF
  refine wp_reg_seq tok (orc := orcL []) (fz := []) (l := [0, 1]) (c := _) (.inr fun i h => h) h (by kernel_rfl) (AllP.nil) ?_
  intro a w h
  refine wp_reg_seq tok (orc := orcL []) (fz := []) (l := [4]) (c := _) (.inr fun i h => h) h (by kernel_rfl) (AllP.nil) ?_
  intro a w h
  cases hF
  exact wp_ret (ret_okR tok h rfl (by kernel_rfl)).1

def f23.j168 (k : Nat) (v163 : Int) (q137 : ((List (Int × Bool)) × Int × Int) → Option Int) : ((List (Int × Bool)) × Int) → Option Int
  | (v166, v167) => q137 (v166, v167, (IntKind.i64.wrap (v163 + (1 : Int))))
def f23.l137 (k : Nat) (x2 : (List Int)) (x0 : ((List (Int × (Int × Int))) × ((List (Int × (Int × (Int × (Int × (Int × ByteArray)))))) × (List (Int × Int))))) : Nat → ((List (Int × Bool)) × Int × Int) → Option Int
  | 0, _ => none
  | m137 + 1, (v161, v162, v163) => if (decide ((v163 : Int) < (List.length x2 : Int))) then (if (0 ≤ v163 ∧ v163 < (List.length x2 : Int)) then (if (mget (Sh.beq (.int .i64)) (some v161) (List.getD x2 (Int.toNat v163) (0 : Int)) false) then (if (0 ≤ (List.getD x2 (Int.toNat v163) (0 : Int)) ∧ (List.getD x2 (Int.toNat v163) (0 : Int)) < (List.length x0.2.1 : Int)) then (f23.j168 k v163 ((f23.l137 k x2 x0) m137) ((mdel (Sh.beq (.int .i64)) (List.getD x2 (Int.toNat v163) (0 : Int)) v161), (IntKind.i64.wrap (v162 + (List.getD x0.2.1 (Int.toNat (List.getD x2 (Int.toNat v163) (0 : Int))) ((0 : Int), ((0 : Int), ((0 : Int), ((0 : Int), ((0 : Int), (⟨#[]⟩ : ByteArray))))))).2.2.2.1)))) else none) else (f23.j168 k v163 ((f23.l137 k x2 x0) m137) (v161, v162))) else none) else (some v162)
def f23.l80 (k : Nat) (x2 : (List Int)) (r2 : (((List (Int × (Int × Int))) × ((List (Int × (Int × (Int × (Int × (Int × ByteArray)))))) × (List (Int × Int)))) × ((List (List Int)) × ((List (List Int)) × (Option (List ((Int × Int) × Bool))))))) (x0 : ((List (Int × (Int × Int))) × ((List (Int × (Int × (Int × (Int × (Int × ByteArray)))))) × (List (Int × Int))))) (v49 : (List (Int × Bool))) : Nat → Int → Option Int
  | 0, _ => none
  | m80 + 1, v96 => if (decide ((v96 : Int) < (List.length x2 : Int))) then (if (0 ≤ v96 ∧ v96 < (List.length x2 : Int)) then ((f65 k r2 (List.getD x2 (Int.toNat v96) (0 : Int))).bind fun r100 => (if (!r100) then (some (0 : Int)) else ((f23.l80 k x2 r2 x0 v49) m80 (IntKind.i64.wrap (v96 + (1 : Int)))))) else none) else (f23.l137 k x2 x0 k (v49, (0 : Int), (0 : Int)))
def f23.l30 (k : Nat) (x1 : (List Int)) (r2 : (((List (Int × (Int × Int))) × ((List (Int × (Int × (Int × (Int × (Int × ByteArray)))))) × (List (Int × Int)))) × ((List (List Int)) × ((List (List Int)) × (Option (List ((Int × Int) × Bool))))))) (x2 : (List Int)) (x0 : ((List (Int × (Int × Int))) × ((List (Int × (Int × (Int × (Int × (Int × ByteArray)))))) × (List (Int × Int))))) : Nat → ((List (Int × Bool)) × Int) → Option Int
  | 0, _ => none
  | m30 + 1, (v49, v50) => if (decide ((v50 : Int) < (List.length x1 : Int))) then (if (0 ≤ v50 ∧ v50 < (List.length x1 : Int)) then ((f65 k r2 (List.getD x1 (Int.toNat v50) (0 : Int))).bind fun r54 => (if (!r54) then (some (0 : Int)) else ((f23.l30 k x1 r2 x2 x0) m30 ((mput (Sh.beq (.int .i64)) (List.getD x1 (Int.toNat v50) (0 : Int)) true v49), (IntKind.i64.wrap (v50 + (1 : Int))))))) else none) else (f23.l80 k x2 r2 x0 v49 k (0 : Int))
def f23 (k : Nat) (x0 : ((List (Int × (Int × Int))) × ((List (Int × (Int × (Int × (Int × (Int × ByteArray)))))) × (List (Int × Int))))) (x1 : (List Int)) (x2 : (List Int)) : Option Int := (f63 k x0).bind fun r1 => (if (!r1) then (some (0 : Int)) else ((f64 k x0).bind fun r2 => (f23.l30 k x1 r2 x2 x0 k (([] : (List (Int × Bool))), (0 : Int)))))
set_option maxRecDepth 100000 in
/-- 'impl.Common'. -/
theorem c23 (k : Nat) (x0 : ((List (Int × (Int × Int))) × ((List (Int × (Int × (Int × (Int × (Int × ByteArray)))))) × (List (Int × Int))))) (x1 : (List Int)) (x2 : (List Int)) (r : Int) (hF : f23 k x0 x1 x2 = some r) : PCall Try.prog 23 [⟨sh12, x0⟩, ⟨(.sl false 2 (.int .i64)), x1⟩, ⟨(.sl false 2 (.int .i64)), x2⟩] [⟨(.int .i64), r⟩] := by
  refine pcall_intro Try.func23 rfl rfl (Nat.le_of_ble_eq_true rfl) ?_
  intro w0 Zi a w h
  rw [f23] at hF
  refine wp_reg_seq tok (orc := orcL []) (fz := []) (l := [1, 2, 3]) (c := _) (.inr fun i h => h) h (by kernel_rfl) (AllP.nil) ?_
  intro a w h
  refine wp_seq ?_
  obtain ⟨r1, hr172, hF⟩ := of_bind hF
  refine wp_reg_seq tok (orc := orcL [(17, [⟨.bool, r1⟩])]) (fz := []) (l := [1, 2, 3, 18]) (c := _) (.inr fun i h => h) h (by kernel_rfl) (AllP.cons (c63 k x0 r1 hr172) AllP.nil) ?_
  intro a w h
  refine wp_if h (b := (!r1)) (by kernel_rfl) (fun hb => ?_) (fun hb => ?_)
  · replace hF := of_t hb hF
    refine wp_reg_seq tok (orc := orcL []) (fz := []) (l := [6]) (c := _) (.inr fun i h => h) h (by kernel_rfl) (AllP.nil) ?_
    intro a w h
    cases hF
    exact wp_ret (ret_okR tok h rfl (by kernel_rfl)).1
  · replace hF := of_f hb hF
    refine wp_skip ?_
    obtain ⟨r2, hr171, hF⟩ := of_bind hF
    refine wp_reg_seq tok (orc := orcL [(20, [⟨sh17, some r2⟩])]) (fz := []) (l := [1, 2, 3, 7]) (c := _) (.inr fun i h => h) h (by kernel_rfl) (AllP.cons (c64 k x0 r2 hr171) AllP.nil) ?_
    intro a w h
    refine wp_reg_seq tok (orc := orcL []) (fz := []) (l := [1, 2, 3, 7, 8]) (c := _) (.inr fun i h => h) h (by kernel_rfl) (AllP.nil) ?_
    intro a w h
    refine wp_seq ?_
    refine wp_reg_seq tok (orc := orcL []) (fz := []) (l := [2, 3, 7, 8, 22, 23, 24]) (c := _) (.inr fun i h => h) h (by kernel_rfl) (AllP.nil) ?_
    intro a w h
    refine wp_block ?_
    refine wp_loop_fuel (f23.l30 k x1 r2 x2 x0) (fun ((v49, v50) : ((List (Int × Bool)) × Int)) => [(2, .val (.sl false 2 (.int .i64)) x2), (3, .val sh11 (some x0)), (7, .val sh17 (some r2)), (8, .val sh19 (some v49)), (22, .val (.sl false 2 (.int .i64)) x1), (23, .val (.int .i64) (List.length x1 : Int)), (24, .val (.int .i64) v50)]) (fun v h => by obtain ⟨v49, v50⟩ := v; rw [f23.l30] at h; cases h) ?_ hF (h.arrive (fz := []) (l := [2, 3, 7, 8, 22, 23, 24]) (.inr fun i h => h) (by kernel_rfl))
    intro m30 v a w hF h
    obtain ⟨v49, v50⟩ := v
    rw [f23.l30] at hF
    refine wp_reg_seq tok (orc := orcL []) (fz := []) (l := [2, 3, 7, 8, 22, 23, 24, 25]) (c := _) (.inr fun i h => h) h (by kernel_rfl) (AllP.nil) ?_
    intro a w h
    refine wp_seq <| wp_if h (b := (decide ((v50 : Int) < (List.length x1 : Int)))) (by kernel_rfl) (fun hb => ?_) (fun hb => ?_)
    · replace hF := of_t hb hF
      refine wp_skip ?_
      refine wp_seq <| wp_block ?_
      obtain ⟨hc56, hF⟩ := of_if hF
      refine wp_reg_seq tok (orc := orcL []) (fz := []) (l := [2, 3, 7, 8, 10, 22, 23, 24]) (c := _) (.inr fun i h => h) h (by kernel_rfl) (AllP.cons hc56 AllP.nil) ?_
      intro a w h
      refine wp_seq ?_
      obtain ⟨r54, hr55, hF⟩ := of_bind hF
      refine wp_reg_seq tok (orc := orcL [(30, [⟨.bool, r54⟩])]) (fz := []) (l := [2, 3, 7, 8, 10, 22, 23, 24, 31]) (c := _) (.inr fun i h => h) h (by kernel_rfl) (AllP.cons (c65 k r2 (List.getD x1 (Int.toNat v50) (0 : Int)) r54 hr55) AllP.nil) ?_
      intro a w h
      refine wp_if h (b := (!r54)) (by kernel_rfl) (fun hb => ?_) (fun hb => ?_)
      · replace hF := of_t hb hF
        refine wp_reg_seq tok (orc := orcL []) (fz := []) (l := [6]) (c := _) (.inr fun i h => h) h (by kernel_rfl) (AllP.nil) ?_
        intro a w h
        cases hF
        exact wp_ret (ret_okR tok h rfl (by kernel_rfl)).1
      · replace hF := of_f hb hF
        refine wp_skip ?_
        refine wp_reg tok (orc := orcL []) (fz := []) (l := [2, 3, 7, 8, 22, 23, 24]) (c := _) (.inr fun i h => h) h (by kernel_rfl) (AllP.cons (show eqTy Try.prog 9 2 (.int .i64) = true from by kernel_rfl) AllP.nil) ?_
        intro a w h
        refine wp_reg tok (orc := orcL []) (fz := []) (l := [2, 3, 7, 8, 22, 23, 24]) (c := _) (.inr fun i h => h) h (by kernel_rfl) (AllP.nil) ?_
        intro a w h
        exact ⟨((mput (Sh.beq (.int .i64)) (List.getD x1 (Int.toNat v50) (0 : Int)) true v49), (IntKind.i64.wrap (v50 + (1 : Int)))), hF, h.arrive (fz := []) (l := [2, 3, 7, 8, 22, 23, 24]) (.inr fun i h => h) (by kernel_rfl)⟩
    · replace hF := of_f hb hF
      refine wp_exit ?_
      refine wp_seq ?_
      refine wp_reg_seq tok (orc := orcL []) (fz := []) (l := [2, 3, 7, 8, 35, 36, 37]) (c := _) (.inr fun i h => h) h (by kernel_rfl) (AllP.nil) ?_
      intro a w h
      refine wp_block ?_
      refine wp_loop_fuel (f23.l80 k x2 r2 x0 v49) (fun (v96 : Int) => [(2, .val (.sl false 2 (.int .i64)) x2), (3, .val sh11 (some x0)), (7, .val sh17 (some r2)), (8, .val sh19 (some v49)), (35, .val (.sl false 2 (.int .i64)) x2), (36, .val (.int .i64) (List.length x2 : Int)), (37, .val (.int .i64) v96)]) (fun v h => by rw [f23.l80] at h; cases h) ?_ hF (h.arrive (fz := []) (l := [2, 3, 7, 8, 35, 36, 37]) (.inr fun i h => h) (by kernel_rfl))
      intro m80 v96 a w hF h
      rw [f23.l80] at hF
      refine wp_reg_seq tok (orc := orcL []) (fz := []) (l := [2, 3, 7, 8, 35, 36, 37, 38]) (c := _) (.inr fun i h => h) h (by kernel_rfl) (AllP.nil) ?_
      intro a w h
      refine wp_seq <| wp_if h (b := (decide ((v96 : Int) < (List.length x2 : Int)))) (by kernel_rfl) (fun hb => ?_) (fun hb => ?_)
      · replace hF := of_t hb hF
        refine wp_skip ?_
        refine wp_seq <| wp_block ?_
        obtain ⟨hc102, hF⟩ := of_if hF
        refine wp_reg_seq tok (orc := orcL []) (fz := []) (l := [2, 3, 7, 8, 12, 35, 36, 37]) (c := _) (.inr fun i h => h) h (by kernel_rfl) (AllP.cons hc102 AllP.nil) ?_
        intro a w h
        obtain ⟨r100, hr101, hF⟩ := of_bind hF
        refine wp_reg_seq tok (orc := orcL [(43, [⟨.bool, r100⟩])]) (fz := []) (l := [2, 3, 7, 8, 35, 36, 37, 44]) (c := _) (.inr fun i h => h) h (by kernel_rfl) (AllP.cons (c65 k r2 (List.getD x2 (Int.toNat v96) (0 : Int)) r100 hr101) AllP.nil) ?_
        intro a w h
        refine wp_if h (b := (!r100)) (by kernel_rfl) (fun hb => ?_) (fun hb => ?_)
        · replace hF := of_t hb hF
          refine wp_reg_seq tok (orc := orcL []) (fz := []) (l := [6]) (c := _) (.inr fun i h => h) h (by kernel_rfl) (AllP.nil) ?_
          intro a w h
          cases hF
          exact wp_ret (ret_okR tok h rfl (by kernel_rfl)).1
        · replace hF := of_f hb hF
          refine wp_skip ?_
          refine wp_reg tok (orc := orcL []) (fz := []) (l := [2, 3, 7, 8, 35, 36, 37]) (c := _) (.inr fun i h => h) h (by kernel_rfl) (AllP.nil) ?_
          intro a w h
          exact ⟨(IntKind.i64.wrap (v96 + (1 : Int))), hF, h.arrive (fz := []) (l := [2, 3, 7, 8, 35, 36, 37]) (.inr fun i h => h) (by kernel_rfl)⟩
      · replace hF := of_f hb hF
        refine wp_exit ?_
        refine wp_reg_seq tok (orc := orcL []) (fz := []) (l := [2, 3, 8, 13]) (c := _) (.inr fun i h => h) h (by kernel_rfl) (AllP.nil) ?_
        intro a w h
        refine wp_seq ?_
        refine wp_reg_seq tok (orc := orcL []) (fz := []) (l := [3, 8, 13, 46, 47, 48]) (c := _) (.inr fun i h => h) h (by kernel_rfl) (AllP.nil) ?_
        intro a w h
        refine wp_block ?_
        refine wp_loop_fuel (f23.l137 k x2 x0) (fun ((v161, v162, v163) : ((List (Int × Bool)) × Int × Int)) => [(3, .val sh11 (some x0)), (8, .val sh19 (some v161)), (13, .val (.int .i64) v162), (46, .val (.sl false 2 (.int .i64)) x2), (47, .val (.int .i64) (List.length x2 : Int)), (48, .val (.int .i64) v163)]) (fun v h => by obtain ⟨v161, v162, v163⟩ := v; rw [f23.l137] at h; cases h) ?_ hF (h.arrive (fz := []) (l := [3, 8, 13, 46, 47, 48]) (.inr fun i h => h) (by kernel_rfl))
        intro m137 v a w hF h
        obtain ⟨v161, v162, v163⟩ := v
        rw [f23.l137] at hF
        refine wp_reg_seq tok (orc := orcL []) (fz := []) (l := [3, 8, 13, 46, 47, 48, 49]) (c := _) (.inr fun i h => h) h (by kernel_rfl) (AllP.nil) ?_
        intro a w h
        refine wp_seq <| wp_if h (b := (decide ((v163 : Int) < (List.length x2 : Int)))) (by kernel_rfl) (fun hb => ?_) (fun hb => ?_)
        · replace hF := of_t hb hF
          refine wp_skip ?_
          refine wp_mid (fun a w => ∃ v : ((List (Int × Bool)) × Int), f23.j168 k v163 ((f23.l137 k x2 x0) m137) v = some r ∧ Rel w0 (fun _ => False) Zi Try.f23.ntmps ((fun ((v166, v167) : ((List (Int × Bool)) × Int)) => ([(3, .val sh11 (some x0)), (8, .val sh19 (some v166)), (13, .val (.int .i64) v167), (46, .val (.sl false 2 (.int .i64)) x2), (47, .val (.int .i64) (List.length x2 : Int)), (48, .val (.int .i64) v163)] : SS)) v) a w) ?_ ?_
          ·
            refine wp_block ?_
            obtain ⟨hc170, hF⟩ := of_if hF
            refine wp_reg_seq tok (orc := orcL []) (fz := []) (l := [3, 8, 13, 15, 46, 47, 48]) (c := _) (.inr fun i h => h) h (by kernel_rfl) (AllP.cons hc170 AllP.nil) ?_
            intro a w h
            refine wp_reg_seq tok (orc := orcL []) (fz := []) (l := [3, 8, 13, 15, 46, 47, 48, 54]) (c := _) (.inr fun i h => h) h (by kernel_rfl) (AllP.cons (show eqTy Try.prog 9 2 (.int .i64) = true from by kernel_rfl) AllP.nil) ?_
            intro a w h
            refine wp_if h (b := (mget (Sh.beq (.int .i64)) (some v161) (List.getD x2 (Int.toNat v163) (0 : Int)) false)) (by kernel_rfl) (fun hb => ?_) (fun hb => ?_)
            · replace hF := of_t hb hF
              obtain ⟨hc169, hF⟩ := of_if hF
              refine wp_reg_seq tok (orc := orcL []) (fz := []) (l := [3, 8, 13, 15, 46, 47, 48]) (c := _) (.inr fun i h => h) h (by kernel_rfl) (AllP.cons hc169 AllP.nil) ?_
              intro a w h
              refine wp_reg tok (orc := orcL []) (fz := []) (l := [3, 8, 13, 46, 47, 48]) (c := _) (.inr fun i h => h) h (by kernel_rfl) (AllP.cons (show eqTy Try.prog 9 2 (.int .i64) = true from by kernel_rfl) AllP.nil) ?_
              intro a w h
              exact ⟨((mdel (Sh.beq (.int .i64)) (List.getD x2 (Int.toNat v163) (0 : Int)) v161), (IntKind.i64.wrap (v162 + (List.getD x0.2.1 (Int.toNat (List.getD x2 (Int.toNat v163) (0 : Int))) ((0 : Int), ((0 : Int), ((0 : Int), ((0 : Int), ((0 : Int), (⟨#[]⟩ : ByteArray))))))).2.2.2.1))), hF, h.arrive (fz := []) (l := [3, 8, 13, 46, 47, 48]) (.inr fun i h => h) (by kernel_rfl)⟩
            · replace hF := of_f hb hF
              refine wp_skip ?_
              exact ⟨(v161, v162), hF, h.arrive (fz := []) (l := [3, 8, 13, 46, 47, 48]) (.inr fun i h => h) (by kernel_rfl)⟩
          · rintro a w ⟨v, hF, h⟩
            obtain ⟨v166, v167⟩ := v
            rw [f23.j168] at hF
            refine wp_reg tok (orc := orcL []) (fz := []) (l := [3, 8, 13, 46, 47, 48]) (c := _) (.inr fun i h => h) h (by kernel_rfl) (AllP.nil) ?_
            intro a w h
            exact ⟨(v166, v167, (IntKind.i64.wrap (v163 + (1 : Int)))), hF, h.arrive (fz := []) (l := [3, 8, 13, 46, 47, 48]) (.inr fun i h => h) (by kernel_rfl)⟩
        · replace hF := of_f hb hF
          refine wp_exit ?_
          refine wp_reg_seq tok (orc := orcL []) (fz := []) (l := [6]) (c := _) (.inr fun i h => h) h (by kernel_rfl) (AllP.nil) ?_
          intro a w h
          cases hF
          exact wp_ret (ret_okR tok h rfl (by kernel_rfl)).1

def f128 (k : Nat) (x0 : (Int × Int)) (x1 : (Int × Int)) : Option Bool := if ((x0.1 : Int) != x1.1) then (some false) else (if ((x0.2 : Int) != x1.2) then (some false) else (some true))
set_option maxRecDepth 100000 in
/-- 'laws.eqPoint'. -/
theorem c128 (k : Nat) (x0 : (Int × Int)) (x1 : (Int × Int)) (r : Bool) (hF : f128 k x0 x1 = some r) : PCall Try.prog 128 [⟨sh5, x0⟩, ⟨sh5, x1⟩] [⟨.bool, r⟩] := by
  refine pcall_intro Try.func128 rfl rfl (Nat.le_of_ble_eq_true rfl) ?_
  intro w0 Zi a w h
  rw [f128] at hF
  refine wp_reg_seq tok (orc := orcL []) (fz := []) (l := [2, 3]) (c := _) (.inr fun i h => h) h (by kernel_rfl) (AllP.nil) ?_
  intro a w h
  refine wp_seq ?_
  refine wp_reg_seq tok (orc := orcL []) (fz := []) (l := [2, 3, 9]) (c := _) (.inr fun i h => h) h (by kernel_rfl) (AllP.nil) ?_
  intro a w h
  refine wp_if h (b := ((x0.1 : Int) != x1.1)) (by kernel_rfl) (fun hb => ?_) (fun hb => ?_)
  · replace hF := of_t hb hF
    refine wp_reg_seq tok (orc := orcL []) (fz := []) (l := [4]) (c := _) (.inr fun i h => h) h (by kernel_rfl) (AllP.nil) ?_
    intro a w h
    cases hF
    exact wp_ret (ret_okR tok h rfl (by kernel_rfl)).1
  · replace hF := of_f hb hF
    refine wp_skip ?_
    refine wp_seq ?_
    refine wp_reg_seq tok (orc := orcL []) (fz := []) (l := [14]) (c := _) (.inr fun i h => h) h (by kernel_rfl) (AllP.nil) ?_
    intro a w h
    refine wp_if h (b := ((x0.2 : Int) != x1.2)) (by kernel_rfl) (fun hb => ?_) (fun hb => ?_)
    · replace hF := of_t hb hF
      refine wp_reg_seq tok (orc := orcL []) (fz := []) (l := [4]) (c := _) (.inr fun i h => h) h (by kernel_rfl) (AllP.nil) ?_
      intro a w h
      cases hF
      exact wp_ret (ret_okR tok h rfl (by kernel_rfl)).1
    · replace hF := of_f hb hF
      refine wp_skip ?_
      refine wp_reg_seq tok (orc := orcL []) (fz := []) (l := [4]) (c := _) (.inr fun i h => h) h (by kernel_rfl) (AllP.nil) ?_
      intro a w h
      cases hF
      exact wp_ret (ret_okR tok h rfl (by kernel_rfl)).1

def f110 (k : Nat) (x0 : (Int × (Int × Int))) (x1 : (Int × (Int × Int))) : Option Bool := if ((x0.1 : Int) != x1.1) then (some false) else ((f128 k x0.2 x1.2).bind fun r1 => (if (!r1) then (some false) else (some true)))
set_option maxRecDepth 100000 in
/-- 'laws.eqSpot'. -/
theorem c110 (k : Nat) (x0 : (Int × (Int × Int))) (x1 : (Int × (Int × Int))) (r : Bool) (hF : f110 k x0 x1 = some r) : PCall Try.prog 110 [⟨sh6, x0⟩, ⟨sh6, x1⟩] [⟨.bool, r⟩] := by
  refine pcall_intro Try.func110 rfl rfl (Nat.le_of_ble_eq_true rfl) ?_
  intro w0 Zi a w h
  rw [f110] at hF
  refine wp_reg_seq tok (orc := orcL []) (fz := []) (l := [2, 3]) (c := _) (.inr fun i h => h) h (by kernel_rfl) (AllP.nil) ?_
  intro a w h
  refine wp_seq ?_
  refine wp_reg_seq tok (orc := orcL []) (fz := []) (l := [2, 3, 9]) (c := _) (.inr fun i h => h) h (by kernel_rfl) (AllP.nil) ?_
  intro a w h
  refine wp_if h (b := ((x0.1 : Int) != x1.1)) (by kernel_rfl) (fun hb => ?_) (fun hb => ?_)
  · replace hF := of_t hb hF
    refine wp_reg_seq tok (orc := orcL []) (fz := []) (l := [4]) (c := _) (.inr fun i h => h) h (by kernel_rfl) (AllP.nil) ?_
    intro a w h
    cases hF
    exact wp_ret (ret_okR tok h rfl (by kernel_rfl)).1
  · replace hF := of_f hb hF
    refine wp_skip ?_
    refine wp_seq ?_
    obtain ⟨r1, hr2, hF⟩ := of_bind hF
    refine wp_reg_seq tok (orc := orcL [(14, [⟨.bool, r1⟩])]) (fz := []) (l := [15]) (c := _) (.inr fun i h => h) h (by kernel_rfl) (AllP.cons (c128 k x0.2 x1.2 r1 hr2) AllP.nil) ?_
    intro a w h
    refine wp_if h (b := (!r1)) (by kernel_rfl) (fun hb => ?_) (fun hb => ?_)
    · replace hF := of_t hb hF
      refine wp_reg_seq tok (orc := orcL []) (fz := []) (l := [4]) (c := _) (.inr fun i h => h) h (by kernel_rfl) (AllP.nil) ?_
      intro a w h
      cases hF
      exact wp_ret (ret_okR tok h rfl (by kernel_rfl)).1
    · replace hF := of_f hb hF
      refine wp_skip ?_
      refine wp_reg_seq tok (orc := orcL []) (fz := []) (l := [4]) (c := _) (.inr fun i h => h) h (by kernel_rfl) (AllP.nil) ?_
      intro a w h
      cases hF
      exact wp_ret (ret_okR tok h rfl (by kernel_rfl)).1

def f67.l30 (k : Nat) (x0 : (List (Int × (Int × Int)))) (x1 : (List (Int × (Int × Int)))) : Nat → Int → Option Bool
  | 0, _ => none
  | m30 + 1, v50 => if (decide ((v50 : Int) < (List.length x0 : Int))) then (if (0 ≤ v50 ∧ v50 < (List.length x0 : Int)) then (if (0 ≤ v50 ∧ v50 < (List.length x1 : Int)) then ((f110 k (List.getD x0 (Int.toNat v50) ((0 : Int), ((0 : Int), (0 : Int)))) (List.getD x1 (Int.toNat v50) ((0 : Int), ((0 : Int), (0 : Int))))).bind fun r55 => (if (!r55) then (some false) else ((f67.l30 k x0 x1) m30 (IntKind.i64.wrap (v50 + (1 : Int)))))) else none) else none) else (some true)
def f67 (k : Nat) (x0 : (List (Int × (Int × Int)))) (x1 : (List (Int × (Int × Int)))) : Option Bool := if (((List.length x0 : Int) : Int) != (List.length x1 : Int)) then (some false) else (f67.l30 k x0 x1 k (0 : Int))
set_option maxRecDepth 100000 in
/-- 'laws.eqSpotS'. -/
theorem c67 (k : Nat) (x0 : (List (Int × (Int × Int)))) (x1 : (List (Int × (Int × Int)))) (r : Bool) (hF : f67 k x0 x1 = some r) : PCall Try.prog 67 [⟨sh13, x0⟩, ⟨sh13, x1⟩] [⟨.bool, r⟩] := by
  refine pcall_intro Try.func67 rfl rfl (Nat.le_of_ble_eq_true rfl) ?_
  intro w0 Zi a w h
  rw [f67] at hF
  refine wp_reg_seq tok (orc := orcL []) (fz := []) (l := [0, 1]) (c := _) (.inr fun i h => h) h (by kernel_rfl) (AllP.nil) ?_
  intro a w h
  refine wp_seq ?_
  refine wp_reg_seq tok (orc := orcL []) (fz := []) (l := [0, 1, 10]) (c := _) (.inr fun i h => h) h (by kernel_rfl) (AllP.nil) ?_
  intro a w h
  refine wp_if h (b := (((List.length x0 : Int) : Int) != (List.length x1 : Int))) (by kernel_rfl) (fun hb => ?_) (fun hb => ?_)
  · replace hF := of_t hb hF
    refine wp_reg_seq tok (orc := orcL []) (fz := []) (l := [4]) (c := _) (.inr fun i h => h) h (by kernel_rfl) (AllP.nil) ?_
    intro a w h
    cases hF
    exact wp_ret (ret_okR tok h rfl (by kernel_rfl)).1
  · replace hF := of_f hb hF
    refine wp_skip ?_
    refine wp_seq ?_
    refine wp_reg_seq tok (orc := orcL []) (fz := []) (l := [0, 1, 5]) (c := _) (.inr fun i h => h) h (by kernel_rfl) (AllP.nil) ?_
    intro a w h
    refine wp_block ?_
    refine wp_loop_fuel (f67.l30 k x0 x1) (fun (v50 : Int) => [(0, .val sh13 x0), (1, .val sh13 x1), (5, .val (.int .i64) v50)]) (fun v h => by rw [f67.l30] at h; cases h) ?_ hF (h.arrive (fz := []) (l := [0, 1, 5]) (.inr fun i h => h) (by kernel_rfl))
    intro m30 v50 a w hF h
    rw [f67.l30] at hF
    refine wp_seq ?_
    refine wp_reg_seq tok (orc := orcL []) (fz := []) (l := [0, 1, 5, 14]) (c := _) (.inr fun i h => h) h (by kernel_rfl) (AllP.nil) ?_
    intro a w h
    refine wp_if h (b := (decide ((v50 : Int) < (List.length x0 : Int)))) (by kernel_rfl) (fun hb => ?_) (fun hb => ?_)
    · replace hF := of_t hb hF
      refine wp_skip ?_
      refine wp_seq <| wp_block ?_
      obtain ⟨hc56, hF⟩ := of_if hF
      obtain ⟨hc57, hF⟩ := of_if hF
      obtain ⟨r55, hr58, hF⟩ := of_bind hF
      refine wp_regy_seq tok (orc := orcL [(25, [⟨.bool, r55⟩])]) (fz := []) (l := [0, 1, 5, 26]) (c := _) ([], [], [], []) 10 (.inr fun i h => h) h (by kernel_rfl) (by kernel_rfl) (AllP.cons hc56 (AllP.cons hc57 (AllP.cons (c110 k (List.getD x0 (Int.toNat v50) ((0 : Int), ((0 : Int), (0 : Int)))) (List.getD x1 (Int.toNat v50) ((0 : Int), ((0 : Int), (0 : Int)))) r55 hr58) AllP.nil))) ?_
      intro a w h
      refine wp_if h (b := (!r55)) (by kernel_rfl) (fun hb => ?_) (fun hb => ?_)
      · replace hF := of_t hb hF
        refine wp_reg_seq tok (orc := orcL []) (fz := []) (l := [4]) (c := _) (.inr fun i h => h) h (by kernel_rfl) (AllP.nil) ?_
        intro a w h
        cases hF
        exact wp_ret (ret_okR tok h rfl (by kernel_rfl)).1
      · replace hF := of_f hb hF
        refine wp_skip ?_
        refine wp_reg tok (orc := orcL []) (fz := []) (l := [0, 1, 5]) (c := _) (.inr fun i h => h) h (by kernel_rfl) (AllP.nil) ?_
        intro a w h
        exact ⟨(IntKind.i64.wrap (v50 + (1 : Int))), hF, h.arrive (fz := []) (l := [0, 1, 5]) (.inr fun i h => h) (by kernel_rfl)⟩
    · replace hF := of_f hb hF
      refine wp_exit ?_
      refine wp_reg_seq tok (orc := orcL []) (fz := []) (l := [4]) (c := _) (.inr fun i h => h) h (by kernel_rfl) (AllP.nil) ?_
      intro a w h
      cases hF
      exact wp_ret (ret_okR tok h rfl (by kernel_rfl)).1

def f111 (k : Nat) (x0 : (Int × (Int × (Int × (Int × (Int × ByteArray)))))) (x1 : (Int × (Int × (Int × (Int × (Int × ByteArray)))))) : Option Bool := if ((x0.1 : Int) != x1.1) then (some false) else (if ((x0.2.1 : Int) != x1.2.1) then (some false) else (if ((x0.2.2.1 : Int) != x1.2.2.1) then (some false) else (if ((x0.2.2.2.1 : Int) != x1.2.2.2.1) then (some false) else (if ((x0.2.2.2.2.1 : Int) != x1.2.2.2.2.1) then (some false) else (if (!(ByteArray.toList x0.2.2.2.2.2 == ByteArray.toList x1.2.2.2.2.2)) then (some false) else (some true))))))
set_option maxRecDepth 100000 in
/-- 'laws.eqRoad'. -/
theorem c111 (k : Nat) (x0 : (Int × (Int × (Int × (Int × (Int × ByteArray)))))) (x1 : (Int × (Int × (Int × (Int × (Int × ByteArray)))))) (r : Bool) (hF : f111 k x0 x1 = some r) : PCall Try.prog 111 [⟨sh1, x0⟩, ⟨sh1, x1⟩] [⟨.bool, r⟩] := by
  refine pcall_intro Try.func111 rfl rfl (Nat.le_of_ble_eq_true rfl) ?_
  intro w0 Zi a w h
  rw [f111] at hF
  refine wp_reg_seq tok (orc := orcL []) (fz := []) (l := [2, 3]) (c := _) (.inr fun i h => h) h (by kernel_rfl) (AllP.nil) ?_
  intro a w h
  refine wp_seq ?_
  refine wp_reg_seq tok (orc := orcL []) (fz := []) (l := [2, 3, 9]) (c := _) (.inr fun i h => h) h (by kernel_rfl) (AllP.nil) ?_
  intro a w h
  refine wp_if h (b := ((x0.1 : Int) != x1.1)) (by kernel_rfl) (fun hb => ?_) (fun hb => ?_)
  · replace hF := of_t hb hF
    refine wp_reg_seq tok (orc := orcL []) (fz := []) (l := [4]) (c := _) (.inr fun i h => h) h (by kernel_rfl) (AllP.nil) ?_
    intro a w h
    cases hF
    exact wp_ret (ret_okR tok h rfl (by kernel_rfl)).1
  · replace hF := of_f hb hF
    refine wp_skip ?_
    refine wp_seq ?_
    refine wp_reg_seq tok (orc := orcL []) (fz := []) (l := [2, 3, 14]) (c := _) (.inr fun i h => h) h (by kernel_rfl) (AllP.nil) ?_
    intro a w h
    refine wp_if h (b := ((x0.2.1 : Int) != x1.2.1)) (by kernel_rfl) (fun hb => ?_) (fun hb => ?_)
    · replace hF := of_t hb hF
      refine wp_reg_seq tok (orc := orcL []) (fz := []) (l := [4]) (c := _) (.inr fun i h => h) h (by kernel_rfl) (AllP.nil) ?_
      intro a w h
      cases hF
      exact wp_ret (ret_okR tok h rfl (by kernel_rfl)).1
    · replace hF := of_f hb hF
      refine wp_skip ?_
      refine wp_seq ?_
      refine wp_reg_seq tok (orc := orcL []) (fz := []) (l := [2, 3, 19]) (c := _) (.inr fun i h => h) h (by kernel_rfl) (AllP.nil) ?_
      intro a w h
      refine wp_if h (b := ((x0.2.2.1 : Int) != x1.2.2.1)) (by kernel_rfl) (fun hb => ?_) (fun hb => ?_)
      · replace hF := of_t hb hF
        refine wp_reg_seq tok (orc := orcL []) (fz := []) (l := [4]) (c := _) (.inr fun i h => h) h (by kernel_rfl) (AllP.nil) ?_
        intro a w h
        cases hF
        exact wp_ret (ret_okR tok h rfl (by kernel_rfl)).1
      · replace hF := of_f hb hF
        refine wp_skip ?_
        refine wp_seq ?_
        refine wp_reg_seq tok (orc := orcL []) (fz := []) (l := [2, 3, 24]) (c := _) (.inr fun i h => h) h (by kernel_rfl) (AllP.nil) ?_
        intro a w h
        refine wp_if h (b := ((x0.2.2.2.1 : Int) != x1.2.2.2.1)) (by kernel_rfl) (fun hb => ?_) (fun hb => ?_)
        · replace hF := of_t hb hF
          refine wp_reg_seq tok (orc := orcL []) (fz := []) (l := [4]) (c := _) (.inr fun i h => h) h (by kernel_rfl) (AllP.nil) ?_
          intro a w h
          cases hF
          exact wp_ret (ret_okR tok h rfl (by kernel_rfl)).1
        · replace hF := of_f hb hF
          refine wp_skip ?_
          refine wp_seq ?_
          refine wp_reg_seq tok (orc := orcL []) (fz := []) (l := [2, 3, 29]) (c := _) (.inr fun i h => h) h (by kernel_rfl) (AllP.nil) ?_
          intro a w h
          refine wp_if h (b := ((x0.2.2.2.2.1 : Int) != x1.2.2.2.2.1)) (by kernel_rfl) (fun hb => ?_) (fun hb => ?_)
          · replace hF := of_t hb hF
            refine wp_reg_seq tok (orc := orcL []) (fz := []) (l := [4]) (c := _) (.inr fun i h => h) h (by kernel_rfl) (AllP.nil) ?_
            intro a w h
            cases hF
            exact wp_ret (ret_okR tok h rfl (by kernel_rfl)).1
          · replace hF := of_f hb hF
            refine wp_skip ?_
            refine wp_seq ?_
            refine wp_reg_seq tok (orc := orcL []) (fz := []) (l := [34]) (c := _) (.inr fun i h => h) h (by kernel_rfl) (AllP.nil) ?_
            intro a w h
            refine wp_if h (b := (!(ByteArray.toList x0.2.2.2.2.2 == ByteArray.toList x1.2.2.2.2.2))) (by kernel_rfl) (fun hb => ?_) (fun hb => ?_)
            · replace hF := of_t hb hF
              refine wp_reg_seq tok (orc := orcL []) (fz := []) (l := [4]) (c := _) (.inr fun i h => h) h (by kernel_rfl) (AllP.nil) ?_
              intro a w h
              cases hF
              exact wp_ret (ret_okR tok h rfl (by kernel_rfl)).1
            · replace hF := of_f hb hF
              refine wp_skip ?_
              refine wp_reg_seq tok (orc := orcL []) (fz := []) (l := [4]) (c := _) (.inr fun i h => h) h (by kernel_rfl) (AllP.nil) ?_
              intro a w h
              cases hF
              exact wp_ret (ret_okR tok h rfl (by kernel_rfl)).1

def f68.l30 (k : Nat) (x0 : (List (Int × (Int × (Int × (Int × (Int × ByteArray))))))) (x1 : (List (Int × (Int × (Int × (Int × (Int × ByteArray))))))) : Nat → Int → Option Bool
  | 0, _ => none
  | m30 + 1, v50 => if (decide ((v50 : Int) < (List.length x0 : Int))) then (if (0 ≤ v50 ∧ v50 < (List.length x0 : Int)) then (if (0 ≤ v50 ∧ v50 < (List.length x1 : Int)) then ((f111 k (List.getD x0 (Int.toNat v50) ((0 : Int), ((0 : Int), ((0 : Int), ((0 : Int), ((0 : Int), (⟨#[]⟩ : ByteArray))))))) (List.getD x1 (Int.toNat v50) ((0 : Int), ((0 : Int), ((0 : Int), ((0 : Int), ((0 : Int), (⟨#[]⟩ : ByteArray)))))))).bind fun r55 => (if (!r55) then (some false) else ((f68.l30 k x0 x1) m30 (IntKind.i64.wrap (v50 + (1 : Int)))))) else none) else none) else (some true)
def f68 (k : Nat) (x0 : (List (Int × (Int × (Int × (Int × (Int × ByteArray))))))) (x1 : (List (Int × (Int × (Int × (Int × (Int × ByteArray))))))) : Option Bool := if (((List.length x0 : Int) : Int) != (List.length x1 : Int)) then (some false) else (f68.l30 k x0 x1 k (0 : Int))
set_option maxRecDepth 100000 in
/-- 'laws.eqRoadS'. -/
theorem c68 (k : Nat) (x0 : (List (Int × (Int × (Int × (Int × (Int × ByteArray))))))) (x1 : (List (Int × (Int × (Int × (Int × (Int × ByteArray))))))) (r : Bool) (hF : f68 k x0 x1 = some r) : PCall Try.prog 68 [⟨sh14, x0⟩, ⟨sh14, x1⟩] [⟨.bool, r⟩] := by
  refine pcall_intro Try.func68 rfl rfl (Nat.le_of_ble_eq_true rfl) ?_
  intro w0 Zi a w h
  rw [f68] at hF
  refine wp_reg_seq tok (orc := orcL []) (fz := []) (l := [0, 1]) (c := _) (.inr fun i h => h) h (by kernel_rfl) (AllP.nil) ?_
  intro a w h
  refine wp_seq ?_
  refine wp_reg_seq tok (orc := orcL []) (fz := []) (l := [0, 1, 10]) (c := _) (.inr fun i h => h) h (by kernel_rfl) (AllP.nil) ?_
  intro a w h
  refine wp_if h (b := (((List.length x0 : Int) : Int) != (List.length x1 : Int))) (by kernel_rfl) (fun hb => ?_) (fun hb => ?_)
  · replace hF := of_t hb hF
    refine wp_reg_seq tok (orc := orcL []) (fz := []) (l := [4]) (c := _) (.inr fun i h => h) h (by kernel_rfl) (AllP.nil) ?_
    intro a w h
    cases hF
    exact wp_ret (ret_okR tok h rfl (by kernel_rfl)).1
  · replace hF := of_f hb hF
    refine wp_skip ?_
    refine wp_seq ?_
    refine wp_reg_seq tok (orc := orcL []) (fz := []) (l := [0, 1, 5]) (c := _) (.inr fun i h => h) h (by kernel_rfl) (AllP.nil) ?_
    intro a w h
    refine wp_block ?_
    refine wp_loop_fuel (f68.l30 k x0 x1) (fun (v50 : Int) => [(0, .val sh14 x0), (1, .val sh14 x1), (5, .val (.int .i64) v50)]) (fun v h => by rw [f68.l30] at h; cases h) ?_ hF (h.arrive (fz := []) (l := [0, 1, 5]) (.inr fun i h => h) (by kernel_rfl))
    intro m30 v50 a w hF h
    rw [f68.l30] at hF
    refine wp_seq ?_
    refine wp_reg_seq tok (orc := orcL []) (fz := []) (l := [0, 1, 5, 14]) (c := _) (.inr fun i h => h) h (by kernel_rfl) (AllP.nil) ?_
    intro a w h
    refine wp_if h (b := (decide ((v50 : Int) < (List.length x0 : Int)))) (by kernel_rfl) (fun hb => ?_) (fun hb => ?_)
    · replace hF := of_t hb hF
      refine wp_skip ?_
      refine wp_seq <| wp_block ?_
      obtain ⟨hc56, hF⟩ := of_if hF
      obtain ⟨hc57, hF⟩ := of_if hF
      obtain ⟨r55, hr58, hF⟩ := of_bind hF
      refine wp_regy_seq tok (orc := orcL [(25, [⟨.bool, r55⟩])]) (fz := []) (l := [0, 1, 5, 26]) (c := _) ([], [], [], []) 10 (.inr fun i h => h) h (by kernel_rfl) (by kernel_rfl) (AllP.cons hc56 (AllP.cons hc57 (AllP.cons (c111 k (List.getD x0 (Int.toNat v50) ((0 : Int), ((0 : Int), ((0 : Int), ((0 : Int), ((0 : Int), (⟨#[]⟩ : ByteArray))))))) (List.getD x1 (Int.toNat v50) ((0 : Int), ((0 : Int), ((0 : Int), ((0 : Int), ((0 : Int), (⟨#[]⟩ : ByteArray))))))) r55 hr58) AllP.nil))) ?_
      intro a w h
      refine wp_if h (b := (!r55)) (by kernel_rfl) (fun hb => ?_) (fun hb => ?_)
      · replace hF := of_t hb hF
        refine wp_reg_seq tok (orc := orcL []) (fz := []) (l := [4]) (c := _) (.inr fun i h => h) h (by kernel_rfl) (AllP.nil) ?_
        intro a w h
        cases hF
        exact wp_ret (ret_okR tok h rfl (by kernel_rfl)).1
      · replace hF := of_f hb hF
        refine wp_skip ?_
        refine wp_reg tok (orc := orcL []) (fz := []) (l := [0, 1, 5]) (c := _) (.inr fun i h => h) h (by kernel_rfl) (AllP.nil) ?_
        intro a w h
        exact ⟨(IntKind.i64.wrap (v50 + (1 : Int))), hF, h.arrive (fz := []) (l := [0, 1, 5]) (.inr fun i h => h) (by kernel_rfl)⟩
    · replace hF := of_f hb hF
      refine wp_exit ?_
      refine wp_reg_seq tok (orc := orcL []) (fz := []) (l := [4]) (c := _) (.inr fun i h => h) h (by kernel_rfl) (AllP.nil) ?_
      intro a w h
      cases hF
      exact wp_ret (ret_okR tok h rfl (by kernel_rfl)).1

def f112 (k : Nat) (x0 : (Int × Int)) (x1 : (Int × Int)) : Option Bool := if ((x0.1 : Int) != x1.1) then (some false) else (if ((x0.2 : Int) != x1.2) then (some false) else (some true))
set_option maxRecDepth 100000 in
/-- 'laws.eqBan'. -/
theorem c112 (k : Nat) (x0 : (Int × Int)) (x1 : (Int × Int)) (r : Bool) (hF : f112 k x0 x1 = some r) : PCall Try.prog 112 [⟨sh5, x0⟩, ⟨sh5, x1⟩] [⟨.bool, r⟩] := by
  refine pcall_intro Try.func112 rfl rfl (Nat.le_of_ble_eq_true rfl) ?_
  intro w0 Zi a w h
  rw [f112] at hF
  refine wp_reg_seq tok (orc := orcL []) (fz := []) (l := [2, 3]) (c := _) (.inr fun i h => h) h (by kernel_rfl) (AllP.nil) ?_
  intro a w h
  refine wp_seq ?_
  refine wp_reg_seq tok (orc := orcL []) (fz := []) (l := [2, 3, 9]) (c := _) (.inr fun i h => h) h (by kernel_rfl) (AllP.nil) ?_
  intro a w h
  refine wp_if h (b := ((x0.1 : Int) != x1.1)) (by kernel_rfl) (fun hb => ?_) (fun hb => ?_)
  · replace hF := of_t hb hF
    refine wp_reg_seq tok (orc := orcL []) (fz := []) (l := [4]) (c := _) (.inr fun i h => h) h (by kernel_rfl) (AllP.nil) ?_
    intro a w h
    cases hF
    exact wp_ret (ret_okR tok h rfl (by kernel_rfl)).1
  · replace hF := of_f hb hF
    refine wp_skip ?_
    refine wp_seq ?_
    refine wp_reg_seq tok (orc := orcL []) (fz := []) (l := [14]) (c := _) (.inr fun i h => h) h (by kernel_rfl) (AllP.nil) ?_
    intro a w h
    refine wp_if h (b := ((x0.2 : Int) != x1.2)) (by kernel_rfl) (fun hb => ?_) (fun hb => ?_)
    · replace hF := of_t hb hF
      refine wp_reg_seq tok (orc := orcL []) (fz := []) (l := [4]) (c := _) (.inr fun i h => h) h (by kernel_rfl) (AllP.nil) ?_
      intro a w h
      cases hF
      exact wp_ret (ret_okR tok h rfl (by kernel_rfl)).1
    · replace hF := of_f hb hF
      refine wp_skip ?_
      refine wp_reg_seq tok (orc := orcL []) (fz := []) (l := [4]) (c := _) (.inr fun i h => h) h (by kernel_rfl) (AllP.nil) ?_
      intro a w h
      cases hF
      exact wp_ret (ret_okR tok h rfl (by kernel_rfl)).1

def f69.l30 (k : Nat) (x0 : (List (Int × Int))) (x1 : (List (Int × Int))) : Nat → Int → Option Bool
  | 0, _ => none
  | m30 + 1, v50 => if (decide ((v50 : Int) < (List.length x0 : Int))) then (if (0 ≤ v50 ∧ v50 < (List.length x0 : Int)) then (if (0 ≤ v50 ∧ v50 < (List.length x1 : Int)) then ((f112 k (List.getD x0 (Int.toNat v50) ((0 : Int), (0 : Int))) (List.getD x1 (Int.toNat v50) ((0 : Int), (0 : Int)))).bind fun r55 => (if (!r55) then (some false) else ((f69.l30 k x0 x1) m30 (IntKind.i64.wrap (v50 + (1 : Int)))))) else none) else none) else (some true)
def f69 (k : Nat) (x0 : (List (Int × Int))) (x1 : (List (Int × Int))) : Option Bool := if (((List.length x0 : Int) : Int) != (List.length x1 : Int)) then (some false) else (f69.l30 k x0 x1 k (0 : Int))
set_option maxRecDepth 100000 in
/-- 'laws.eqBanS'. -/
theorem c69 (k : Nat) (x0 : (List (Int × Int))) (x1 : (List (Int × Int))) (r : Bool) (hF : f69 k x0 x1 = some r) : PCall Try.prog 69 [⟨sh15, x0⟩, ⟨sh15, x1⟩] [⟨.bool, r⟩] := by
  refine pcall_intro Try.func69 rfl rfl (Nat.le_of_ble_eq_true rfl) ?_
  intro w0 Zi a w h
  rw [f69] at hF
  refine wp_reg_seq tok (orc := orcL []) (fz := []) (l := [0, 1]) (c := _) (.inr fun i h => h) h (by kernel_rfl) (AllP.nil) ?_
  intro a w h
  refine wp_seq ?_
  refine wp_reg_seq tok (orc := orcL []) (fz := []) (l := [0, 1, 10]) (c := _) (.inr fun i h => h) h (by kernel_rfl) (AllP.nil) ?_
  intro a w h
  refine wp_if h (b := (((List.length x0 : Int) : Int) != (List.length x1 : Int))) (by kernel_rfl) (fun hb => ?_) (fun hb => ?_)
  · replace hF := of_t hb hF
    refine wp_reg_seq tok (orc := orcL []) (fz := []) (l := [4]) (c := _) (.inr fun i h => h) h (by kernel_rfl) (AllP.nil) ?_
    intro a w h
    cases hF
    exact wp_ret (ret_okR tok h rfl (by kernel_rfl)).1
  · replace hF := of_f hb hF
    refine wp_skip ?_
    refine wp_seq ?_
    refine wp_reg_seq tok (orc := orcL []) (fz := []) (l := [0, 1, 5]) (c := _) (.inr fun i h => h) h (by kernel_rfl) (AllP.nil) ?_
    intro a w h
    refine wp_block ?_
    refine wp_loop_fuel (f69.l30 k x0 x1) (fun (v50 : Int) => [(0, .val sh15 x0), (1, .val sh15 x1), (5, .val (.int .i64) v50)]) (fun v h => by rw [f69.l30] at h; cases h) ?_ hF (h.arrive (fz := []) (l := [0, 1, 5]) (.inr fun i h => h) (by kernel_rfl))
    intro m30 v50 a w hF h
    rw [f69.l30] at hF
    refine wp_seq ?_
    refine wp_reg_seq tok (orc := orcL []) (fz := []) (l := [0, 1, 5, 14]) (c := _) (.inr fun i h => h) h (by kernel_rfl) (AllP.nil) ?_
    intro a w h
    refine wp_if h (b := (decide ((v50 : Int) < (List.length x0 : Int)))) (by kernel_rfl) (fun hb => ?_) (fun hb => ?_)
    · replace hF := of_t hb hF
      refine wp_skip ?_
      refine wp_seq <| wp_block ?_
      obtain ⟨hc56, hF⟩ := of_if hF
      obtain ⟨hc57, hF⟩ := of_if hF
      obtain ⟨r55, hr58, hF⟩ := of_bind hF
      refine wp_regy_seq tok (orc := orcL [(25, [⟨.bool, r55⟩])]) (fz := []) (l := [0, 1, 5, 26]) (c := _) ([], [], [], []) 10 (.inr fun i h => h) h (by kernel_rfl) (by kernel_rfl) (AllP.cons hc56 (AllP.cons hc57 (AllP.cons (c112 k (List.getD x0 (Int.toNat v50) ((0 : Int), (0 : Int))) (List.getD x1 (Int.toNat v50) ((0 : Int), (0 : Int))) r55 hr58) AllP.nil))) ?_
      intro a w h
      refine wp_if h (b := (!r55)) (by kernel_rfl) (fun hb => ?_) (fun hb => ?_)
      · replace hF := of_t hb hF
        refine wp_reg_seq tok (orc := orcL []) (fz := []) (l := [4]) (c := _) (.inr fun i h => h) h (by kernel_rfl) (AllP.nil) ?_
        intro a w h
        cases hF
        exact wp_ret (ret_okR tok h rfl (by kernel_rfl)).1
      · replace hF := of_f hb hF
        refine wp_skip ?_
        refine wp_reg tok (orc := orcL []) (fz := []) (l := [0, 1, 5]) (c := _) (.inr fun i h => h) h (by kernel_rfl) (AllP.nil) ?_
        intro a w h
        exact ⟨(IntKind.i64.wrap (v50 + (1 : Int))), hF, h.arrive (fz := []) (l := [0, 1, 5]) (.inr fun i h => h) (by kernel_rfl)⟩
    · replace hF := of_f hb hF
      refine wp_exit ?_
      refine wp_reg_seq tok (orc := orcL []) (fz := []) (l := [4]) (c := _) (.inr fun i h => h) h (by kernel_rfl) (AllP.nil) ?_
      intro a w h
      cases hF
      exact wp_ret (ret_okR tok h rfl (by kernel_rfl)).1

def f20 (k : Nat) (x0 : ((List (Int × (Int × Int))) × ((List (Int × (Int × (Int × (Int × (Int × ByteArray)))))) × (List (Int × Int))))) (x1 : ((List (Int × (Int × Int))) × ((List (Int × (Int × (Int × (Int × (Int × ByteArray)))))) × (List (Int × Int))))) : Option Bool := (f67 k x0.1 x1.1).bind fun r1 => (if (!r1) then (some false) else ((f68 k x0.2.1 x1.2.1).bind fun r2 => (if (!r2) then (some false) else ((f69 k x0.2.2 x1.2.2).bind fun r3 => (if (!r3) then (some false) else (some true))))))
set_option maxRecDepth 100000 in
/-- 'laws.eqGraph'. -/
theorem c20 (k : Nat) (x0 : ((List (Int × (Int × Int))) × ((List (Int × (Int × (Int × (Int × (Int × ByteArray)))))) × (List (Int × Int))))) (x1 : ((List (Int × (Int × Int))) × ((List (Int × (Int × (Int × (Int × (Int × ByteArray)))))) × (List (Int × Int))))) (r : Bool) (hF : f20 k x0 x1 = some r) : PCall Try.prog 20 [⟨sh12, x0⟩, ⟨sh12, x1⟩] [⟨.bool, r⟩] := by
  refine pcall_intro Try.func20 rfl rfl (Nat.le_of_ble_eq_true rfl) ?_
  intro w0 Zi a w h
  rw [f20] at hF
  refine wp_reg_seq tok (orc := orcL []) (fz := []) (l := [2, 3]) (c := _) (.inr fun i h => h) h (by kernel_rfl) (AllP.nil) ?_
  intro a w h
  refine wp_seq ?_
  obtain ⟨r1, hr6, hF⟩ := of_bind hF
  refine wp_reg_seq tok (orc := orcL [(9, [⟨.bool, r1⟩])]) (fz := []) (l := [2, 3, 10]) (c := _) (.inr fun i h => h) h (by kernel_rfl) (AllP.cons (c67 k x0.1 x1.1 r1 hr6) AllP.nil) ?_
  intro a w h
  refine wp_if h (b := (!r1)) (by kernel_rfl) (fun hb => ?_) (fun hb => ?_)
  · replace hF := of_t hb hF
    refine wp_reg_seq tok (orc := orcL []) (fz := []) (l := [4]) (c := _) (.inr fun i h => h) h (by kernel_rfl) (AllP.nil) ?_
    intro a w h
    cases hF
    exact wp_ret (ret_okR tok h rfl (by kernel_rfl)).1
  · replace hF := of_f hb hF
    refine wp_skip ?_
    refine wp_seq ?_
    obtain ⟨r2, hr5, hF⟩ := of_bind hF
    refine wp_reg_seq tok (orc := orcL [(15, [⟨.bool, r2⟩])]) (fz := []) (l := [2, 3, 16]) (c := _) (.inr fun i h => h) h (by kernel_rfl) (AllP.cons (c68 k x0.2.1 x1.2.1 r2 hr5) AllP.nil) ?_
    intro a w h
    refine wp_if h (b := (!r2)) (by kernel_rfl) (fun hb => ?_) (fun hb => ?_)
    · replace hF := of_t hb hF
      refine wp_reg_seq tok (orc := orcL []) (fz := []) (l := [4]) (c := _) (.inr fun i h => h) h (by kernel_rfl) (AllP.nil) ?_
      intro a w h
      cases hF
      exact wp_ret (ret_okR tok h rfl (by kernel_rfl)).1
    · replace hF := of_f hb hF
      refine wp_skip ?_
      refine wp_seq ?_
      obtain ⟨r3, hr4, hF⟩ := of_bind hF
      refine wp_reg_seq tok (orc := orcL [(21, [⟨.bool, r3⟩])]) (fz := []) (l := [22]) (c := _) (.inr fun i h => h) h (by kernel_rfl) (AllP.cons (c69 k x0.2.2 x1.2.2 r3 hr4) AllP.nil) ?_
      intro a w h
      refine wp_if h (b := (!r3)) (by kernel_rfl) (fun hb => ?_) (fun hb => ?_)
      · replace hF := of_t hb hF
        refine wp_reg_seq tok (orc := orcL []) (fz := []) (l := [4]) (c := _) (.inr fun i h => h) h (by kernel_rfl) (AllP.nil) ?_
        intro a w h
        cases hF
        exact wp_ret (ret_okR tok h rfl (by kernel_rfl)).1
      · replace hF := of_f hb hF
        refine wp_skip ?_
        refine wp_reg_seq tok (orc := orcL []) (fz := []) (l := [4]) (c := _) (.inr fun i h => h) h (by kernel_rfl) (AllP.nil) ?_
        intro a w h
        cases hF
        exact wp_ret (ret_okR tok h rfl (by kernel_rfl)).1

def f21.l18 (k : Nat) (x0 : (List Int)) (x1 : (List Int)) : Nat → Int → Option Bool
  | 0, _ => none
  | m18 + 1, v30 => if (decide ((v30 : Int) < (List.length x0 : Int))) then (if (0 ≤ v30 ∧ v30 < (List.length x0 : Int)) then (if (0 ≤ v30 ∧ v30 < (List.length x1 : Int)) then (if (((List.getD x0 (Int.toNat v30) (0 : Int)) : Int) != (List.getD x1 (Int.toNat v30) (0 : Int))) then (some false) else ((f21.l18 k x0 x1) m18 (IntKind.i64.wrap (v30 + (1 : Int))))) else none) else none) else (some true)
def f21 (k : Nat) (x0 : (List Int)) (x1 : (List Int)) : Option Bool := if (((List.length x0 : Int) : Int) != (List.length x1 : Int)) then (some false) else (f21.l18 k x0 x1 k (0 : Int))
set_option maxRecDepth 100000 in
/-- 'laws.eqInt64S'. -/
theorem c21 (k : Nat) (x0 : (List Int)) (x1 : (List Int)) (r : Bool) (hF : f21 k x0 x1 = some r) : PCall Try.prog 21 [⟨(.sl false 2 (.int .i64)), x0⟩, ⟨(.sl false 2 (.int .i64)), x1⟩] [⟨.bool, r⟩] := by
  refine pcall_intro Try.func21 rfl rfl (Nat.le_of_ble_eq_true rfl) ?_
  intro w0 Zi a w h
  rw [f21] at hF
  refine wp_reg_seq tok (orc := orcL []) (fz := []) (l := [0, 1]) (c := _) (.inr fun i h => h) h (by kernel_rfl) (AllP.nil) ?_
  intro a w h
  refine wp_seq ?_
  refine wp_reg_seq tok (orc := orcL []) (fz := []) (l := [0, 1, 10]) (c := _) (.inr fun i h => h) h (by kernel_rfl) (AllP.nil) ?_
  intro a w h
  refine wp_if h (b := (((List.length x0 : Int) : Int) != (List.length x1 : Int))) (by kernel_rfl) (fun hb => ?_) (fun hb => ?_)
  · replace hF := of_t hb hF
    refine wp_reg_seq tok (orc := orcL []) (fz := []) (l := [4]) (c := _) (.inr fun i h => h) h (by kernel_rfl) (AllP.nil) ?_
    intro a w h
    cases hF
    exact wp_ret (ret_okR tok h rfl (by kernel_rfl)).1
  · replace hF := of_f hb hF
    refine wp_skip ?_
    refine wp_seq ?_
    refine wp_reg_seq tok (orc := orcL []) (fz := []) (l := [0, 1, 5]) (c := _) (.inr fun i h => h) h (by kernel_rfl) (AllP.nil) ?_
    intro a w h
    refine wp_block ?_
    refine wp_loop_fuel (f21.l18 k x0 x1) (fun (v30 : Int) => [(0, .val (.sl false 2 (.int .i64)) x0), (1, .val (.sl false 2 (.int .i64)) x1), (5, .val (.int .i64) v30)]) (fun v h => by rw [f21.l18] at h; cases h) ?_ hF (h.arrive (fz := []) (l := [0, 1, 5]) (.inr fun i h => h) (by kernel_rfl))
    intro m18 v30 a w hF h
    rw [f21.l18] at hF
    refine wp_seq ?_
    refine wp_reg_seq tok (orc := orcL []) (fz := []) (l := [0, 1, 5, 14]) (c := _) (.inr fun i h => h) h (by kernel_rfl) (AllP.nil) ?_
    intro a w h
    refine wp_if h (b := (decide ((v30 : Int) < (List.length x0 : Int)))) (by kernel_rfl) (fun hb => ?_) (fun hb => ?_)
    · replace hF := of_t hb hF
      refine wp_skip ?_
      refine wp_seq <| wp_block ?_
      obtain ⟨hc33, hF⟩ := of_if hF
      obtain ⟨hc34, hF⟩ := of_if hF
      refine wp_regy_seq tok (orc := orcL []) (fz := []) (l := [0, 1, 5, 25]) (c := _) ([], [], [], []) 9 (.inr fun i h => h) h (by kernel_rfl) (by kernel_rfl) (AllP.cons hc33 (AllP.cons hc34 AllP.nil)) ?_
      intro a w h
      refine wp_if h (b := (((List.getD x0 (Int.toNat v30) (0 : Int)) : Int) != (List.getD x1 (Int.toNat v30) (0 : Int)))) (by kernel_rfl) (fun hb => ?_) (fun hb => ?_)
      · replace hF := of_t hb hF
        refine wp_reg_seq tok (orc := orcL []) (fz := []) (l := [4]) (c := _) (.inr fun i h => h) h (by kernel_rfl) (AllP.nil) ?_
        intro a w h
        cases hF
        exact wp_ret (ret_okR tok h rfl (by kernel_rfl)).1
      · replace hF := of_f hb hF
        refine wp_skip ?_
        refine wp_reg tok (orc := orcL []) (fz := []) (l := [0, 1, 5]) (c := _) (.inr fun i h => h) h (by kernel_rfl) (AllP.nil) ?_
        intro a w h
        exact ⟨(IntKind.i64.wrap (v30 + (1 : Int))), hF, h.arrive (fz := []) (l := [0, 1, 5]) (.inr fun i h => h) (by kernel_rfl)⟩
    · replace hF := of_f hb hF
      refine wp_exit ?_
      refine wp_reg_seq tok (orc := orcL []) (fz := []) (l := [4]) (c := _) (.inr fun i h => h) h (by kernel_rfl) (AllP.nil) ?_
      intro a w h
      cases hF
      exact wp_ret (ret_okR tok h rfl (by kernel_rfl)).1

def f4 (k : Nat) (x0 : ((List (Int × (Int × Int))) × ((List (Int × (Int × (Int × (Int × (Int × ByteArray)))))) × (List (Int × Int))))) (x1 : (List Int)) (x2 : (List Int)) : Option Bool := if (decide (((List.length x1 : Int) : Int) > (1048576 : Int))) then (some true) else (if (decide (((List.length x2 : Int) : Int) > (1048576 : Int))) then (some true) else ((f15 k x0 (1048576 : Int)).bind fun r1 => (if (decide ((r1 : Int) < (0 : Int))) then (some true) else ((f17 k x0).bind fun r2 => ((f18 k x1).bind fun r3 => ((f18 k x2).bind fun r4 => ((f22 k r2 r3 r4).bind fun r5 => ((f17 k x0).bind fun r6 => ((f18 k x1).bind fun r7 => ((f18 k x2).bind fun r8 => ((f23 k r6 r7 r8).bind fun r9 => (if ((r9 : Int) != r5) then (some false) else ((f17 k x0).bind fun r10 => ((f20 k r6 r10).bind fun r11 => (if (!r11) then (some false) else ((f18 k x1).bind fun r12 => ((f21 k r7 r12).bind fun r13 => (if (!r13) then (some false) else ((f18 k x2).bind fun r14 => ((f21 k r8 r14).bind fun r15 => (if (!r15) then (some false) else (some true))))))))))))))))))))))
set_option maxRecDepth 100000 in
/-- 'laws.FnExactCommon'. -/
theorem c4 (k : Nat) (x0 : ((List (Int × (Int × Int))) × ((List (Int × (Int × (Int × (Int × (Int × ByteArray)))))) × (List (Int × Int))))) (x1 : (List Int)) (x2 : (List Int)) (r : Bool) (hF : f4 k x0 x1 x2 = some r) : PCall Try.prog 4 [⟨sh4, x0⟩, ⟨(.sl false 2 (.int .i64)), x1⟩, ⟨(.sl false 2 (.int .i64)), x2⟩] [⟨.bool, r⟩] := by
  refine pcall_intro Try.func4 rfl rfl (Nat.le_of_ble_eq_true rfl) ?_
  intro w0 Zi a w h
  rw [f4] at hF
  refine wp_reg_seq tok (orc := orcL []) (fz := []) (l := [1, 2, 3]) (c := _) (.inr fun i h => h) h (by kernel_rfl) (AllP.nil) ?_
  intro a w h
  refine wp_seq ?_
  refine wp_reg_seq tok (orc := orcL []) (fz := []) (l := [1, 2, 3, 15]) (c := _) (.inr fun i h => h) h (by kernel_rfl) (AllP.nil) ?_
  intro a w h
  refine wp_if h (b := (decide (((List.length x1 : Int) : Int) > (1048576 : Int)))) (by kernel_rfl) (fun hb => ?_) (fun hb => ?_)
  · replace hF := of_t hb hF
    refine wp_reg_seq tok (orc := orcL []) (fz := []) (l := [6]) (c := _) (.inr fun i h => h) h (by kernel_rfl) (AllP.nil) ?_
    intro a w h
    cases hF
    exact wp_ret (ret_okR tok h rfl (by kernel_rfl)).1
  · replace hF := of_f hb hF
    refine wp_skip ?_
    refine wp_seq ?_
    refine wp_reg_seq tok (orc := orcL []) (fz := []) (l := [1, 2, 3, 18]) (c := _) (.inr fun i h => h) h (by kernel_rfl) (AllP.nil) ?_
    intro a w h
    refine wp_if h (b := (decide (((List.length x2 : Int) : Int) > (1048576 : Int)))) (by kernel_rfl) (fun hb => ?_) (fun hb => ?_)
    · replace hF := of_t hb hF
      refine wp_reg_seq tok (orc := orcL []) (fz := []) (l := [6]) (c := _) (.inr fun i h => h) h (by kernel_rfl) (AllP.nil) ?_
      intro a w h
      cases hF
      exact wp_ret (ret_okR tok h rfl (by kernel_rfl)).1
    · replace hF := of_f hb hF
      refine wp_skip ?_
      refine wp_reg_seq tok (orc := orcL []) (fz := []) (l := [1, 2, 3, 7]) (c := _) (.inr fun i h => h) h (by kernel_rfl) (AllP.nil) ?_
      intro a w h
      obtain ⟨r1, hr30, hF⟩ := of_bind hF
      refine wp_reg_seq tok (orc := orcL [(21, [⟨(.int .i64), r1⟩])]) (fz := []) (l := [1, 2, 3, 7]) (c := _) (.inr fun i h => h) h (by kernel_rfl) (AllP.cons (c15 k x0 (1048576 : Int) r1 hr30) AllP.nil) ?_
      intro a w h
      refine wp_seq ?_
      refine wp_reg_seq tok (orc := orcL []) (fz := []) (l := [1, 2, 3, 23]) (c := _) (.inr fun i h => h) h (by kernel_rfl) (AllP.nil) ?_
      intro a w h
      refine wp_if h (b := (decide ((r1 : Int) < (0 : Int)))) (by kernel_rfl) (fun hb => ?_) (fun hb => ?_)
      · replace hF := of_t hb hF
        refine wp_reg_seq tok (orc := orcL []) (fz := []) (l := [6]) (c := _) (.inr fun i h => h) h (by kernel_rfl) (AllP.nil) ?_
        intro a w h
        cases hF
        exact wp_ret (ret_okR tok h rfl (by kernel_rfl)).1
      · replace hF := of_f hb hF
        refine wp_skip ?_
        obtain ⟨r2, hr26, hF⟩ := of_bind hF
        obtain ⟨r3, hr27, hF⟩ := of_bind hF
        obtain ⟨r4, hr28, hF⟩ := of_bind hF
        obtain ⟨r5, hr29, hF⟩ := of_bind hF
        refine wp_reg_seq tok (orc := orcL [(25, [⟨sh10, r2⟩]), (27, [⟨(.sl true 2 (.int .i64)), r3⟩]), (29, [⟨(.sl true 2 (.int .i64)), r4⟩]), (30, [⟨(.int .i64), r5⟩])]) (fz := []) (l := [1, 2, 3, 8]) (c := _) (.inr fun i h => h) h (by kernel_rfl) (AllP.cons (c17 k x0 r2 hr26) (AllP.cons (c18 k x1 r3 hr27) (AllP.cons (c18 k x2 r4 hr28) (AllP.cons (c22 k r2 r3 r4 r5 hr29) AllP.nil)))) ?_
        intro a w h
        obtain ⟨r6, hr25, hF⟩ := of_bind hF
        refine wp_reg_seq tok (orc := orcL [(32, [⟨sh10, r6⟩])]) (fz := []) (l := [1, 2, 3, 8, 9]) (c := _) (.inr fun i h => h) h (by kernel_rfl) (AllP.cons (c17 k x0 r6 hr25) AllP.nil) ?_
        intro a w h
        obtain ⟨r7, hr24, hF⟩ := of_bind hF
        refine wp_reg_seq tok (orc := orcL [(34, [⟨(.sl true 2 (.int .i64)), r7⟩])]) (fz := []) (l := [1, 2, 3, 8, 9, 10]) (c := _) (.inr fun i h => h) h (by kernel_rfl) (AllP.cons (c18 k x1 r7 hr24) AllP.nil) ?_
        intro a w h
        obtain ⟨r8, hr23, hF⟩ := of_bind hF
        refine wp_reg_seq tok (orc := orcL [(36, [⟨(.sl true 2 (.int .i64)), r8⟩])]) (fz := []) (l := [1, 2, 3, 8, 9, 10, 11]) (c := _) (.inr fun i h => h) h (by kernel_rfl) (AllP.cons (c18 k x2 r8 hr23) AllP.nil) ?_
        intro a w h
        obtain ⟨r9, hr22, hF⟩ := of_bind hF
        refine wp_reg_seq tok (orc := orcL [(40, [⟨(.int .i64), r9⟩])]) (fz := []) (l := [1, 2, 3, 8, 9, 10, 11, 12]) (c := _) (.inr fun i h => h) h (by kernel_rfl) (AllP.cons (c23 k r6 r7 r8 r9 hr22) AllP.nil) ?_
        intro a w h
        refine wp_seq ?_
        refine wp_reg_seq tok (orc := orcL []) (fz := []) (l := [1, 2, 3, 9, 10, 11, 43]) (c := _) (.inr fun i h => h) h (by kernel_rfl) (AllP.nil) ?_
        intro a w h
        refine wp_if h (b := ((r9 : Int) != r5)) (by kernel_rfl) (fun hb => ?_) (fun hb => ?_)
        · replace hF := of_t hb hF
          refine wp_reg_seq tok (orc := orcL []) (fz := []) (l := [6]) (c := _) (.inr fun i h => h) h (by kernel_rfl) (AllP.nil) ?_
          intro a w h
          cases hF
          exact wp_ret (ret_okR tok h rfl (by kernel_rfl)).1
        · replace hF := of_f hb hF
          refine wp_skip ?_
          refine wp_seq ?_
          obtain ⟨r10, hr20, hF⟩ := of_bind hF
          obtain ⟨r11, hr21, hF⟩ := of_bind hF
          refine wp_regy_seq tok (orc := orcL [(46, [⟨sh10, r10⟩]), (47, [⟨.bool, r11⟩])]) (fz := []) (l := [1, 2, 10, 11, 48]) (c := _) ([], [], [], []) 5 (.inr fun i h => h) h (by kernel_rfl) (by kernel_rfl) (AllP.cons (c17 k x0 r10 hr20) (AllP.cons (c20 k r6 r10 r11 hr21) AllP.nil)) ?_
          intro a w h
          refine wp_if h (b := (!r11)) (by kernel_rfl) (fun hb => ?_) (fun hb => ?_)
          · replace hF := of_t hb hF
            refine wp_reg_seq tok (orc := orcL []) (fz := []) (l := [6]) (c := _) (.inr fun i h => h) h (by kernel_rfl) (AllP.nil) ?_
            intro a w h
            cases hF
            exact wp_ret (ret_okR tok h rfl (by kernel_rfl)).1
          · replace hF := of_f hb hF
            refine wp_skip ?_
            refine wp_seq ?_
            obtain ⟨r12, hr18, hF⟩ := of_bind hF
            obtain ⟨r13, hr19, hF⟩ := of_bind hF
            refine wp_reg_seq tok (orc := orcL [(51, [⟨(.sl true 2 (.int .i64)), r12⟩]), (52, [⟨.bool, r13⟩])]) (fz := []) (l := [2, 11, 53]) (c := _) (.inr fun i h => h) h (by kernel_rfl) (AllP.cons (c18 k x1 r12 hr18) (AllP.cons (c21 k r7 r12 r13 hr19) AllP.nil)) ?_
            intro a w h
            refine wp_if h (b := (!r13)) (by kernel_rfl) (fun hb => ?_) (fun hb => ?_)
            · replace hF := of_t hb hF
              refine wp_reg_seq tok (orc := orcL []) (fz := []) (l := [6]) (c := _) (.inr fun i h => h) h (by kernel_rfl) (AllP.nil) ?_
              intro a w h
              cases hF
              exact wp_ret (ret_okR tok h rfl (by kernel_rfl)).1
            · replace hF := of_f hb hF
              refine wp_skip ?_
              refine wp_seq ?_
              obtain ⟨r14, hr16, hF⟩ := of_bind hF
              obtain ⟨r15, hr17, hF⟩ := of_bind hF
              refine wp_reg_seq tok (orc := orcL [(56, [⟨(.sl true 2 (.int .i64)), r14⟩]), (57, [⟨.bool, r15⟩])]) (fz := []) (l := [58]) (c := _) (.inr fun i h => h) h (by kernel_rfl) (AllP.cons (c18 k x2 r14 hr16) (AllP.cons (c21 k r8 r14 r15 hr17) AllP.nil)) ?_
              intro a w h
              refine wp_if h (b := (!r15)) (by kernel_rfl) (fun hb => ?_) (fun hb => ?_)
              · replace hF := of_t hb hF
                refine wp_reg_seq tok (orc := orcL []) (fz := []) (l := [6]) (c := _) (.inr fun i h => h) h (by kernel_rfl) (AllP.nil) ?_
                intro a w h
                cases hF
                exact wp_ret (ret_okR tok h rfl (by kernel_rfl)).1
              · replace hF := of_f hb hF
                refine wp_skip ?_
                refine wp_reg_seq tok (orc := orcL []) (fz := []) (l := [6]) (c := _) (.inr fun i h => h) h (by kernel_rfl) (AllP.nil) ?_
                intro a w h
                cases hF
                exact wp_ret (ret_okR tok h rfl (by kernel_rfl)).1
end Go.Proofs.Ytjfledckleeoaaa.V
