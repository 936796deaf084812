/-
  THE CONTRACTS OF SOME FUNCTIONS OF THIS SEAT, PRINTED BY A PROGRAM OF THIS PROJECT (wip/gen/vgen.py).
-/
import Derived.Test.YtjfledckleeoaaaProg
import Derived.Test.YtjfledckleeoaaaVmW
import Derived.Test.YtjfledckleeoaaaVmZ
import Derived.KernelRfl
set_option linter.unusedVariables false
open Go Go.Vm Go.Proofs
namespace Go.Proofs.Ytjfledckleeoaaa.V
abbrev sh0 : Sh := (.sl false 114 (.st (.pair (.int .i64) (.st (.pair (.int .i64) (.int .i64))))))
abbrev sh1 : Sh := (.st (.pair (.int .i64) (.pair (.int .i64) (.pair (.int .i64) (.pair (.int .i64) (.pair (.int .i64) .str))))))
abbrev sh2 : Sh := (.sl false 103 (.st (.pair (.int .i64) (.pair (.int .i64) (.pair (.int .i64) (.pair (.int .i64) (.pair (.int .i64) .str)))))))
abbrev sh3 : Sh := (.sl false 117 (.st (.pair (.int .i64) (.int .i64))))
abbrev sh4 : Sh := (.st (.pair (.sl false 114 (.st (.pair (.int .i64) (.st (.pair (.int .i64) (.int .i64)))))) (.pair (.sl false 103 (.st (.pair (.int .i64) (.pair (.int .i64) (.pair (.int .i64) (.pair (.int .i64) (.pair (.int .i64) .str))))))) (.sl false 117 (.st (.pair (.int .i64) (.int .i64)))))))
abbrev sh5 : Sh := (.st (.pair (.int .i64) (.int .i64)))
abbrev sh6 : Sh := (.st (.pair (.int .i64) (.st (.pair (.int .i64) (.int .i64)))))
abbrev sh7 : Sh := (.sl true 107 (.st (.pair (.int .i64) (.st (.pair (.int .i64) (.int .i64))))))
abbrev sh8 : Sh := (.sl true 79 (.st (.pair (.int .i64) (.pair (.int .i64) (.pair (.int .i64) (.pair (.int .i64) (.pair (.int .i64) .str)))))))
abbrev sh9 : Sh := (.sl true 82 (.st (.pair (.int .i64) (.int .i64))))
abbrev sh10 : Sh := (.st (.pair (.sl true 107 (.st (.pair (.int .i64) (.st (.pair (.int .i64) (.int .i64)))))) (.pair (.sl true 79 (.st (.pair (.int .i64) (.pair (.int .i64) (.pair (.int .i64) (.pair (.int .i64) (.pair (.int .i64) .str))))))) (.sl true 82 (.st (.pair (.int .i64) (.int .i64)))))))
abbrev sh11 : Sh := (.pt true 34 (.st (.pair (.sl false 107 (.st (.pair (.int .i64) (.st (.pair (.int .i64) (.int .i64)))))) (.pair (.sl false 79 (.st (.pair (.int .i64) (.pair (.int .i64) (.pair (.int .i64) (.pair (.int .i64) (.pair (.int .i64) .str))))))) (.sl false 82 (.st (.pair (.int .i64) (.int .i64))))))))
abbrev sh12 : Sh := (.st (.pair (.sl false 107 (.st (.pair (.int .i64) (.st (.pair (.int .i64) (.int .i64)))))) (.pair (.sl false 79 (.st (.pair (.int .i64) (.pair (.int .i64) (.pair (.int .i64) (.pair (.int .i64) (.pair (.int .i64) .str))))))) (.sl false 82 (.st (.pair (.int .i64) (.int .i64)))))))
abbrev sh13 : Sh := (.sl true 27 (.sl true 2 (.int .i64)))
abbrev sh14 : Sh := (.pt true 82 (.st (.pair (.int .i64) (.int .i64))))
abbrev sh15 : Sh := (.sl false 27 (.sl false 2 (.int .i64)))
abbrev sh16 : Sh := (.sl false 107 (.st (.pair (.int .i64) (.st (.pair (.int .i64) (.int .i64))))))
abbrev sh17 : Sh := (.sl false 79 (.st (.pair (.int .i64) (.pair (.int .i64) (.pair (.int .i64) (.pair (.int .i64) (.pair (.int .i64) .str)))))))
abbrev sh18 : Sh := (.sl false 82 (.st (.pair (.int .i64) (.int .i64))))
abbrev sh19 : Sh := (.pt true 120 (.st (.pair (.st (.pair (.sl false 107 (.st (.pair (.int .i64) (.st (.pair (.int .i64) (.int .i64)))))) (.pair (.sl false 79 (.st (.pair (.int .i64) (.pair (.int .i64) (.pair (.int .i64) (.pair (.int .i64) (.pair (.int .i64) .str))))))) (.sl false 82 (.st (.pair (.int .i64) (.int .i64))))))) (.pair (.sl true 27 (.sl true 2 (.int .i64))) (.pair (.sl true 27 (.sl true 2 (.int .i64))) (.mp true (.st (.pair (.int .i64) (.int .i64))) .bool))))))
abbrev sh20 : Sh := (.pt false 0 (.st (.pair (.st (.pair (.sl false 107 (.st (.pair (.int .i64) (.st (.pair (.int .i64) (.int .i64)))))) (.pair (.sl false 79 (.st (.pair (.int .i64) (.pair (.int .i64) (.pair (.int .i64) (.pair (.int .i64) (.pair (.int .i64) .str))))))) (.sl false 82 (.st (.pair (.int .i64) (.int .i64))))))) (.pair (.sl false 27 (.sl false 2 (.int .i64))) (.pair (.sl false 27 (.sl false 2 (.int .i64))) (.mp false (.st (.pair (.int .i64) (.int .i64))) .bool))))))
def tbl : Tbl := [⟨2, .int .i64, 1, 8, (.int .i64)⟩,
  ⟨3, .int .i64, 1, 8, (.int .i64)⟩,
  ⟨4, .bool, 1, 1, .bool⟩,
  ⟨9, .string, 1, 16, .str⟩,
  ⟨22, .slice 114, 1, 24, (.sl true 114 (.st (.pair (.int .i64) (.st (.pair (.int .i64) (.int .i64))))))⟩,
  ⟨23, .slice 103, 1, 24, (.sl true 103 (.st (.pair (.int .i64) (.pair (.int .i64) (.pair (.int .i64) (.pair (.int .i64) (.pair (.int .i64) .str)))))))⟩,
  ⟨24, .slice 117, 1, 24, (.sl true 117 (.st (.pair (.int .i64) (.int .i64))))⟩,
  ⟨26, .struct [(22, 0), (23, 1), (24, 2)], 3, 72, (.st (.pair (.sl true 114 (.st (.pair (.int .i64) (.st (.pair (.int .i64) (.int .i64)))))) (.pair (.sl true 103 (.st (.pair (.int .i64) (.pair (.int .i64) (.pair (.int .i64) (.pair (.int .i64) (.pair (.int .i64) .str))))))) (.sl true 117 (.st (.pair (.int .i64) (.int .i64)))))))⟩,
  ⟨27, .slice 2, 1, 24, (.sl true 2 (.int .i64))⟩,
  ⟨30, .slice 107, 1, 24, (.sl true 107 (.st (.pair (.int .i64) (.st (.pair (.int .i64) (.int .i64))))))⟩,
  ⟨31, .slice 79, 1, 24, (.sl true 79 (.st (.pair (.int .i64) (.pair (.int .i64) (.pair (.int .i64) (.pair (.int .i64) (.pair (.int .i64) .str)))))))⟩,
  ⟨32, .slice 82, 1, 24, (.sl true 82 (.st (.pair (.int .i64) (.int .i64))))⟩,
  ⟨34, .struct [(30, 0), (31, 1), (32, 2)], 3, 72, (.st (.pair (.sl true 107 (.st (.pair (.int .i64) (.st (.pair (.int .i64) (.int .i64)))))) (.pair (.sl true 79 (.st (.pair (.int .i64) (.pair (.int .i64) (.pair (.int .i64) (.pair (.int .i64) (.pair (.int .i64) .str))))))) (.sl true 82 (.st (.pair (.int .i64) (.int .i64)))))))⟩,
  ⟨54, .slice 27, 1, 24, (.sl true 27 (.sl true 2 (.int .i64)))⟩,
  ⟨70, .ptr 120, 1, 8, (.pt true 120 (.st (.pair (.st (.pair (.sl true 107 (.st (.pair (.int .i64) (.st (.pair (.int .i64) (.int .i64)))))) (.pair (.sl true 79 (.st (.pair (.int .i64) (.pair (.int .i64) (.pair (.int .i64) (.pair (.int .i64) (.pair (.int .i64) .str))))))) (.sl true 82 (.st (.pair (.int .i64) (.int .i64))))))) (.pair (.sl true 27 (.sl true 2 (.int .i64))) (.pair (.sl true 27 (.sl true 2 (.int .i64))) (.mp true (.st (.pair (.int .i64) (.int .i64))) .bool))))))⟩,
  ⟨79, .struct [(2, 0), (2, 1), (2, 2), (2, 3), (2, 4), (9, 5)], 6, 56, (.st (.pair (.int .i64) (.pair (.int .i64) (.pair (.int .i64) (.pair (.int .i64) (.pair (.int .i64) .str))))))⟩,
  ⟨82, .struct [(2, 0), (2, 1)], 2, 16, (.st (.pair (.int .i64) (.int .i64)))⟩,
  ⟨103, .struct [(2, 0), (2, 1), (2, 2), (2, 3), (2, 4), (9, 5)], 6, 56, (.st (.pair (.int .i64) (.pair (.int .i64) (.pair (.int .i64) (.pair (.int .i64) (.pair (.int .i64) .str))))))⟩,
  ⟨105, .struct [(2, 0), (2, 1)], 2, 16, (.st (.pair (.int .i64) (.int .i64)))⟩,
  ⟨107, .struct [(2, 0), (105, 1)], 3, 24, (.st (.pair (.int .i64) (.st (.pair (.int .i64) (.int .i64)))))⟩,
  ⟨112, .struct [(2, 0), (2, 1)], 2, 16, (.st (.pair (.int .i64) (.int .i64)))⟩,
  ⟨114, .struct [(2, 0), (112, 1)], 3, 24, (.st (.pair (.int .i64) (.st (.pair (.int .i64) (.int .i64)))))⟩,
  ⟨117, .struct [(2, 0), (2, 1)], 2, 16, (.st (.pair (.int .i64) (.int .i64)))⟩,
  ⟨118, .map 82 4, 1, 8, (.mp true (.st (.pair (.int .i64) (.int .i64))) .bool)⟩,
  ⟨120, .struct [(34, 0), (54, 3), (54, 4), (118, 5)], 6, 128, (.st (.pair (.st (.pair (.sl true 107 (.st (.pair (.int .i64) (.st (.pair (.int .i64) (.int .i64)))))) (.pair (.sl true 79 (.st (.pair (.int .i64) (.pair (.int .i64) (.pair (.int .i64) (.pair (.int .i64) (.pair (.int .i64) .str))))))) (.sl true 82 (.st (.pair (.int .i64) (.int .i64))))))) (.pair (.sl true 27 (.sl true 2 (.int .i64))) (.pair (.sl true 27 (.sl true 2 (.int .i64))) (.mp true (.st (.pair (.int .i64) (.int .i64))) .bool)))))⟩]
theorem tok : TOk Try.prog tbl := by unfold TOk; kernel_rfl

def f54 (k : Nat) (x0 : (List (Int × (Int × Int)))) (x1 : Int) : Option Int := if (decide (((IntKind.i64.wrap (x1 - (List.length x0 : Int))) : Int) < (0 : Int))) then (some (-1 : Int)) else (some (IntKind.i64.wrap (x1 - (List.length x0 : Int))))
set_option maxRecDepth 100000 in
/-- 'laws.szSpotS'. -/
theorem c54 (k : Nat) (x0 : (List (Int × (Int × Int)))) (x1 : Int) (r : Int) (hF : f54 k x0 x1 = some r) : PCall Try.prog 54 [⟨sh0, x0⟩, ⟨(.int .i64), x1⟩] [⟨(.int .i64), r⟩] := by
  refine pcall_intro Try.func54 rfl rfl (Nat.le_of_ble_eq_true rfl) ?_
  intro w0 Zi a w h
  rw [f54] at hF
  refine wp_reg_seq tok (orc := orcL []) (fz := []) (l := [0, 1]) (c := _) (.inr fun i h => h) h (by kernel_rfl) (AllP.nil) ?_
  intro a w h
  refine wp_reg_seq tok (orc := orcL []) (fz := []) (l := [1]) (c := _) (.inr fun i h => h) h (by kernel_rfl) (AllP.nil) ?_
  intro a w h
  refine wp_seq ?_
  refine wp_reg_seq tok (orc := orcL []) (fz := []) (l := [1, 10]) (c := _) (.inr fun i h => h) h (by kernel_rfl) (AllP.nil) ?_
  intro a w h
  refine wp_if h (b := (decide (((IntKind.i64.wrap (x1 - (List.length x0 : Int))) : Int) < (0 : Int)))) (by kernel_rfl) (fun hb => ?_) (fun hb => ?_)
  · replace hF := of_t hb hF
    refine wp_reg_seq tok (orc := orcL []) (fz := []) (l := [4]) (c := _) (.inr fun i h => h) h (by kernel_rfl) (AllP.nil) ?_
    intro a w h
    cases hF
    exact wp_ret (ret_okR tok h rfl (by kernel_rfl)).1
  · replace hF := of_f hb hF
    refine wp_skip ?_
    refine wp_reg_seq tok (orc := orcL []) (fz := []) (l := [4]) (c := _) (.inr fun i h => h) h (by kernel_rfl) (AllP.nil) ?_
    intro a w h
    cases hF
    exact wp_ret (ret_okR tok h rfl (by kernel_rfl)).1

def f101 (k : Nat) (x0 : (Int × (Int × (Int × (Int × (Int × ByteArray)))))) (x1 : Int) : Option Int := if (decide (((IntKind.i64.wrap (x1 - (ByteArray.size x0.2.2.2.2.2 : Int))) : Int) < (0 : Int))) then (some (-1 : Int)) else (some (IntKind.i64.wrap (x1 - (ByteArray.size x0.2.2.2.2.2 : Int))))
set_option maxRecDepth 100000 in
/-- 'laws.szRoad'. -/
theorem c101 (k : Nat) (x0 : (Int × (Int × (Int × (Int × (Int × ByteArray)))))) (x1 : Int) (r : Int) (hF : f101 k x0 x1 = some r) : PCall Try.prog 101 [⟨sh1, x0⟩, ⟨(.int .i64), x1⟩] [⟨(.int .i64), r⟩] := by
  refine pcall_intro Try.func101 rfl rfl (Nat.le_of_ble_eq_true rfl) ?_
  intro w0 Zi a w h
  rw [f101] at hF
  refine wp_reg_seq tok (orc := orcL []) (fz := []) (l := [1, 2]) (c := _) (.inr fun i h => h) h (by kernel_rfl) (AllP.nil) ?_
  intro a w h
  refine wp_reg_seq tok (orc := orcL []) (fz := []) (l := [1]) (c := _) (.inr fun i h => h) h (by kernel_rfl) (AllP.nil) ?_
  intro a w h
  refine wp_seq ?_
  refine wp_reg_seq tok (orc := orcL []) (fz := []) (l := [1, 11]) (c := _) (.inr fun i h => h) h (by kernel_rfl) (AllP.nil) ?_
  intro a w h
  refine wp_if h (b := (decide (((IntKind.i64.wrap (x1 - (ByteArray.size x0.2.2.2.2.2 : Int))) : Int) < (0 : Int)))) (by kernel_rfl) (fun hb => ?_) (fun hb => ?_)
  · replace hF := of_t hb hF
    refine wp_reg_seq tok (orc := orcL []) (fz := []) (l := [4]) (c := _) (.inr fun i h => h) h (by kernel_rfl) (AllP.nil) ?_
    intro a w h
    cases hF
    exact wp_ret (ret_okR tok h rfl (by kernel_rfl)).1
  · replace hF := of_f hb hF
    refine wp_skip ?_
    refine wp_reg_seq tok (orc := orcL []) (fz := []) (l := [4]) (c := _) (.inr fun i h => h) h (by kernel_rfl) (AllP.nil) ?_
    intro a w h
    cases hF
    exact wp_ret (ret_okR tok h rfl (by kernel_rfl)).1

def f55.l28 (k : Nat) (x0 : (List (Int × (Int × (Int × (Int × (Int × ByteArray))))))) : Nat → (Int × Int) → Option Int
  | 0, _ => none
  | m28 + 1, (v47, v48) => if (decide ((v48 : Int) < (List.length x0 : Int))) then (if (0 ≤ v48 ∧ v48 < (List.length x0 : Int)) then ((f101 k (List.getD x0 (Int.toNat v48) ((0 : Int), ((0 : Int), ((0 : Int), ((0 : Int), ((0 : Int), (⟨#[]⟩ : ByteArray))))))) v47).bind fun r52 => (if (decide ((r52 : Int) < (0 : Int))) then (some (-1 : Int)) else ((f55.l28 k x0) m28 (r52, (IntKind.i64.wrap (v48 + (1 : Int))))))) else none) else (some v47)
def f55 (k : Nat) (x0 : (List (Int × (Int × (Int × (Int × (Int × ByteArray))))))) (x1 : Int) : Option Int := if (decide (((IntKind.i64.wrap (x1 - (List.length x0 : Int))) : Int) < (0 : Int))) then (some (-1 : Int)) else (f55.l28 k x0 k ((IntKind.i64.wrap (x1 - (List.length x0 : Int))), (0 : Int)))
set_option maxRecDepth 100000 in
/-- 'laws.szRoadS'. -/
theorem c55 (k : Nat) (x0 : (List (Int × (Int × (Int × (Int × (Int × ByteArray))))))) (x1 : Int) (r : Int) (hF : f55 k x0 x1 = some r) : PCall Try.prog 55 [⟨sh2, x0⟩, ⟨(.int .i64), x1⟩] [⟨(.int .i64), r⟩] := by
  refine pcall_intro Try.func55 rfl rfl (Nat.le_of_ble_eq_true rfl) ?_
  intro w0 Zi a w h
  rw [f55] at hF
  refine wp_reg_seq tok (orc := orcL []) (fz := []) (l := [0, 1]) (c := _) (.inr fun i h => h) h (by kernel_rfl) (AllP.nil) ?_
  intro a w h
  refine wp_reg_seq tok (orc := orcL []) (fz := []) (l := [0, 1]) (c := _) (.inr fun i h => h) h (by kernel_rfl) (AllP.nil) ?_
  intro a w h
  refine wp_seq ?_
  refine wp_reg_seq tok (orc := orcL []) (fz := []) (l := [0, 1, 11]) (c := _) (.inr fun i h => h) h (by kernel_rfl) (AllP.nil) ?_
  intro a w h
  refine wp_if h (b := (decide (((IntKind.i64.wrap (x1 - (List.length x0 : Int))) : Int) < (0 : Int)))) (by kernel_rfl) (fun hb => ?_) (fun hb => ?_)
  · replace hF := of_t hb hF
    refine wp_reg_seq tok (orc := orcL []) (fz := []) (l := [4]) (c := _) (.inr fun i h => h) h (by kernel_rfl) (AllP.nil) ?_
    intro a w h
    cases hF
    exact wp_ret (ret_okR tok h rfl (by kernel_rfl)).1
  · replace hF := of_f hb hF
    refine wp_skip ?_
    refine wp_seq ?_
    refine wp_reg_seq tok (orc := orcL []) (fz := []) (l := [0, 1, 5]) (c := _) (.inr fun i h => h) h (by kernel_rfl) (AllP.nil) ?_
    intro a w h
    refine wp_block ?_
    refine wp_loop_fuel (f55.l28 k x0) (fun ((v47, v48) : (Int × Int)) => [(0, .val sh2 x0), (1, .val (.int .i64) v47), (5, .val (.int .i64) v48)]) (fun v h => by obtain ⟨v47, v48⟩ := v; rw [f55.l28] at h; cases h) ?_ hF (h.arrive (fz := []) (l := [0, 1, 5]) (.inr fun i h => h) (by kernel_rfl))
    intro m28 v a w hF h
    obtain ⟨v47, v48⟩ := v
    rw [f55.l28] at hF
    refine wp_seq ?_
    refine wp_reg_seq tok (orc := orcL []) (fz := []) (l := [0, 1, 5, 15]) (c := _) (.inr fun i h => h) h (by kernel_rfl) (AllP.nil) ?_
    intro a w h
    refine wp_if h (b := (decide ((v48 : Int) < (List.length x0 : Int)))) (by kernel_rfl) (fun hb => ?_) (fun hb => ?_)
    · replace hF := of_t hb hF
      refine wp_skip ?_
      refine wp_seq <| wp_block ?_
      obtain ⟨hc53, hF⟩ := of_if hF
      obtain ⟨r52, hr54, hF⟩ := of_bind hF
      refine wp_reg_seq tok (orc := orcL [(23, [⟨(.int .i64), r52⟩])]) (fz := []) (l := [0, 1, 5]) (c := _) (.inr fun i h => h) h (by kernel_rfl) (AllP.cons hc53 (AllP.cons (c101 k (List.getD x0 (Int.toNat v48) ((0 : Int), ((0 : Int), ((0 : Int), ((0 : Int), ((0 : Int), (⟨#[]⟩ : ByteArray))))))) v47 r52 hr54) AllP.nil)) ?_
      intro a w h
      refine wp_reg_seq tok (orc := orcL []) (fz := []) (l := [0, 1, 5, 25]) (c := _) (.inr fun i h => h) h (by kernel_rfl) (AllP.nil) ?_
      intro a w h
      refine wp_if h (b := (decide ((r52 : Int) < (0 : Int)))) (by kernel_rfl) (fun hb => ?_) (fun hb => ?_)
      · replace hF := of_t hb hF
        refine wp_reg_seq tok (orc := orcL []) (fz := []) (l := [4]) (c := _) (.inr fun i h => h) h (by kernel_rfl) (AllP.nil) ?_
        intro a w h
        cases hF
        exact wp_ret (ret_okR tok h rfl (by kernel_rfl)).1
      · replace hF := of_f hb hF
        refine wp_skip ?_
        refine wp_reg tok (orc := orcL []) (fz := []) (l := [0, 1, 5]) (c := _) (.inr fun i h => h) h (by kernel_rfl) (AllP.nil) ?_
        intro a w h
        exact ⟨(r52, (IntKind.i64.wrap (v48 + (1 : Int)))), hF, h.arrive (fz := []) (l := [0, 1, 5]) (.inr fun i h => h) (by kernel_rfl)⟩
    · replace hF := of_f hb hF
      refine wp_exit ?_
      refine wp_reg_seq tok (orc := orcL []) (fz := []) (l := [4]) (c := _) (.inr fun i h => h) h (by kernel_rfl) (AllP.nil) ?_
      intro a w h
      cases hF
      exact wp_ret (ret_okR tok h rfl (by kernel_rfl)).1

def f56 (k : Nat) (x0 : (List (Int × Int))) (x1 : Int) : Option Int := if (decide (((IntKind.i64.wrap (x1 - (List.length x0 : Int))) : Int) < (0 : Int))) then (some (-1 : Int)) else (some (IntKind.i64.wrap (x1 - (List.length x0 : Int))))
set_option maxRecDepth 100000 in
/-- 'laws.szBanS'. -/
theorem c56 (k : Nat) (x0 : (List (Int × Int))) (x1 : Int) (r : Int) (hF : f56 k x0 x1 = some r) : PCall Try.prog 56 [⟨sh3, x0⟩, ⟨(.int .i64), x1⟩] [⟨(.int .i64), r⟩] := by
  refine pcall_intro Try.func56 rfl rfl (Nat.le_of_ble_eq_true rfl) ?_
  intro w0 Zi a w h
  rw [f56] at hF
  refine wp_reg_seq tok (orc := orcL []) (fz := []) (l := [0, 1]) (c := _) (.inr fun i h => h) h (by kernel_rfl) (AllP.nil) ?_
  intro a w h
  refine wp_reg_seq tok (orc := orcL []) (fz := []) (l := [1]) (c := _) (.inr fun i h => h) h (by kernel_rfl) (AllP.nil) ?_
  intro a w h
  refine wp_seq ?_
  refine wp_reg_seq tok (orc := orcL []) (fz := []) (l := [1, 10]) (c := _) (.inr fun i h => h) h (by kernel_rfl) (AllP.nil) ?_
  intro a w h
  refine wp_if h (b := (decide (((IntKind.i64.wrap (x1 - (List.length x0 : Int))) : Int) < (0 : Int)))) (by kernel_rfl) (fun hb => ?_) (fun hb => ?_)
  · replace hF := of_t hb hF
    refine wp_reg_seq tok (orc := orcL []) (fz := []) (l := [4]) (c := _) (.inr fun i h => h) h (by kernel_rfl) (AllP.nil) ?_
    intro a w h
    cases hF
    exact wp_ret (ret_okR tok h rfl (by kernel_rfl)).1
  · replace hF := of_f hb hF
    refine wp_skip ?_
    refine wp_reg_seq tok (orc := orcL []) (fz := []) (l := [4]) (c := _) (.inr fun i h => h) h (by kernel_rfl) (AllP.nil) ?_
    intro a w h
    cases hF
    exact wp_ret (ret_okR tok h rfl (by kernel_rfl)).1

def f15 (k : Nat) (x0 : ((List (Int × (Int × Int))) × ((List (Int × (Int × (Int × (Int × (Int × ByteArray)))))) × (List (Int × Int))))) (x1 : Int) : Option Int := (f54 k x0.1 x1).bind fun r1 => (if (decide ((r1 : Int) < (0 : Int))) then (some (-1 : Int)) else ((f55 k x0.2.1 r1).bind fun r2 => (if (decide ((r2 : Int) < (0 : Int))) then (some (-1 : Int)) else ((f56 k x0.2.2 r2).bind fun r3 => (if (decide ((r3 : Int) < (0 : Int))) then (some (-1 : Int)) else (some r3))))))
set_option maxRecDepth 100000 in
/-- 'laws.szGraph'. -/
theorem c15 (k : Nat) (x0 : ((List (Int × (Int × Int))) × ((List (Int × (Int × (Int × (Int × (Int × ByteArray)))))) × (List (Int × Int))))) (x1 : Int) (r : Int) (hF : f15 k x0 x1 = some r) : PCall Try.prog 15 [⟨sh4, x0⟩, ⟨(.int .i64), x1⟩] [⟨(.int .i64), r⟩] := by
  refine pcall_intro Try.func15 rfl rfl (Nat.le_of_ble_eq_true rfl) ?_
  intro w0 Zi a w h
  rw [f15] at hF
  refine wp_reg_seq tok (orc := orcL []) (fz := []) (l := [1, 2]) (c := _) (.inr fun i h => h) h (by kernel_rfl) (AllP.nil) ?_
  intro a w h
  obtain ⟨r1, hr6, hF⟩ := of_bind hF
  refine wp_reg_seq tok (orc := orcL [(8, [⟨(.int .i64), r1⟩])]) (fz := []) (l := [1, 2]) (c := _) (.inr fun i h => h) h (by kernel_rfl) (AllP.cons (c54 k x0.1 x1 r1 hr6) AllP.nil) ?_
  intro a w h
  refine wp_seq ?_
  refine wp_reg_seq tok (orc := orcL []) (fz := []) (l := [1, 2, 10]) (c := _) (.inr fun i h => h) h (by kernel_rfl) (AllP.nil) ?_
  intro a w h
  refine wp_if h (b := (decide ((r1 : Int) < (0 : Int)))) (by kernel_rfl) (fun hb => ?_) (fun hb => ?_)
  · replace hF := of_t hb hF
    refine wp_reg_seq tok (orc := orcL []) (fz := []) (l := [4]) (c := _) (.inr fun i h => h) h (by kernel_rfl) (AllP.nil) ?_
    intro a w h
    cases hF
    exact wp_ret (ret_okR tok h rfl (by kernel_rfl)).1
  · replace hF := of_f hb hF
    refine wp_skip ?_
    obtain ⟨r2, hr5, hF⟩ := of_bind hF
    refine wp_reg_seq tok (orc := orcL [(14, [⟨(.int .i64), r2⟩])]) (fz := []) (l := [1, 2]) (c := _) (.inr fun i h => h) h (by kernel_rfl) (AllP.cons (c55 k x0.2.1 r1 r2 hr5) AllP.nil) ?_
    intro a w h
    refine wp_seq ?_
    refine wp_reg_seq tok (orc := orcL []) (fz := []) (l := [1, 2, 16]) (c := _) (.inr fun i h => h) h (by kernel_rfl) (AllP.nil) ?_
    intro a w h
    refine wp_if h (b := (decide ((r2 : Int) < (0 : Int)))) (by kernel_rfl) (fun hb => ?_) (fun hb => ?_)
    · replace hF := of_t hb hF
      refine wp_reg_seq tok (orc := orcL []) (fz := []) (l := [4]) (c := _) (.inr fun i h => h) h (by kernel_rfl) (AllP.nil) ?_
      intro a w h
      cases hF
      exact wp_ret (ret_okR tok h rfl (by kernel_rfl)).1
    · replace hF := of_f hb hF
      refine wp_skip ?_
      obtain ⟨r3, hr4, hF⟩ := of_bind hF
      refine wp_reg_seq tok (orc := orcL [(20, [⟨(.int .i64), r3⟩])]) (fz := []) (l := [1]) (c := _) (.inr fun i h => h) h (by kernel_rfl) (AllP.cons (c56 k x0.2.2 r2 r3 hr4) AllP.nil) ?_
      intro a w h
      refine wp_seq ?_
      refine wp_reg_seq tok (orc := orcL []) (fz := []) (l := [1, 22]) (c := _) (.inr fun i h => h) h (by kernel_rfl) (AllP.nil) ?_
      intro a w h
      refine wp_if h (b := (decide ((r3 : Int) < (0 : Int)))) (by kernel_rfl) (fun hb => ?_) (fun hb => ?_)
      · replace hF := of_t hb hF
        refine wp_reg_seq tok (orc := orcL []) (fz := []) (l := [4]) (c := _) (.inr fun i h => h) h (by kernel_rfl) (AllP.nil) ?_
        intro a w h
        cases hF
        exact wp_ret (ret_okR tok h rfl (by kernel_rfl)).1
      · replace hF := of_f hb hF
        refine wp_skip ?_
        refine wp_reg_seq tok (orc := orcL []) (fz := []) (l := [4]) (c := _) (.inr fun i h => h) h (by kernel_rfl) (AllP.nil) ?_
        intro a w h
        cases hF
        exact wp_ret (ret_okR tok h rfl (by kernel_rfl)).1

def f127 (k : Nat) (x0 : (Int × Int)) : Option (Int × Int) := some (x0.1, x0.2)
set_option maxRecDepth 100000 in
/-- 'laws.toPoint'. -/
theorem c127 (k : Nat) (x0 : (Int × Int)) (r : (Int × Int)) (hF : f127 k x0 = some r) : PCall Try.prog 127 [⟨sh5, x0⟩] [⟨sh5, r⟩] := by
  refine pcall_intro Try.func127 rfl rfl (Nat.le_of_ble_eq_true rfl) ?_
  intro w0 Zi a w h
  rw [f127] at hF
  refine wp_reg_seq tok (orc := orcL []) (fz := []) (l := [1, 2]) (c := _) (.inr fun i h => h) h (by kernel_rfl) (AllP.nil) ?_
  intro a w h
  refine wp_reg_seq tok (orc := orcL []) (fz := []) (l := [1, 2, 3]) (c := _) (.inr fun i h => h) h (by kernel_rfl) (AllP.nil) ?_
  intro a w h
  refine wp_reg_seq tok (orc := orcL []) (fz := []) (l := [1, 2, 3]) (c := _) (.inr fun i h => h) h (by kernel_rfl) (AllP.nil) ?_
  intro a w h
  refine wp_reg_seq tok (orc := orcL []) (fz := []) (l := [2, 3]) (c := _) (.inr fun i h => h) h (by kernel_rfl) (AllP.nil) ?_
  intro a w h
  refine wp_reg_seq tok (orc := orcL []) (fz := []) (l := [2]) (c := _) (.inr fun i h => h) h (by kernel_rfl) (AllP.nil) ?_
  intro a w h
  cases hF
  exact wp_ret (ret_okR tok h rfl (by kernel_rfl)).1

def f105 (k : Nat) (x0 : (Int × (Int × Int))) : Option (Int × (Int × Int)) := (f127 k x0.2).bind fun r1 => (some (x0.1, r1))
set_option maxRecDepth 100000 in
/-- 'laws.toSpot'. -/
theorem c105 (k : Nat) (x0 : (Int × (Int × Int))) (r : (Int × (Int × Int))) (hF : f105 k x0 = some r) : PCall Try.prog 105 [⟨sh6, x0⟩] [⟨sh6, r⟩] := by
  refine pcall_intro Try.func105 rfl rfl (Nat.le_of_ble_eq_true rfl) ?_
  intro w0 Zi a w h
  rw [f105] at hF
  refine wp_reg_seq tok (orc := orcL []) (fz := []) (l := [1, 2]) (c := _) (.inr fun i h => h) h (by kernel_rfl) (AllP.nil) ?_
  intro a w h
  refine wp_reg_seq tok (orc := orcL []) (fz := []) (l := [1, 2, 3]) (c := _) (.inr fun i h => h) h (by kernel_rfl) (AllP.nil) ?_
  intro a w h
  refine wp_reg_seq tok (orc := orcL []) (fz := []) (l := [1, 2, 3]) (c := _) (.inr fun i h => h) h (by kernel_rfl) (AllP.nil) ?_
  intro a w h
  obtain ⟨r1, hr2, hF⟩ := of_bind hF
  refine wp_reg_seq tok (orc := orcL [(9, [⟨sh5, r1⟩])]) (fz := []) (l := [2, 3]) (c := _) (.inr fun i h => h) h (by kernel_rfl) (AllP.cons (c127 k x0.2 r1 hr2) AllP.nil) ?_
  intro a w h
  refine wp_reg_seq tok (orc := orcL []) (fz := []) (l := [2]) (c := _) (.inr fun i h => h) h (by kernel_rfl) (AllP.nil) ?_
  intro a w h
  cases hF
  exact wp_ret (ret_okR tok h rfl (by kernel_rfl)).1

def f60.l34 (k : Nat) (x0 : (List (Int × (Int × Int)))) : Nat → ((List (Int × (Int × Int))) × Int) → Option (List (Int × (Int × Int)))
  | 0, _ => none
  | m34 + 1, (v57, v58) => if (decide ((v58 : Int) < (List.length x0 : Int))) then (if (0 ≤ v58 ∧ v58 < (List.length x0 : Int)) then ((f105 k (List.getD x0 (Int.toNat v58) ((0 : Int), ((0 : Int), (0 : Int))))).bind fun r63 => (if (0 ≤ v58 ∧ v58 < (List.length v57 : Int)) then ((f60.l34 k x0) m34 ((List.set v57 (Int.toNat v58) r63), (IntKind.i64.wrap (v58 + (1 : Int))))) else none)) else none) else (some v57)
def f60 (k : Nat) (x0 : (List (Int × (Int × Int)))) : Option (List (Int × (Int × Int))) := if (0 ≤ (List.length x0 : Int) ∧ Int.toNat (List.length x0 : Int) * 24 ≤ 140737488355328) then (f60.l34 k x0 k ((List.replicate (Int.toNat (List.length x0 : Int)) ((0 : Int), ((0 : Int), (0 : Int)))), (0 : Int))) else none
set_option maxRecDepth 100000 in
/-- 'laws.toSpotS'. -/
theorem c60 (k : Nat) (x0 : (List (Int × (Int × Int)))) (r : (List (Int × (Int × Int)))) (hF : f60 k x0 = some r) : PCall Try.prog 60 [⟨sh0, x0⟩] [⟨sh7, r⟩] := by
  refine pcall_intro Try.func60 rfl rfl (Nat.le_of_ble_eq_true rfl) ?_
  intro w0 Zi a w h
  rw [f60] at hF
  refine wp_reg_seq tok (orc := orcL []) (fz := []) (l := [0]) (c := _) (.inr fun i h => h) h (by kernel_rfl) (AllP.nil) ?_
  intro a w h
  obtain ⟨hc67, hF⟩ := of_if hF
  refine wp_reg_seq tok (orc := orcL []) (fz := []) (l := [0, 3]) (c := _) (.inr fun i h => h) h (by kernel_rfl) (AllP.cons hc67 AllP.nil) ?_
  intro a w h
  refine wp_seq ?_
  refine wp_reg_seq tok (orc := orcL []) (fz := []) (l := [0, 3, 4]) (c := _) (.inr fun i h => h) h (by kernel_rfl) (AllP.nil) ?_
  intro a w h
  refine wp_block ?_
  refine wp_loop_fuel (f60.l34 k x0) (fun ((v57, v58) : ((List (Int × (Int × Int))) × Int)) => [(0, .val sh0 x0), (3, .val sh7 v57), (4, .val (.int .i64) v58)]) (fun v h => by obtain ⟨v57, v58⟩ := v; rw [f60.l34] at h; cases h) ?_ hF (h.arrive (fz := []) (l := [0, 3, 4]) (.inr fun i h => h) (by kernel_rfl))
  intro m34 v a w hF h
  obtain ⟨v57, v58⟩ := v
  rw [f60.l34] at hF
  refine wp_seq ?_
  refine wp_reg_seq tok (orc := orcL []) (fz := []) (l := [0, 3, 4, 11]) (c := _) (.inr fun i h => h) h (by kernel_rfl) (AllP.nil) ?_
  intro a w h
  refine wp_if h (b := (decide ((v58 : Int) < (List.length x0 : Int)))) (by kernel_rfl) (fun hb => ?_) (fun hb => ?_)
  · replace hF := of_t hb hF
    refine wp_skip ?_
    refine wp_seq <| wp_block ?_
    obtain ⟨hc64, hF⟩ := of_if hF
    obtain ⟨r63, hr65, hF⟩ := of_bind hF
    obtain ⟨hc66, hF⟩ := of_if hF
    refine wp_reg tok (orc := orcL [(20, [⟨sh6, r63⟩])]) (fz := []) (l := [0, 3, 4]) (c := _) (.inr fun i h => h) h (by kernel_rfl) (AllP.cons hc64 (AllP.cons (c105 k (List.getD x0 (Int.toNat v58) ((0 : Int), ((0 : Int), (0 : Int)))) r63 hr65) (AllP.cons hc66 AllP.nil))) ?_
    intro a w h
    refine wp_reg tok (orc := orcL []) (fz := []) (l := [0, 3, 4]) (c := _) (.inr fun i h => h) h (by kernel_rfl) (AllP.nil) ?_
    intro a w h
    exact ⟨((List.set v57 (Int.toNat v58) r63), (IntKind.i64.wrap (v58 + (1 : Int)))), hF, h.arrive (fz := []) (l := [0, 3, 4]) (.inr fun i h => h) (by kernel_rfl)⟩
  · replace hF := of_f hb hF
    refine wp_exit ?_
    refine wp_reg_seq tok (orc := orcL []) (fz := []) (l := [2, 3]) (c := _) (.inr fun i h => h) h (by kernel_rfl) (AllP.nil) ?_
    intro a w h
    cases hF
    exact wp_ret (ret_okR tok h rfl (by kernel_rfl)).1

def f106 (k : Nat) (x0 : (Int × (Int × (Int × (Int × (Int × ByteArray)))))) : Option (Int × (Int × (Int × (Int × (Int × ByteArray))))) := some (x0.1, (x0.2.1, (x0.2.2.1, (x0.2.2.2.1, (x0.2.2.2.2.1, x0.2.2.2.2.2)))))
set_option maxRecDepth 100000 in
/-- 'laws.toRoad'. -/
theorem c106 (k : Nat) (x0 : (Int × (Int × (Int × (Int × (Int × ByteArray)))))) (r : (Int × (Int × (Int × (Int × (Int × ByteArray)))))) (hF : f106 k x0 = some r) : PCall Try.prog 106 [⟨sh1, x0⟩] [⟨sh1, r⟩] := by
  refine pcall_intro Try.func106 rfl rfl (Nat.le_of_ble_eq_true rfl) ?_
  intro w0 Zi a w h
  rw [f106] at hF
  refine wp_reg_seq tok (orc := orcL []) (fz := []) (l := [1, 2]) (c := _) (.inr fun i h => h) h (by kernel_rfl) (AllP.nil) ?_
  intro a w h
  refine wp_reg_seq tok (orc := orcL []) (fz := []) (l := [1, 2, 3]) (c := _) (.inr fun i h => h) h (by kernel_rfl) (AllP.nil) ?_
  intro a w h
  refine wp_reg_seq tok (orc := orcL []) (fz := []) (l := [1, 2, 3]) (c := _) (.inr fun i h => h) h (by kernel_rfl) (AllP.nil) ?_
  intro a w h
  refine wp_reg_seq tok (orc := orcL []) (fz := []) (l := [1, 2, 3]) (c := _) (.inr fun i h => h) h (by kernel_rfl) (AllP.nil) ?_
  intro a w h
  refine wp_reg_seq tok (orc := orcL []) (fz := []) (l := [1, 2, 3]) (c := _) (.inr fun i h => h) h (by kernel_rfl) (AllP.nil) ?_
  intro a w h
  refine wp_reg_seq tok (orc := orcL []) (fz := []) (l := [1, 2, 3]) (c := _) (.inr fun i h => h) h (by kernel_rfl) (AllP.nil) ?_
  intro a w h
  refine wp_reg_seq tok (orc := orcL []) (fz := []) (l := [1, 2, 3]) (c := _) (.inr fun i h => h) h (by kernel_rfl) (AllP.nil) ?_
  intro a w h
  refine wp_reg_seq tok (orc := orcL []) (fz := []) (l := [2, 3]) (c := _) (.inr fun i h => h) h (by kernel_rfl) (AllP.nil) ?_
  intro a w h
  refine wp_reg_seq tok (orc := orcL []) (fz := []) (l := [2]) (c := _) (.inr fun i h => h) h (by kernel_rfl) (AllP.nil) ?_
  intro a w h
  cases hF
  exact wp_ret (ret_okR tok h rfl (by kernel_rfl)).1

def f61.l34 (k : Nat) (x0 : (List (Int × (Int × (Int × (Int × (Int × ByteArray))))))) : Nat → ((List (Int × (Int × (Int × (Int × (Int × ByteArray)))))) × Int) → Option (List (Int × (Int × (Int × (Int × (Int × ByteArray))))))
  | 0, _ => none
  | m34 + 1, (v57, v58) => if (decide ((v58 : Int) < (List.length x0 : Int))) then (if (0 ≤ v58 ∧ v58 < (List.length x0 : Int)) then ((f106 k (List.getD x0 (Int.toNat v58) ((0 : Int), ((0 : Int), ((0 : Int), ((0 : Int), ((0 : Int), (⟨#[]⟩ : ByteArray)))))))).bind fun r63 => (if (0 ≤ v58 ∧ v58 < (List.length v57 : Int)) then ((f61.l34 k x0) m34 ((List.set v57 (Int.toNat v58) r63), (IntKind.i64.wrap (v58 + (1 : Int))))) else none)) else none) else (some v57)
def f61 (k : Nat) (x0 : (List (Int × (Int × (Int × (Int × (Int × ByteArray))))))) : Option (List (Int × (Int × (Int × (Int × (Int × ByteArray)))))) := if (0 ≤ (List.length x0 : Int) ∧ Int.toNat (List.length x0 : Int) * 56 ≤ 140737488355328) then (f61.l34 k x0 k ((List.replicate (Int.toNat (List.length x0 : Int)) ((0 : Int), ((0 : Int), ((0 : Int), ((0 : Int), ((0 : Int), (⟨#[]⟩ : ByteArray))))))), (0 : Int))) else none
set_option maxRecDepth 100000 in
/-- 'laws.toRoadS'. -/
theorem c61 (k : Nat) (x0 : (List (Int × (Int × (Int × (Int × (Int × ByteArray))))))) (r : (List (Int × (Int × (Int × (Int × (Int × ByteArray))))))) (hF : f61 k x0 = some r) : PCall Try.prog 61 [⟨sh2, x0⟩] [⟨sh8, r⟩] := by
  refine pcall_intro Try.func61 rfl rfl (Nat.le_of_ble_eq_true rfl) ?_
  intro w0 Zi a w h
  rw [f61] at hF
  refine wp_reg_seq tok (orc := orcL []) (fz := []) (l := [0]) (c := _) (.inr fun i h => h) h (by kernel_rfl) (AllP.nil) ?_
  intro a w h
  obtain ⟨hc67, hF⟩ := of_if hF
  refine wp_reg_seq tok (orc := orcL []) (fz := []) (l := [0, 3]) (c := _) (.inr fun i h => h) h (by kernel_rfl) (AllP.cons hc67 AllP.nil) ?_
  intro a w h
  refine wp_seq ?_
  refine wp_reg_seq tok (orc := orcL []) (fz := []) (l := [0, 3, 4]) (c := _) (.inr fun i h => h) h (by kernel_rfl) (AllP.nil) ?_
  intro a w h
  refine wp_block ?_
  refine wp_loop_fuel (f61.l34 k x0) (fun ((v57, v58) : ((List (Int × (Int × (Int × (Int × (Int × ByteArray)))))) × Int)) => [(0, .val sh2 x0), (3, .val sh8 v57), (4, .val (.int .i64) v58)]) (fun v h => by obtain ⟨v57, v58⟩ := v; rw [f61.l34] at h; cases h) ?_ hF (h.arrive (fz := []) (l := [0, 3, 4]) (.inr fun i h => h) (by kernel_rfl))
  intro m34 v a w hF h
  obtain ⟨v57, v58⟩ := v
  rw [f61.l34] at hF
  refine wp_seq ?_
  refine wp_reg_seq tok (orc := orcL []) (fz := []) (l := [0, 3, 4, 11]) (c := _) (.inr fun i h => h) h (by kernel_rfl) (AllP.nil) ?_
  intro a w h
  refine wp_if h (b := (decide ((v58 : Int) < (List.length x0 : Int)))) (by kernel_rfl) (fun hb => ?_) (fun hb => ?_)
  · replace hF := of_t hb hF
    refine wp_skip ?_
    refine wp_seq <| wp_block ?_
    obtain ⟨hc64, hF⟩ := of_if hF
    obtain ⟨r63, hr65, hF⟩ := of_bind hF
    obtain ⟨hc66, hF⟩ := of_if hF
    refine wp_reg tok (orc := orcL [(20, [⟨sh1, r63⟩])]) (fz := []) (l := [0, 3, 4]) (c := _) (.inr fun i h => h) h (by kernel_rfl) (AllP.cons hc64 (AllP.cons (c106 k (List.getD x0 (Int.toNat v58) ((0 : Int), ((0 : Int), ((0 : Int), ((0 : Int), ((0 : Int), (⟨#[]⟩ : ByteArray))))))) r63 hr65) (AllP.cons hc66 AllP.nil))) ?_
    intro a w h
    refine wp_reg tok (orc := orcL []) (fz := []) (l := [0, 3, 4]) (c := _) (.inr fun i h => h) h (by kernel_rfl) (AllP.nil) ?_
    intro a w h
    exact ⟨((List.set v57 (Int.toNat v58) r63), (IntKind.i64.wrap (v58 + (1 : Int)))), hF, h.arrive (fz := []) (l := [0, 3, 4]) (.inr fun i h => h) (by kernel_rfl)⟩
  · replace hF := of_f hb hF
    refine wp_exit ?_
    refine wp_reg_seq tok (orc := orcL []) (fz := []) (l := [2, 3]) (c := _) (.inr fun i h => h) h (by kernel_rfl) (AllP.nil) ?_
    intro a w h
    cases hF
    exact wp_ret (ret_okR tok h rfl (by kernel_rfl)).1

def f107 (k : Nat) (x0 : (Int × Int)) : Option (Int × Int) := some (x0.1, x0.2)
set_option maxRecDepth 100000 in
/-- 'laws.toBan'. -/
theorem c107 (k : Nat) (x0 : (Int × Int)) (r : (Int × Int)) (hF : f107 k x0 = some r) : PCall Try.prog 107 [⟨sh5, x0⟩] [⟨sh5, r⟩] := by
  refine pcall_intro Try.func107 rfl rfl (Nat.le_of_ble_eq_true rfl) ?_
  intro w0 Zi a w h
  rw [f107] at hF
  refine wp_reg_seq tok (orc := orcL []) (fz := []) (l := [1, 2]) (c := _) (.inr fun i h => h) h (by kernel_rfl) (AllP.nil) ?_
  intro a w h
  refine wp_reg_seq tok (orc := orcL []) (fz := []) (l := [1, 2, 3]) (c := _) (.inr fun i h => h) h (by kernel_rfl) (AllP.nil) ?_
  intro a w h
  refine wp_reg_seq tok (orc := orcL []) (fz := []) (l := [1, 2, 3]) (c := _) (.inr fun i h => h) h (by kernel_rfl) (AllP.nil) ?_
  intro a w h
  refine wp_reg_seq tok (orc := orcL []) (fz := []) (l := [2, 3]) (c := _) (.inr fun i h => h) h (by kernel_rfl) (AllP.nil) ?_
  intro a w h
  refine wp_reg_seq tok (orc := orcL []) (fz := []) (l := [2]) (c := _) (.inr fun i h => h) h (by kernel_rfl) (AllP.nil) ?_
  intro a w h
  cases hF
  exact wp_ret (ret_okR tok h rfl (by kernel_rfl)).1

def f62.l34 (k : Nat) (x0 : (List (Int × Int))) : Nat → ((List (Int × Int)) × Int) → Option (List (Int × Int))
  | 0, _ => none
  | m34 + 1, (v57, v58) => if (decide ((v58 : Int) < (List.length x0 : Int))) then (if (0 ≤ v58 ∧ v58 < (List.length x0 : Int)) then ((f107 k (List.getD x0 (Int.toNat v58) ((0 : Int), (0 : Int)))).bind fun r63 => (if (0 ≤ v58 ∧ v58 < (List.length v57 : Int)) then ((f62.l34 k x0) m34 ((List.set v57 (Int.toNat v58) r63), (IntKind.i64.wrap (v58 + (1 : Int))))) else none)) else none) else (some v57)
def f62 (k : Nat) (x0 : (List (Int × Int))) : Option (List (Int × Int)) := if (0 ≤ (List.length x0 : Int) ∧ Int.toNat (List.length x0 : Int) * 16 ≤ 140737488355328) then (f62.l34 k x0 k ((List.replicate (Int.toNat (List.length x0 : Int)) ((0 : Int), (0 : Int))), (0 : Int))) else none
set_option maxRecDepth 100000 in
/-- 'laws.toBanS'. -/
theorem c62 (k : Nat) (x0 : (List (Int × Int))) (r : (List (Int × Int))) (hF : f62 k x0 = some r) : PCall Try.prog 62 [⟨sh3, x0⟩] [⟨sh9, r⟩] := by
  refine pcall_intro Try.func62 rfl rfl (Nat.le_of_ble_eq_true rfl) ?_
  intro w0 Zi a w h
  rw [f62] at hF
  refine wp_reg_seq tok (orc := orcL []) (fz := []) (l := [0]) (c := _) (.inr fun i h => h) h (by kernel_rfl) (AllP.nil) ?_
  intro a w h
  obtain ⟨hc67, hF⟩ := of_if hF
  refine wp_reg_seq tok (orc := orcL []) (fz := []) (l := [0, 3]) (c := _) (.inr fun i h => h) h (by kernel_rfl) (AllP.cons hc67 AllP.nil) ?_
  intro a w h
  refine wp_seq ?_
  refine wp_reg_seq tok (orc := orcL []) (fz := []) (l := [0, 3, 4]) (c := _) (.inr fun i h => h) h (by kernel_rfl) (AllP.nil) ?_
  intro a w h
  refine wp_block ?_
  refine wp_loop_fuel (f62.l34 k x0) (fun ((v57, v58) : ((List (Int × Int)) × Int)) => [(0, .val sh3 x0), (3, .val sh9 v57), (4, .val (.int .i64) v58)]) (fun v h => by obtain ⟨v57, v58⟩ := v; rw [f62.l34] at h; cases h) ?_ hF (h.arrive (fz := []) (l := [0, 3, 4]) (.inr fun i h => h) (by kernel_rfl))
  intro m34 v a w hF h
  obtain ⟨v57, v58⟩ := v
  rw [f62.l34] at hF
  refine wp_seq ?_
  refine wp_reg_seq tok (orc := orcL []) (fz := []) (l := [0, 3, 4, 11]) (c := _) (.inr fun i h => h) h (by kernel_rfl) (AllP.nil) ?_
  intro a w h
  refine wp_if h (b := (decide ((v58 : Int) < (List.length x0 : Int)))) (by kernel_rfl) (fun hb => ?_) (fun hb => ?_)
  · replace hF := of_t hb hF
    refine wp_skip ?_
    refine wp_seq <| wp_block ?_
    obtain ⟨hc64, hF⟩ := of_if hF
    obtain ⟨r63, hr65, hF⟩ := of_bind hF
    obtain ⟨hc66, hF⟩ := of_if hF
    refine wp_reg tok (orc := orcL [(20, [⟨sh5, r63⟩])]) (fz := []) (l := [0, 3, 4]) (c := _) (.inr fun i h => h) h (by kernel_rfl) (AllP.cons hc64 (AllP.cons (c107 k (List.getD x0 (Int.toNat v58) ((0 : Int), (0 : Int))) r63 hr65) (AllP.cons hc66 AllP.nil))) ?_
    intro a w h
    refine wp_reg tok (orc := orcL []) (fz := []) (l := [0, 3, 4]) (c := _) (.inr fun i h => h) h (by kernel_rfl) (AllP.nil) ?_
    intro a w h
    exact ⟨((List.set v57 (Int.toNat v58) r63), (IntKind.i64.wrap (v58 + (1 : Int)))), hF, h.arrive (fz := []) (l := [0, 3, 4]) (.inr fun i h => h) (by kernel_rfl)⟩
  · replace hF := of_f hb hF
    refine wp_exit ?_
    refine wp_reg_seq tok (orc := orcL []) (fz := []) (l := [2, 3]) (c := _) (.inr fun i h => h) h (by kernel_rfl) (AllP.nil) ?_
    intro a w h
    cases hF
    exact wp_ret (ret_okR tok h rfl (by kernel_rfl)).1

def f17 (k : Nat) (x0 : ((List (Int × (Int × Int))) × ((List (Int × (Int × (Int × (Int × (Int × ByteArray)))))) × (List (Int × Int))))) : Option ((List (Int × (Int × Int))) × ((List (Int × (Int × (Int × (Int × (Int × ByteArray)))))) × (List (Int × Int)))) := (f60 k x0.1).bind fun r1 => ((f61 k x0.2.1).bind fun r2 => ((f62 k x0.2.2).bind fun r3 => (some (r1, (r2, r3)))))
set_option maxRecDepth 100000 in
/-- 'laws.toGraph'. -/
theorem c17 (k : Nat) (x0 : ((List (Int × (Int × Int))) × ((List (Int × (Int × (Int × (Int × (Int × ByteArray)))))) × (List (Int × Int))))) (r : ((List (Int × (Int × Int))) × ((List (Int × (Int × (Int × (Int × (Int × ByteArray)))))) × (List (Int × Int))))) (hF : f17 k x0 = some r) : PCall Try.prog 17 [⟨sh4, x0⟩] [⟨sh10, r⟩] := by
  refine pcall_intro Try.func17 rfl rfl (Nat.le_of_ble_eq_true rfl) ?_
  intro w0 Zi a w h
  rw [f17] at hF
  refine wp_reg_seq tok (orc := orcL []) (fz := []) (l := [1, 2]) (c := _) (.inr fun i h => h) h (by kernel_rfl) (AllP.nil) ?_
  intro a w h
  refine wp_reg_seq tok (orc := orcL []) (fz := []) (l := [1, 2, 3]) (c := _) (.inr fun i h => h) h (by kernel_rfl) (AllP.nil) ?_
  intro a w h
  obtain ⟨r1, hr6, hF⟩ := of_bind hF
  refine wp_reg_seq tok (orc := orcL [(6, [⟨sh7, r1⟩])]) (fz := []) (l := [1, 2, 3]) (c := _) (.inr fun i h => h) h (by kernel_rfl) (AllP.cons (c60 k x0.1 r1 hr6) AllP.nil) ?_
  intro a w h
  obtain ⟨r2, hr5, hF⟩ := of_bind hF
  refine wp_reg_seq tok (orc := orcL [(10, [⟨sh8, r2⟩])]) (fz := []) (l := [1, 2, 3]) (c := _) (.inr fun i h => h) h (by kernel_rfl) (AllP.cons (c61 k x0.2.1 r2 hr5) AllP.nil) ?_
  intro a w h
  obtain ⟨r3, hr4, hF⟩ := of_bind hF
  refine wp_reg_seq tok (orc := orcL [(14, [⟨sh9, r3⟩])]) (fz := []) (l := [2, 3]) (c := _) (.inr fun i h => h) h (by kernel_rfl) (AllP.cons (c62 k x0.2.2 r3 hr4) AllP.nil) ?_
  intro a w h
  refine wp_reg_seq tok (orc := orcL []) (fz := []) (l := [2]) (c := _) (.inr fun i h => h) h (by kernel_rfl) (AllP.nil) ?_
  intro a w h
  cases hF
  exact wp_ret (ret_okR tok h rfl (by kernel_rfl)).1

def f102 (k : Nat) (x0 : Int) : Option Bool := some (bif (decide ((x0 : Int) ≥ (1 : Int))) then (decide ((x0 : Int) ≤ (1000000000 : Int))) else false)
set_option maxRecDepth 100000 in
/-- 'spec.l2IdOk'. -/
theorem c102 (k : Nat) (x0 : Int) (r : Bool) (hF : f102 k x0 = some r) : PCall Try.prog 102 [⟨(.int .i64), x0⟩] [⟨.bool, r⟩] := by
  refine pcall_intro Try.func102 rfl rfl (Nat.le_of_ble_eq_true rfl) ?_
  intro w0 Zi a w h
  rw [f102] at hF
  refine wp_reg_seq tok (orc := orcL []) (fz := []) (l := [0]) (c := _) (.inr fun i h => h) h (by kernel_rfl) (AllP.nil) ?_
  intro a w h
  refine wp_reg_seq tok (orc := orcL []) (fz := []) (l := [2]) (c := _) (.inr fun i h => h) h (by kernel_rfl) (AllP.nil) ?_
  intro a w h
  cases hF
  exact wp_ret (ret_okR tok h rfl (by kernel_rfl)).1

def f103 (k : Nat) (x0 : (Int × Int)) : Option Bool := some (bif (bif (bif (decide ((x0.1 : Int) ≥ (-10000000 : Int))) then (decide ((x0.1 : Int) ≤ (10000000 : Int))) else false) then (decide ((x0.2 : Int) ≥ (-10000000 : Int))) else false) then (decide ((x0.2 : Int) ≤ (10000000 : Int))) else false)
set_option maxRecDepth 100000 in
/-- 'spec.PointOk'. -/
theorem c103 (k : Nat) (x0 : (Int × Int)) (r : Bool) (hF : f103 k x0 = some r) : PCall Try.prog 103 [⟨sh5, x0⟩] [⟨.bool, r⟩] := by
  refine pcall_intro Try.func103 rfl rfl (Nat.le_of_ble_eq_true rfl) ?_
  intro w0 Zi a w h
  rw [f103] at hF
  refine wp_reg_seq tok (orc := orcL []) (fz := []) (l := [1]) (c := _) (.inr fun i h => h) h (by kernel_rfl) (AllP.nil) ?_
  intro a w h
  refine wp_reg_seq tok (orc := orcL []) (fz := []) (l := [2]) (c := _) (.inr fun i h => h) h (by kernel_rfl) (AllP.nil) ?_
  intro a w h
  cases hF
  exact wp_ret (ret_okR tok h rfl (by kernel_rfl)).1

def f104 (k : Nat) (x0 : (Int × Int)) (x1 : (Int × Int)) : Option Bool := some (bif (decide ((x0.1 : Int) < x1.1)) then true else (bif ((x0.1 : Int) == x1.1) then (decide ((x0.2 : Int) < x1.2)) else false))
set_option maxRecDepth 100000 in
/-- 'spec.l9BanLess'. -/
theorem c104 (k : Nat) (x0 : (Int × Int)) (x1 : (Int × Int)) (r : Bool) (hF : f104 k x0 x1 = some r) : PCall Try.prog 104 [⟨sh5, x0⟩, ⟨sh5, x1⟩] [⟨.bool, r⟩] := by
  refine pcall_intro Try.func104 rfl rfl (Nat.le_of_ble_eq_true rfl) ?_
  intro w0 Zi a w h
  rw [f104] at hF
  refine wp_reg_seq tok (orc := orcL []) (fz := []) (l := [2, 3]) (c := _) (.inr fun i h => h) h (by kernel_rfl) (AllP.nil) ?_
  intro a w h
  refine wp_reg_seq tok (orc := orcL []) (fz := []) (l := [4]) (c := _) (.inr fun i h => h) h (by kernel_rfl) (AllP.nil) ?_
  intro a w h
  cases hF
  exact wp_ret (ret_okR tok h rfl (by kernel_rfl)).1

def f57.l206 (k : Nat) (x0 : ((List (Int × (Int × Int))) × ((List (Int × (Int × (Int × (Int × (Int × ByteArray)))))) × (List (Int × Int))))) : Nat → Int → Option Bool
  | 0, _ => none
  | m206 + 1, v242 => if (decide ((v242 : Int) < (List.length x0.2.2 : Int))) then (if (0 ≤ v242 ∧ v242 < (List.length x0.2.2 : Int)) then (if (((bif (bif (bif (decide (((List.getD x0.2.2 (Int.toNat v242) ((0 : Int), (0 : Int))).1 : Int) < (0 : Int))) then true else (decide (((List.getD x0.2.2 (Int.toNat v242) ((0 : Int), (0 : Int))).1 : Int) ≥ (List.length x0.2.1 : Int)))) then true else (decide (((List.getD x0.2.2 (Int.toNat v242) ((0 : Int), (0 : Int))).2 : Int) < (0 : Int)))) then true else (decide (((List.getD x0.2.2 (Int.toNat v242) ((0 : Int), (0 : Int))).2 : Int) ≥ (List.length x0.2.1 : Int)))) = false) → (0 ≤ (List.getD x0.2.2 (Int.toNat v242) ((0 : Int), (0 : Int))).1 ∧ (List.getD x0.2.2 (Int.toNat v242) ((0 : Int), (0 : Int))).1 < (List.length x0.2.1 : Int))) then (if (((bif (bif (bif (decide (((List.getD x0.2.2 (Int.toNat v242) ((0 : Int), (0 : Int))).1 : Int) < (0 : Int))) then true else (decide (((List.getD x0.2.2 (Int.toNat v242) ((0 : Int), (0 : Int))).1 : Int) ≥ (List.length x0.2.1 : Int)))) then true else (decide (((List.getD x0.2.2 (Int.toNat v242) ((0 : Int), (0 : Int))).2 : Int) < (0 : Int)))) then true else (decide (((List.getD x0.2.2 (Int.toNat v242) ((0 : Int), (0 : Int))).2 : Int) ≥ (List.length x0.2.1 : Int)))) = false) → (0 ≤ (List.getD x0.2.2 (Int.toNat v242) ((0 : Int), (0 : Int))).2 ∧ (List.getD x0.2.2 (Int.toNat v242) ((0 : Int), (0 : Int))).2 < (List.length x0.2.1 : Int))) then (if ((((bif (bif (bif (bif (decide (((List.getD x0.2.2 (Int.toNat v242) ((0 : Int), (0 : Int))).1 : Int) < (0 : Int))) then true else (decide (((List.getD x0.2.2 (Int.toNat v242) ((0 : Int), (0 : Int))).1 : Int) ≥ (List.length x0.2.1 : Int)))) then true else (decide (((List.getD x0.2.2 (Int.toNat v242) ((0 : Int), (0 : Int))).2 : Int) < (0 : Int)))) then true else (decide (((List.getD x0.2.2 (Int.toNat v242) ((0 : Int), (0 : Int))).2 : Int) ≥ (List.length x0.2.1 : Int)))) then true else (((List.getD x0.2.1 (Int.toNat (List.getD x0.2.2 (Int.toNat v242) ((0 : Int), (0 : Int))).1) ((0 : Int), ((0 : Int), ((0 : Int), ((0 : Int), ((0 : Int), (⟨#[]⟩ : ByteArray))))))).2.1 : Int) != (List.getD x0.2.1 (Int.toNat (List.getD x0.2.2 (Int.toNat v242) ((0 : Int), (0 : Int))).2) ((0 : Int), ((0 : Int), ((0 : Int), ((0 : Int), ((0 : Int), (⟨#[]⟩ : ByteArray))))))).1)) = false) ∧ ((decide ((v242 : Int) > (0 : Int))) = true)) → (0 ≤ (IntKind.i64.wrap (v242 - (1 : Int))) ∧ (IntKind.i64.wrap (v242 - (1 : Int))) < (List.length x0.2.2 : Int))) then ((if (((bif (bif (bif (bif (decide (((List.getD x0.2.2 (Int.toNat v242) ((0 : Int), (0 : Int))).1 : Int) < (0 : Int))) then true else (decide (((List.getD x0.2.2 (Int.toNat v242) ((0 : Int), (0 : Int))).1 : Int) ≥ (List.length x0.2.1 : Int)))) then true else (decide (((List.getD x0.2.2 (Int.toNat v242) ((0 : Int), (0 : Int))).2 : Int) < (0 : Int)))) then true else (decide (((List.getD x0.2.2 (Int.toNat v242) ((0 : Int), (0 : Int))).2 : Int) ≥ (List.length x0.2.1 : Int)))) then true else (((List.getD x0.2.1 (Int.toNat (List.getD x0.2.2 (Int.toNat v242) ((0 : Int), (0 : Int))).1) ((0 : Int), ((0 : Int), ((0 : Int), ((0 : Int), ((0 : Int), (⟨#[]⟩ : ByteArray))))))).2.1 : Int) != (List.getD x0.2.1 (Int.toNat (List.getD x0.2.2 (Int.toNat v242) ((0 : Int), (0 : Int))).2) ((0 : Int), ((0 : Int), ((0 : Int), ((0 : Int), ((0 : Int), (⟨#[]⟩ : ByteArray))))))).1)) = false) ∧ ((decide ((v242 : Int) > (0 : Int))) = true)) then f104 k (List.getD x0.2.2 (Int.toNat (IntKind.i64.wrap (v242 - (1 : Int)))) ((0 : Int), (0 : Int))) (List.getD x0.2.2 (Int.toNat v242) ((0 : Int), (0 : Int))) else some default).bind fun r251 => ((some ((bif (bif (bif (bif (bif (decide (((List.getD x0.2.2 (Int.toNat v242) ((0 : Int), (0 : Int))).1 : Int) < (0 : Int))) then true else (decide (((List.getD x0.2.2 (Int.toNat v242) ((0 : Int), (0 : Int))).1 : Int) ≥ (List.length x0.2.1 : Int)))) then true else (decide (((List.getD x0.2.2 (Int.toNat v242) ((0 : Int), (0 : Int))).2 : Int) < (0 : Int)))) then true else (decide (((List.getD x0.2.2 (Int.toNat v242) ((0 : Int), (0 : Int))).2 : Int) ≥ (List.length x0.2.1 : Int)))) then true else (((List.getD x0.2.1 (Int.toNat (List.getD x0.2.2 (Int.toNat v242) ((0 : Int), (0 : Int))).1) ((0 : Int), ((0 : Int), ((0 : Int), ((0 : Int), ((0 : Int), (⟨#[]⟩ : ByteArray))))))).2.1 : Int) != (List.getD x0.2.1 (Int.toNat (List.getD x0.2.2 (Int.toNat v242) ((0 : Int), (0 : Int))).2) ((0 : Int), ((0 : Int), ((0 : Int), ((0 : Int), ((0 : Int), (⟨#[]⟩ : ByteArray))))))).1)) then true else (bif (decide ((v242 : Int) > (0 : Int))) then (!r251) else false)) : Bool)).bind fun v252 => (if v252 then (some false) else ((f57.l206 k x0) m206 (IntKind.i64.wrap (v242 + (1 : Int))))))) else none) else none) else none) else none) else (some true)
def f57.l118 (k : Nat) (x0 : ((List (Int × (Int × Int))) × ((List (Int × (Int × (Int × (Int × (Int × ByteArray)))))) × (List (Int × Int))))) : Nat → Int → Option Bool
  | 0, _ => none
  | m118 + 1, v142 => if (decide ((v142 : Int) < (List.length x0.2.1 : Int))) then (if (0 ≤ v142 ∧ v142 < (List.length x0.2.1 : Int)) then ((if ((bif (bif (bif (decide (((List.getD x0.2.1 (Int.toNat v142) ((0 : Int), ((0 : Int), ((0 : Int), ((0 : Int), ((0 : Int), (⟨#[]⟩ : ByteArray))))))).1 : Int) < (0 : Int))) then true else (decide (((List.getD x0.2.1 (Int.toNat v142) ((0 : Int), ((0 : Int), ((0 : Int), ((0 : Int), ((0 : Int), (⟨#[]⟩ : ByteArray))))))).1 : Int) ≥ (List.length x0.1 : Int)))) then true else (decide (((List.getD x0.2.1 (Int.toNat v142) ((0 : Int), ((0 : Int), ((0 : Int), ((0 : Int), ((0 : Int), (⟨#[]⟩ : ByteArray))))))).2.1 : Int) < (0 : Int)))) then true else (decide (((List.getD x0.2.1 (Int.toNat v142) ((0 : Int), ((0 : Int), ((0 : Int), ((0 : Int), ((0 : Int), (⟨#[]⟩ : ByteArray))))))).2.1 : Int) ≥ (List.length x0.1 : Int)))) = false) then f102 k (List.getD x0.2.1 (Int.toNat v142) ((0 : Int), ((0 : Int), ((0 : Int), ((0 : Int), ((0 : Int), (⟨#[]⟩ : ByteArray))))))).2.2.1 else some default).bind fun r148 => ((some ((bif (bif (bif (bif (bif (bif (bif (bif (decide (((List.getD x0.2.1 (Int.toNat v142) ((0 : Int), ((0 : Int), ((0 : Int), ((0 : Int), ((0 : Int), (⟨#[]⟩ : ByteArray))))))).1 : Int) < (0 : Int))) then true else (decide (((List.getD x0.2.1 (Int.toNat v142) ((0 : Int), ((0 : Int), ((0 : Int), ((0 : Int), ((0 : Int), (⟨#[]⟩ : ByteArray))))))).1 : Int) ≥ (List.length x0.1 : Int)))) then true else (decide (((List.getD x0.2.1 (Int.toNat v142) ((0 : Int), ((0 : Int), ((0 : Int), ((0 : Int), ((0 : Int), (⟨#[]⟩ : ByteArray))))))).2.1 : Int) < (0 : Int)))) then true else (decide (((List.getD x0.2.1 (Int.toNat v142) ((0 : Int), ((0 : Int), ((0 : Int), ((0 : Int), ((0 : Int), (⟨#[]⟩ : ByteArray))))))).2.1 : Int) ≥ (List.length x0.1 : Int)))) then true else (!r148)) then true else (decide (((List.getD x0.2.1 (Int.toNat v142) ((0 : Int), ((0 : Int), ((0 : Int), ((0 : Int), ((0 : Int), (⟨#[]⟩ : ByteArray))))))).2.2.2.1 : Int) < (1 : Int)))) then true else (decide (((List.getD x0.2.1 (Int.toNat v142) ((0 : Int), ((0 : Int), ((0 : Int), ((0 : Int), ((0 : Int), (⟨#[]⟩ : ByteArray))))))).2.2.2.1 : Int) > (1000000 : Int)))) then true else (decide (((List.getD x0.2.1 (Int.toNat v142) ((0 : Int), ((0 : Int), ((0 : Int), ((0 : Int), ((0 : Int), (⟨#[]⟩ : ByteArray))))))).2.2.2.2.1 : Int) < (0 : Int)))) then true else (decide (((List.getD x0.2.1 (Int.toNat v142) ((0 : Int), ((0 : Int), ((0 : Int), ((0 : Int), ((0 : Int), (⟨#[]⟩ : ByteArray))))))).2.2.2.2.1 : Int) > (1000000000 : Int)))) : Bool)).bind fun v149 => (if v149 then (some false) else ((f57.l118 k x0) m118 (IntKind.i64.wrap (v142 + (1 : Int))))))) else none) else (f57.l206 k x0 k (0 : Int))
def f57.l42 (k : Nat) (x0 : ((List (Int × (Int × Int))) × ((List (Int × (Int × (Int × (Int × (Int × ByteArray)))))) × (List (Int × Int))))) : Nat → Int → Option Bool
  | 0, _ => none
  | m42 + 1, v70 => if (decide ((v70 : Int) < (List.length x0.1 : Int))) then (if (0 ≤ v70 ∧ v70 < (List.length x0.1 : Int)) then ((f102 k (List.getD x0.1 (Int.toNat v70) ((0 : Int), ((0 : Int), (0 : Int)))).1).bind fun r77 => ((if ((!r77) = false) then f103 k (List.getD x0.1 (Int.toNat v70) ((0 : Int), ((0 : Int), (0 : Int)))).2 else some default).bind fun r78 => (if ((((bif (!r77) then true else (!r78)) = false) ∧ ((decide ((v70 : Int) > (0 : Int))) = true)) → (0 ≤ (IntKind.i64.wrap (v70 - (1 : Int))) ∧ (IntKind.i64.wrap (v70 - (1 : Int))) < (List.length x0.1 : Int))) then (if (bif (bif (!r77) then true else (!r78)) then true else (bif (decide ((v70 : Int) > (0 : Int))) then (decide (((List.getD x0.1 (Int.toNat (IntKind.i64.wrap (v70 - (1 : Int)))) ((0 : Int), ((0 : Int), (0 : Int)))).1 : Int) ≥ (List.getD x0.1 (Int.toNat v70) ((0 : Int), ((0 : Int), (0 : Int)))).1)) else false)) then (some false) else ((f57.l42 k x0) m42 (IntKind.i64.wrap (v70 + (1 : Int))))) else none))) else none) else (f57.l118 k x0 k (0 : Int))
def f57 (k : Nat) (x0 : ((List (Int × (Int × Int))) × ((List (Int × (Int × (Int × (Int × (Int × ByteArray)))))) × (List (Int × Int))))) : Option Bool := if (bif (bif (decide (((List.length x0.1 : Int) : Int) > (5000 : Int))) then true else (decide (((List.length x0.2.1 : Int) : Int) > (8000 : Int)))) then true else (decide (((List.length x0.2.2 : Int) : Int) > (2000 : Int)))) then (some false) else (f57.l42 k x0 k (0 : Int))
set_option maxRecDepth 100000 in
/-- 'spec.GraphOk'. -/
theorem c57 (k : Nat) (x0 : ((List (Int × (Int × Int))) × ((List (Int × (Int × (Int × (Int × (Int × ByteArray)))))) × (List (Int × Int))))) (r : Bool) (hF : f57 k x0 = some r) : PCall Try.prog 57 [⟨sh12, x0⟩] [⟨.bool, r⟩] := by
  refine pcall_intro Try.func57 rfl rfl (Nat.le_of_ble_eq_true rfl) ?_
  intro w0 Zi a w h
  rw [f57] at hF
  refine wp_reg_seq tok (orc := orcL []) (fz := []) (l := [1]) (c := _) (.inr fun i h => h) h (by kernel_rfl) (AllP.nil) ?_
  intro a w h
  refine wp_seq ?_
  refine wp_reg_seq tok (orc := orcL []) (fz := []) (l := [1, 26]) (c := _) (.inr fun i h => h) h (by kernel_rfl) (AllP.nil) ?_
  intro a w h
  refine wp_if h (b := (bif (bif (decide (((List.length x0.1 : Int) : Int) > (5000 : Int))) then true else (decide (((List.length x0.2.1 : Int) : Int) > (8000 : Int)))) then true else (decide (((List.length x0.2.2 : Int) : Int) > (2000 : Int))))) (by kernel_rfl) (fun hb => ?_) (fun hb => ?_)
  · replace hF := of_t hb hF
    refine wp_reg_seq tok (orc := orcL []) (fz := []) (l := [2]) (c := _) (.inr fun i h => h) h (by kernel_rfl) (AllP.nil) ?_
    intro a w h
    cases hF
    exact wp_ret (ret_okR tok h rfl (by kernel_rfl)).1
  · replace hF := of_f hb hF
    refine wp_skip ?_
    refine wp_seq ?_
    refine wp_reg_seq tok (orc := orcL []) (fz := []) (l := [1, 3]) (c := _) (.inr fun i h => h) h (by kernel_rfl) (AllP.nil) ?_
    intro a w h
    refine wp_block ?_
    refine wp_loop_fuel (f57.l42 k x0) (fun (v70 : Int) => [(1, .val sh11 (some x0)), (3, .val (.int .i64) v70)]) (fun v h => by rw [f57.l42] at h; cases h) ?_ hF (h.arrive (fz := []) (l := [1, 3]) (.inr fun i h => h) (by kernel_rfl))
    intro m42 v70 a w hF h
    rw [f57.l42] at hF
    refine wp_seq ?_
    refine wp_reg_seq tok (orc := orcL []) (fz := []) (l := [1, 3, 31]) (c := _) (.inr fun i h => h) h (by kernel_rfl) (AllP.nil) ?_
    intro a w h
    refine wp_if h (b := (decide ((v70 : Int) < (List.length x0.1 : Int)))) (by kernel_rfl) (fun hb => ?_) (fun hb => ?_)
    · replace hF := of_t hb hF
      refine wp_skip ?_
      refine wp_seq <| wp_block ?_
      obtain ⟨hc82, hF⟩ := of_if hF
      refine wp_reg_seq tok (orc := orcL []) (fz := []) (l := [1, 3, 4]) (c := _) (.inr fun i h => h) h (by kernel_rfl) (AllP.cons hc82 AllP.nil) ?_
      intro a w h
      obtain ⟨r77, hr79, hF⟩ := of_bind hF
      obtain ⟨r78, hr80, hF⟩ := of_bind hF
      obtain ⟨hc81, hF⟩ := of_if hF
      refine wp_regy_seq tok (orc := orcL [(41, [⟨.bool, r77⟩]), (46, [⟨.bool, r78⟩])]) (fz := []) (l := [1, 3, 64]) (c := _) [] 26 (.inr fun i h => h) h (by kernel_rfl) (by kernel_rfl) (AllP.cons (c102 k (List.getD x0.1 (Int.toNat v70) ((0 : Int), ((0 : Int), (0 : Int)))).1 r77 hr79) (AllP.cons (fun (hg : ((!r77) = false)) => c103 k (List.getD x0.1 (Int.toNat v70) ((0 : Int), ((0 : Int), (0 : Int)))).2 r78 (of_g hg hr80)) (AllP.cons hc81 AllP.nil))) ?_
      intro a w h
      refine wp_if h (b := (bif (bif (!r77) then true else (!r78)) then true else (bif (decide ((v70 : Int) > (0 : Int))) then (decide (((List.getD x0.1 (Int.toNat (IntKind.i64.wrap (v70 - (1 : Int)))) ((0 : Int), ((0 : Int), (0 : Int)))).1 : Int) ≥ (List.getD x0.1 (Int.toNat v70) ((0 : Int), ((0 : Int), (0 : Int)))).1)) else false))) (by kernel_rfl) (fun hb => ?_) (fun hb => ?_)
      · replace hF := of_t hb hF
        refine wp_reg_seq tok (orc := orcL []) (fz := []) (l := [2]) (c := _) (.inr fun i h => h) h (by kernel_rfl) (AllP.nil) ?_
        intro a w h
        cases hF
        exact wp_ret (ret_okR tok h rfl (by kernel_rfl)).1
      · replace hF := of_f hb hF
        refine wp_skip ?_
        refine wp_reg tok (orc := orcL []) (fz := []) (l := [1, 3]) (c := _) (.inr fun i h => h) h (by kernel_rfl) (AllP.nil) ?_
        intro a w h
        exact ⟨(IntKind.i64.wrap (v70 + (1 : Int))), hF, h.arrive (fz := []) (l := [1, 3]) (.inr fun i h => h) (by kernel_rfl)⟩
    · replace hF := of_f hb hF
      refine wp_exit ?_
      refine wp_reg_seq tok (orc := orcL []) (fz := []) (l := [1, 5]) (c := _) (.inr fun i h => h) h (by kernel_rfl) (AllP.nil) ?_
      intro a w h
      refine wp_seq ?_
      refine wp_reg_seq tok (orc := orcL []) (fz := []) (l := [1, 5, 6]) (c := _) (.inr fun i h => h) h (by kernel_rfl) (AllP.nil) ?_
      intro a w h
      refine wp_block ?_
      refine wp_loop_fuel (f57.l118 k x0) (fun (v142 : Int) => [(1, .val sh11 (some x0)), (5, .val (.int .i64) (List.length x0.1 : Int)), (6, .val (.int .i64) v142)]) (fun v h => by rw [f57.l118] at h; cases h) ?_ hF (h.arrive (fz := []) (l := [1, 5, 6]) (.inr fun i h => h) (by kernel_rfl))
      intro m118 v142 a w hF h
      rw [f57.l118] at hF
      refine wp_seq ?_
      refine wp_reg_seq tok (orc := orcL []) (fz := []) (l := [1, 5, 6, 72]) (c := _) (.inr fun i h => h) h (by kernel_rfl) (AllP.nil) ?_
      intro a w h
      refine wp_if h (b := (decide ((v142 : Int) < (List.length x0.2.1 : Int)))) (by kernel_rfl) (fun hb => ?_) (fun hb => ?_)
      · replace hF := of_t hb hF
        refine wp_skip ?_
        refine wp_seq <| wp_block ?_
        obtain ⟨hc152, hF⟩ := of_if hF
        refine wp_reg_seq tok (orc := orcL []) (fz := []) (l := [1, 5, 6, 7]) (c := _) (.inr fun i h => h) h (by kernel_rfl) (AllP.cons hc152 AllP.nil) ?_
        intro a w h
        obtain ⟨r148, hr151, hF⟩ := of_bind hF
        refine wp_reg_seq tok (orc := orcL [(103, [⟨.bool, r148⟩])]) (fz := []) (l := [1, 5, 6, 125]) (c := _) (.inr fun i h => h) h (by kernel_rfl) (AllP.cons (fun (hg : ((bif (bif (bif (decide (((List.getD x0.2.1 (Int.toNat v142) ((0 : Int), ((0 : Int), ((0 : Int), ((0 : Int), ((0 : Int), (⟨#[]⟩ : ByteArray))))))).1 : Int) < (0 : Int))) then true else (decide (((List.getD x0.2.1 (Int.toNat v142) ((0 : Int), ((0 : Int), ((0 : Int), ((0 : Int), ((0 : Int), (⟨#[]⟩ : ByteArray))))))).1 : Int) ≥ (List.length x0.1 : Int)))) then true else (decide (((List.getD x0.2.1 (Int.toNat v142) ((0 : Int), ((0 : Int), ((0 : Int), ((0 : Int), ((0 : Int), (⟨#[]⟩ : ByteArray))))))).2.1 : Int) < (0 : Int)))) then true else (decide (((List.getD x0.2.1 (Int.toNat v142) ((0 : Int), ((0 : Int), ((0 : Int), ((0 : Int), ((0 : Int), (⟨#[]⟩ : ByteArray))))))).2.1 : Int) ≥ (List.length x0.1 : Int)))) = false)) => c102 k (List.getD x0.2.1 (Int.toNat v142) ((0 : Int), ((0 : Int), ((0 : Int), ((0 : Int), ((0 : Int), (⟨#[]⟩ : ByteArray))))))).2.2.1 r148 (of_g hg hr151)) AllP.nil) ?_
        intro a w h
        obtain ⟨v149, hv150, hF⟩ := of_bind hF
        replace h := h.cast (S' := [(1, .val sh11 (some x0)), (5, .val (.int .i64) (List.length x0.1 : Int)), (6, .val (.int .i64) v142), (125, .val .bool v149)]) (by cases hv150; kernel_rfl)
        refine wp_if h (b := v149) (by kernel_rfl) (fun hb => ?_) (fun hb => ?_)
        · replace hF := of_t hb hF
          refine wp_reg_seq tok (orc := orcL []) (fz := []) (l := [2]) (c := _) (.inr fun i h => h) h (by kernel_rfl) (AllP.nil) ?_
          intro a w h
          cases hF
          exact wp_ret (ret_okR tok h rfl (by kernel_rfl)).1
        · replace hF := of_f hb hF
          refine wp_skip ?_
          refine wp_reg tok (orc := orcL []) (fz := []) (l := [1, 5, 6]) (c := _) (.inr fun i h => h) h (by kernel_rfl) (AllP.nil) ?_
          intro a w h
          exact ⟨(IntKind.i64.wrap (v142 + (1 : Int))), hF, h.arrive (fz := []) (l := [1, 5, 6]) (.inr fun i h => h) (by kernel_rfl)⟩
      · replace hF := of_f hb hF
        refine wp_exit ?_
        refine wp_reg_seq tok (orc := orcL []) (fz := []) (l := [1, 8]) (c := _) (.inr fun i h => h) h (by kernel_rfl) (AllP.nil) ?_
        intro a w h
        refine wp_seq ?_
        refine wp_reg_seq tok (orc := orcL []) (fz := []) (l := [1, 8, 9]) (c := _) (.inr fun i h => h) h (by kernel_rfl) (AllP.nil) ?_
        intro a w h
        refine wp_block ?_
        refine wp_loop_fuel (f57.l206 k x0) (fun (v242 : Int) => [(1, .val sh11 (some x0)), (8, .val (.int .i64) (List.length x0.2.1 : Int)), (9, .val (.int .i64) v242)]) (fun v h => by rw [f57.l206] at h; cases h) ?_ hF (h.arrive (fz := []) (l := [1, 8, 9]) (.inr fun i h => h) (by kernel_rfl))
        intro m206 v242 a w hF h
        rw [f57.l206] at hF
        refine wp_seq ?_
        refine wp_reg_seq tok (orc := orcL []) (fz := []) (l := [1, 8, 9, 133]) (c := _) (.inr fun i h => h) h (by kernel_rfl) (AllP.nil) ?_
        intro a w h
        refine wp_if h (b := (decide ((v242 : Int) < (List.length x0.2.2 : Int)))) (by kernel_rfl) (fun hb => ?_) (fun hb => ?_)
        · replace hF := of_t hb hF
          refine wp_skip ?_
          refine wp_seq <| wp_block ?_
          obtain ⟨hc258, hF⟩ := of_if hF
          refine wp_reg_seq tok (orc := orcL []) (fz := []) (l := [1, 8, 9, 10]) (c := _) (.inr fun i h => h) h (by kernel_rfl) (AllP.cons hc258 AllP.nil) ?_
          intro a w h
          obtain ⟨hc254, hF⟩ := of_if hF
          obtain ⟨hc255, hF⟩ := of_if hF
          obtain ⟨hc256, hF⟩ := of_if hF
          obtain ⟨r251, hr257, hF⟩ := of_bind hF
          refine wp_regy_seq tok (orc := orcL [(189, [⟨.bool, r251⟩])]) (fz := []) (l := [1, 8, 9, 192]) (c := _) [] 52 (.inr fun i h => h) h (by kernel_rfl) (by kernel_rfl) (AllP.cons hc254 (AllP.cons hc255 (AllP.cons hc256 (AllP.cons (fun (hg : (((bif (bif (bif (bif (decide (((List.getD x0.2.2 (Int.toNat v242) ((0 : Int), (0 : Int))).1 : Int) < (0 : Int))) then true else (decide (((List.getD x0.2.2 (Int.toNat v242) ((0 : Int), (0 : Int))).1 : Int) ≥ (List.length x0.2.1 : Int)))) then true else (decide (((List.getD x0.2.2 (Int.toNat v242) ((0 : Int), (0 : Int))).2 : Int) < (0 : Int)))) then true else (decide (((List.getD x0.2.2 (Int.toNat v242) ((0 : Int), (0 : Int))).2 : Int) ≥ (List.length x0.2.1 : Int)))) then true else (((List.getD x0.2.1 (Int.toNat (List.getD x0.2.2 (Int.toNat v242) ((0 : Int), (0 : Int))).1) ((0 : Int), ((0 : Int), ((0 : Int), ((0 : Int), ((0 : Int), (⟨#[]⟩ : ByteArray))))))).2.1 : Int) != (List.getD x0.2.1 (Int.toNat (List.getD x0.2.2 (Int.toNat v242) ((0 : Int), (0 : Int))).2) ((0 : Int), ((0 : Int), ((0 : Int), ((0 : Int), ((0 : Int), (⟨#[]⟩ : ByteArray))))))).1)) = false) ∧ ((decide ((v242 : Int) > (0 : Int))) = true))) => c104 k (List.getD x0.2.2 (Int.toNat (IntKind.i64.wrap (v242 - (1 : Int)))) ((0 : Int), (0 : Int))) (List.getD x0.2.2 (Int.toNat v242) ((0 : Int), (0 : Int))) r251 (of_g hg hr257)) AllP.nil)))) ?_
          intro a w h
          obtain ⟨v252, hv253, hF⟩ := of_bind hF
          replace h := h.cast (S' := [(1, .val sh11 (some x0)), (8, .val (.int .i64) (List.length x0.2.1 : Int)), (9, .val (.int .i64) v242), (192, .val .bool v252)]) (by cases hv253; kernel_rfl)
          refine wp_if h (b := v252) (by kernel_rfl) (fun hb => ?_) (fun hb => ?_)
          · replace hF := of_t hb hF
            refine wp_reg_seq tok (orc := orcL []) (fz := []) (l := [2]) (c := _) (.inr fun i h => h) h (by kernel_rfl) (AllP.nil) ?_
            intro a w h
            cases hF
            exact wp_ret (ret_okR tok h rfl (by kernel_rfl)).1
          · replace hF := of_f hb hF
            refine wp_skip ?_
            refine wp_reg tok (orc := orcL []) (fz := []) (l := [1, 8, 9]) (c := _) (.inr fun i h => h) h (by kernel_rfl) (AllP.nil) ?_
            intro a w h
            exact ⟨(IntKind.i64.wrap (v242 + (1 : Int))), hF, h.arrive (fz := []) (l := [1, 8, 9]) (.inr fun i h => h) (by kernel_rfl)⟩
        · replace hF := of_f hb hF
          refine wp_exit ?_
          refine wp_reg_seq tok (orc := orcL []) (fz := []) (l := [2]) (c := _) (.inr fun i h => h) h (by kernel_rfl) (AllP.nil) ?_
          intro a w h
          cases hF
          exact wp_ret (ret_okR tok h rfl (by kernel_rfl)).1

def f75 (k : Nat) (x0 : ((List (Int × (Int × Int))) × ((List (Int × (Int × (Int × (Int × (Int × ByteArray)))))) × (List (Int × Int))))) (x1 : Int) : Option Bool := some (bif (decide ((x1 : Int) ≥ (0 : Int))) then (decide ((x1 : Int) < (List.length x0.2.1 : Int))) else false)
set_option maxRecDepth 100000 in
/-- 'spec.l10RoadIs'. -/
theorem c75 (k : Nat) (x0 : ((List (Int × (Int × Int))) × ((List (Int × (Int × (Int × (Int × (Int × ByteArray)))))) × (List (Int × Int))))) (x1 : Int) (r : Bool) (hF : f75 k x0 x1 = some r) : PCall Try.prog 75 [⟨sh12, x0⟩, ⟨(.int .i64), x1⟩] [⟨.bool, r⟩] := by
  refine pcall_intro Try.func75 rfl rfl (Nat.le_of_ble_eq_true rfl) ?_
  intro w0 Zi a w h
  rw [f75] at hF
  refine wp_reg_seq tok (orc := orcL []) (fz := []) (l := [1, 2]) (c := _) (.inr fun i h => h) h (by kernel_rfl) (AllP.nil) ?_
  intro a w h
  refine wp_reg_seq tok (orc := orcL []) (fz := []) (l := [4]) (c := _) (.inr fun i h => h) h (by kernel_rfl) (AllP.nil) ?_
  intro a w h
  cases hF
  exact wp_ret (ret_okR tok h rfl (by kernel_rfl)).1

def f79.j109 (k : Nat) (v97 : (List (List Int))) (v98 : Int) (q58 : ((List (List Int)) × Int) → Option (List (List Int))) : Int → Option (List (List Int))
  | v108 => if (0 ≤ v108 ∧ v108 < (List.length v97 : Int)) then (if ((List.length (List.getD v97 (Int.toNat v108) ([] : (List Int))) + List.length [v98]) * 8 ≤ 140737488355328) then (if (0 ≤ v108 ∧ v108 < (List.length v97 : Int)) then (q58 ((List.set v97 (Int.toNat v108) (List.append (List.getD v97 (Int.toNat v108) ([] : (List Int))) [v98])), (IntKind.i64.wrap (v98 + (1 : Int))))) else none) else none) else none
def f79.l58 (k : Nat) (x0 : ((List (Int × (Int × Int))) × ((List (Int × (Int × (Int × (Int × (Int × ByteArray)))))) × (List (Int × Int))))) (x1 : Bool) : Nat → ((List (List Int)) × Int) → Option (List (List Int))
  | 0, _ => none
  | m58 + 1, (v97, v98) => if (decide ((v98 : Int) < (List.length x0.2.1 : Int))) then (if (0 ≤ v98 ∧ v98 < (List.length x0.2.1 : Int)) then (if x1 then (if (0 ≤ v98 ∧ v98 < (List.length x0.2.1 : Int)) then (f79.j109 k v97 v98 ((f79.l58 k x0 x1) m58) (List.getD x0.2.1 (Int.toNat v98) ((0 : Int), ((0 : Int), ((0 : Int), ((0 : Int), ((0 : Int), (⟨#[]⟩ : ByteArray))))))).2.1) else none) else (f79.j109 k v97 v98 ((f79.l58 k x0 x1) m58) (List.getD x0.2.1 (Int.toNat v98) ((0 : Int), ((0 : Int), ((0 : Int), ((0 : Int), ((0 : Int), (⟨#[]⟩ : ByteArray))))))).1)) else none) else (some v97)
def f79 (k : Nat) (x0 : ((List (Int × (Int × Int))) × ((List (Int × (Int × (Int × (Int × (Int × ByteArray)))))) × (List (Int × Int))))) (x1 : Bool) : Option (List (List Int)) := if (0 ≤ (List.length x0.1 : Int) ∧ Int.toNat (List.length x0.1 : Int) * 24 ≤ 140737488355328) then (f79.l58 k x0 x1 k ((List.replicate (Int.toNat (List.length x0.1 : Int)) ([] : (List Int))), (0 : Int))) else none
set_option maxRecDepth 100000 in
/-- 'spec.l10At'. -/
theorem c79 (k : Nat) (x0 : ((List (Int × (Int × Int))) × ((List (Int × (Int × (Int × (Int × (Int × ByteArray)))))) × (List (Int × Int))))) (x1 : Bool) (r : (List (List Int))) (hF : f79 k x0 x1 = some r) : PCall Try.prog 79 [⟨sh12, x0⟩, ⟨.bool, x1⟩] [⟨sh13, r⟩] := by
  refine pcall_intro Try.func79 rfl rfl (Nat.le_of_ble_eq_true rfl) ?_
  intro w0 Zi a w h
  rw [f79] at hF
  refine wp_reg_seq tok (orc := orcL []) (fz := []) (l := [1, 2]) (c := _) (.inr fun i h => h) h (by kernel_rfl) (AllP.nil) ?_
  intro a w h
  obtain ⟨hc115, hF⟩ := of_if hF
  refine wp_reg_seq tok (orc := orcL []) (fz := []) (l := [1, 2, 5]) (c := _) (.inr fun i h => h) h (by kernel_rfl) (AllP.cons hc115 AllP.nil) ?_
  intro a w h
  refine wp_seq ?_
  refine wp_reg_seq tok (orc := orcL []) (fz := []) (l := [1, 2, 5, 6]) (c := _) (.inr fun i h => h) h (by kernel_rfl) (AllP.nil) ?_
  intro a w h
  refine wp_block ?_
  refine wp_loop_fuel (f79.l58 k x0 x1) (fun ((v97, v98) : ((List (List Int)) × Int)) => [(1, .val .bool x1), (2, .val sh11 (some x0)), (5, .val sh13 v97), (6, .val (.int .i64) v98)]) (fun v h => by obtain ⟨v97, v98⟩ := v; rw [f79.l58] at h; cases h) ?_ hF (h.arrive (fz := []) (l := [1, 2, 5, 6]) (.inr fun i h => h) (by kernel_rfl))
  intro m58 v a w hF h
  obtain ⟨v97, v98⟩ := v
  rw [f79.l58] at hF
  refine wp_seq ?_
  refine wp_reg_seq tok (orc := orcL []) (fz := []) (l := [1, 2, 5, 6, 16]) (c := _) (.inr fun i h => h) h (by kernel_rfl) (AllP.nil) ?_
  intro a w h
  refine wp_if h (b := (decide ((v98 : Int) < (List.length x0.2.1 : Int)))) (by kernel_rfl) (fun hb => ?_) (fun hb => ?_)
  · replace hF := of_t hb hF
    refine wp_skip ?_
    refine wp_seq <| wp_block ?_
    obtain ⟨hc114, hF⟩ := of_if hF
    refine wp_reg_seq tok (orc := orcL []) (fz := []) (l := [1, 2, 5, 6, 7]) (c := _) (.inr fun i h => h) h (by kernel_rfl) (AllP.cons hc114 AllP.nil) ?_
    intro a w h
    refine wp_seq ?_
    refine wp_reg_seq tok (orc := orcL []) (fz := []) (l := [1, 2, 5, 6, 7, 25]) (c := _) (.inr fun i h => h) h (by kernel_rfl) (AllP.nil) ?_
    intro a w h
    refine wp_midT (fun a w => ∃ v : Int, f79.j109 k v97 v98 ((f79.l58 k x0 x1) m58) v = some r ∧ Rel w0 (fun _ => False) Zi Try.f79.ntmps ((fun (v108 : Int) => ([(1, .val .bool x1), (2, .val sh11 (some x0)), (5, .val sh13 v97), (6, .val (.int .i64) v98), (7, .val (.int .i64) v108)] : SS)) v) a w) ?_ ?_
    ·
      refine wp_if h (b := x1) (by kernel_rfl) (fun hb => ?_) (fun hb => ?_)
      · replace hF := of_t hb hF
        obtain ⟨hc113, hF⟩ := of_if hF
        refine wp_reg tok (orc := orcL []) (fz := []) (l := [1, 2, 5, 6, 7]) (c := _) (.inr fun i h => h) h (by kernel_rfl) (AllP.cons hc113 AllP.nil) ?_
        intro a w h
        exact ⟨(List.getD x0.2.1 (Int.toNat v98) ((0 : Int), ((0 : Int), ((0 : Int), ((0 : Int), ((0 : Int), (⟨#[]⟩ : ByteArray))))))).2.1, hF, h.arrive (fz := []) (l := [1, 2, 5, 6, 7]) (.inr fun i h => h) (by kernel_rfl)⟩
      · replace hF := of_f hb hF
        refine wp_skip ?_
        exact ⟨(List.getD x0.2.1 (Int.toNat v98) ((0 : Int), ((0 : Int), ((0 : Int), ((0 : Int), ((0 : Int), (⟨#[]⟩ : ByteArray))))))).1, hF, h.arrive (fz := []) (l := [1, 2, 5, 6, 7]) (.inr fun i h => h) (by kernel_rfl)⟩
    · rintro a w ⟨v108, hF, h⟩
      rw [f79.j109] at hF
      obtain ⟨hc110, hF⟩ := of_if hF
      obtain ⟨hc111, hF⟩ := of_if hF
      obtain ⟨hc112, hF⟩ := of_if hF
      refine wp_reg tok (orc := orcL [(40, [⟨.pt false 4294967293 .unit, some ()⟩])]) (fz := []) (l := [1, 2, 5, 6]) (c := _) (.inr fun i h => h) h (by kernel_rfl) (AllP.cons hc110 (AllP.cons (PrefL.mk (l := [[], [], [.idx (Int.toNat v108)], [.idx (Int.toNat v108)]]) (p := [.idx (Int.toNat v108)]) rfl) (AllP.cons hc111 (AllP.cons hc112 (AllP.cons (show ([.idx (Int.toNat v108)] : Path) = [.idx (Int.toNat v108)] from rfl) AllP.nil))))) ?_
      intro a w h
      refine wp_reg tok (orc := orcL []) (fz := []) (l := [1, 2, 5, 6]) (c := _) (.inr fun i h => h) h (by kernel_rfl) (AllP.nil) ?_
      intro a w h
      exact ⟨((List.set v97 (Int.toNat v108) (List.append (List.getD v97 (Int.toNat v108) ([] : (List Int))) [v98])), (IntKind.i64.wrap (v98 + (1 : Int)))), hF, h.arrive (fz := []) (l := [1, 2, 5, 6]) (.inr fun i h => h) (by kernel_rfl)⟩
  · replace hF := of_f hb hF
    refine wp_exit ?_
    refine wp_reg_seq tok (orc := orcL []) (fz := []) (l := [4, 5]) (c := _) (.inr fun i h => h) h (by kernel_rfl) (AllP.nil) ?_
    intro a w h
    cases hF
    exact wp_ret (ret_okR tok h rfl (by kernel_rfl)).1

def f71.l22 (k : Nat) (x0 : ((List (Int × (Int × Int))) × ((List (Int × (Int × (Int × (Int × (Int × ByteArray)))))) × (List (Int × Int))))) (x1 : Int) (x2 : Int) : Nat → (Int × Int) → Option Bool
  | 0, _ => none
  | m22 + 1, (v37, v38) => if (decide ((v37 : Int) < v38)) then (if (((2 : Int) : Int) ≠ 0) then (if (0 ≤ (IntKind.i64.wrap (Int.tdiv (IntKind.i64.wrap (v37 + v38)) (2 : Int))) ∧ (IntKind.i64.wrap (Int.tdiv (IntKind.i64.wrap (v37 + v38)) (2 : Int))) < (List.length x0.2.2 : Int)) then ((f104 k (List.getD x0.2.2 (Int.toNat (IntKind.i64.wrap (Int.tdiv (IntKind.i64.wrap (v37 + v38)) (2 : Int)))) ((0 : Int), (0 : Int))) (x1, x2)).bind fun r39 => (if r39 then ((f71.l22 k x0 x1 x2) m22 ((IntKind.i64.wrap ((IntKind.i64.wrap (Int.tdiv (IntKind.i64.wrap (v37 + v38)) (2 : Int))) + (1 : Int))), v38)) else ((f71.l22 k x0 x1 x2) m22 (v37, (IntKind.i64.wrap (Int.tdiv (IntKind.i64.wrap (v37 + v38)) (2 : Int))))))) else none) else none) else (if (((decide ((v37 : Int) < (List.length x0.2.2 : Int))) = true) → (0 ≤ v37 ∧ v37 < (List.length x0.2.2 : Int))) then (some (bif (decide ((v37 : Int) < (List.length x0.2.2 : Int))) then (Sh.beq sh5 (List.getD x0.2.2 (Int.toNat v37) ((0 : Int), (0 : Int))) (x1, x2)) else false)) else none)
def f71 (k : Nat) (x0 : ((List (Int × (Int × Int))) × ((List (Int × (Int × (Int × (Int × (Int × ByteArray)))))) × (List (Int × Int))))) (x1 : Int) (x2 : Int) : Option Bool := f71.l22 k x0 x1 x2 k ((0 : Int), (List.length x0.2.2 : Int))
set_option maxRecDepth 100000 in
/-- 'spec.l9Banned'. -/
theorem c71 (k : Nat) (x0 : ((List (Int × (Int × Int))) × ((List (Int × (Int × (Int × (Int × (Int × ByteArray)))))) × (List (Int × Int))))) (x1 : Int) (x2 : Int) (r : Bool) (hF : f71 k x0 x1 x2 = some r) : PCall Try.prog 71 [⟨sh12, x0⟩, ⟨(.int .i64), x1⟩, ⟨(.int .i64), x2⟩] [⟨.bool, r⟩] := by
  refine pcall_intro Try.func71 rfl rfl (Nat.le_of_ble_eq_true rfl) ?_
  intro w0 Zi a w h
  rw [f71] at hF
  refine wp_reg_seq tok (orc := orcL []) (fz := []) (l := [1, 2, 3]) (c := _) (.inr fun i h => h) h (by kernel_rfl) (AllP.nil) ?_
  intro a w h
  refine wp_reg_seq tok (orc := orcL []) (fz := []) (l := [3, 7]) (c := _) (.inr fun i h => h) h (by kernel_rfl) (AllP.nil) ?_
  intro a w h
  refine wp_reg_seq tok (orc := orcL []) (fz := []) (l := [3, 7, 8]) (c := _) (.inr fun i h => h) h (by kernel_rfl) (AllP.nil) ?_
  intro a w h
  refine wp_reg_seq tok (orc := orcL []) (fz := []) (l := [3, 7, 8, 9]) (c := _) (.inr fun i h => h) h (by kernel_rfl) (AllP.nil) ?_
  intro a w h
  refine wp_seq <| wp_block ?_
  refine wp_loop_fuel (f71.l22 k x0 x1 x2) (fun ((v37, v38) : (Int × Int)) => [(3, .val sh11 (some x0)), (7, .val sh14 (some (x1, x2))), (8, .val (.int .i64) v37), (9, .val (.int .i64) v38)]) (fun v h => by obtain ⟨v37, v38⟩ := v; rw [f71.l22] at h; cases h) ?_ hF (h.arrive (fz := []) (l := [3, 7, 8, 9]) (.inr fun i h => h) (by kernel_rfl))
  intro m22 v a w hF h
  obtain ⟨v37, v38⟩ := v
  rw [f71.l22] at hF
  refine wp_seq ?_
  refine wp_reg_seq tok (orc := orcL []) (fz := []) (l := [3, 7, 8, 9, 19]) (c := _) (.inr fun i h => h) h (by kernel_rfl) (AllP.nil) ?_
  intro a w h
  refine wp_if h (b := (decide ((v37 : Int) < v38))) (by kernel_rfl) (fun hb => ?_) (fun hb => ?_)
  · replace hF := of_t hb hF
    refine wp_skip ?_
    refine wp_block ?_
    obtain ⟨hc42, hF⟩ := of_if hF
    refine wp_reg_seq tok (orc := orcL []) (fz := []) (l := [3, 7, 8, 9, 10]) (c := _) (.inr fun i h => h) h (by kernel_rfl) (AllP.cons hc42 AllP.nil) ?_
    intro a w h
    obtain ⟨hc40, hF⟩ := of_if hF
    obtain ⟨r39, hr41, hF⟩ := of_bind hF
    refine wp_regy_seq tok (orc := orcL [(30, [⟨.bool, r39⟩])]) (fz := []) (l := [3, 7, 8, 9, 10, 30]) (c := _) [] 7 (.inr fun i h => h) h (by kernel_rfl) (by kernel_rfl) (AllP.cons hc40 (AllP.cons (c104 k (List.getD x0.2.2 (Int.toNat (IntKind.i64.wrap (Int.tdiv (IntKind.i64.wrap (v37 + v38)) (2 : Int)))) ((0 : Int), (0 : Int))) (x1, x2) r39 hr41) AllP.nil)) ?_
    intro a w h
    refine wp_if h (b := r39) (by kernel_rfl) (fun hb => ?_) (fun hb => ?_)
    · replace hF := of_t hb hF
      refine wp_reg tok (orc := orcL []) (fz := []) (l := [3, 7, 8, 9]) (c := _) (.inr fun i h => h) h (by kernel_rfl) (AllP.nil) ?_
      intro a w h
      exact ⟨((IntKind.i64.wrap ((IntKind.i64.wrap (Int.tdiv (IntKind.i64.wrap (v37 + v38)) (2 : Int))) + (1 : Int))), v38), hF, h.arrive (fz := []) (l := [3, 7, 8, 9]) (.inr fun i h => h) (by kernel_rfl)⟩
    · replace hF := of_f hb hF
      refine wp_reg tok (orc := orcL []) (fz := []) (l := [3, 7, 8, 9]) (c := _) (.inr fun i h => h) h (by kernel_rfl) (AllP.nil) ?_
      intro a w h
      exact ⟨(v37, (IntKind.i64.wrap (Int.tdiv (IntKind.i64.wrap (v37 + v38)) (2 : Int)))), hF, h.arrive (fz := []) (l := [3, 7, 8, 9]) (.inr fun i h => h) (by kernel_rfl)⟩
  · replace hF := of_f hb hF
    refine wp_exit ?_
    obtain ⟨hc43, hF⟩ := of_if hF
    refine wp_regy_seq tok (orc := orcL []) (fz := []) (l := [6]) (c := _) [] 15 (.inr fun i h => h) h (by kernel_rfl) (by kernel_rfl) (AllP.cons hc43 (AllP.cons (fun (_ : ((decide ((v37 : Int) < (List.length x0.2.2 : Int))) = true)) => (And.intro (show eqTy Try.prog 9 82 (.st (.pair (.int .i64) (.int .i64))) = true from by kernel_rfl) (show Try.prog.eqGuardType Try.prog.depth 82 = false from by kernel_rfl))) AllP.nil)) ?_
    intro a w h
    cases hF
    exact wp_ret (ret_okR tok h rfl (by kernel_rfl)).1

def f116.j85 (k : Nat) (v78 : Int) (q46 : ((List Int) × Int) → Option (List Int)) : (List Int) → Option (List Int)
  | v84 => q46 (v84, (IntKind.i64.wrap (v78 + (1 : Int))))
def f116.l46 (k : Nat) (x1 : (List (List Int))) (x0 : ((List (Int × (Int × Int))) × ((List (Int × (Int × (Int × (Int × (Int × ByteArray)))))) × (List (Int × Int))))) (x2 : Int) : Nat → ((List Int) × Int) → Option (List Int)
  | 0, _ => none
  | m46 + 1, (v77, v78) => if (decide ((v78 : Int) < (List.length (List.getD x1 (Int.toNat (List.getD x0.2.1 (Int.toNat x2) ((0 : Int), ((0 : Int), ((0 : Int), ((0 : Int), ((0 : Int), (⟨#[]⟩ : ByteArray))))))).2.1) ([] : (List Int))) : Int))) then (if (0 ≤ v78 ∧ v78 < (List.length (List.getD x1 (Int.toNat (List.getD x0.2.1 (Int.toNat x2) ((0 : Int), ((0 : Int), ((0 : Int), ((0 : Int), ((0 : Int), (⟨#[]⟩ : ByteArray))))))).2.1) ([] : (List Int))) : Int)) then ((f71 k x0 x2 (List.getD (List.getD x1 (Int.toNat (List.getD x0.2.1 (Int.toNat x2) ((0 : Int), ((0 : Int), ((0 : Int), ((0 : Int), ((0 : Int), (⟨#[]⟩ : ByteArray))))))).2.1) ([] : (List Int))) (Int.toNat v78) (0 : Int))).bind fun r86 => (if (!r86) then (if (0 ≤ v78 ∧ v78 < (List.length (List.getD x1 (Int.toNat (List.getD x0.2.1 (Int.toNat x2) ((0 : Int), ((0 : Int), ((0 : Int), ((0 : Int), ((0 : Int), (⟨#[]⟩ : ByteArray))))))).2.1) ([] : (List Int))) : Int)) then (if ((List.length v77 + List.length [(List.getD (List.getD x1 (Int.toNat (List.getD x0.2.1 (Int.toNat x2) ((0 : Int), ((0 : Int), ((0 : Int), ((0 : Int), ((0 : Int), (⟨#[]⟩ : ByteArray))))))).2.1) ([] : (List Int))) (Int.toNat v78) (0 : Int))]) * 8 ≤ 140737488355328) then (f116.j85 k v78 ((f116.l46 k x1 x0 x2) m46) (v77 ++ [(List.getD (List.getD x1 (Int.toNat (List.getD x0.2.1 (Int.toNat x2) ((0 : Int), ((0 : Int), ((0 : Int), ((0 : Int), ((0 : Int), (⟨#[]⟩ : ByteArray))))))).2.1) ([] : (List Int))) (Int.toNat v78) (0 : Int))])) else none) else none) else (f116.j85 k v78 ((f116.l46 k x1 x0 x2) m46) v77))) else none) else (some v77)
def f116 (k : Nat) (x0 : ((List (Int × (Int × Int))) × ((List (Int × (Int × (Int × (Int × (Int × ByteArray)))))) × (List (Int × Int))))) (x1 : (List (List Int))) (x2 : Int) : Option (List Int) := if (0 ≤ x2 ∧ x2 < (List.length x0.2.1 : Int)) then (if (0 ≤ (List.getD x0.2.1 (Int.toNat x2) ((0 : Int), ((0 : Int), ((0 : Int), ((0 : Int), ((0 : Int), (⟨#[]⟩ : ByteArray))))))).2.1 ∧ (List.getD x0.2.1 (Int.toNat x2) ((0 : Int), ((0 : Int), ((0 : Int), ((0 : Int), ((0 : Int), (⟨#[]⟩ : ByteArray))))))).2.1 < (List.length x1 : Int)) then (f116.l46 k x1 x0 x2 k (([] : List Int), (0 : Int))) else none) else none
set_option maxRecDepth 100000 in
/-- 'spec.l17Next'. -/
theorem c116 (k : Nat) (x0 : ((List (Int × (Int × Int))) × ((List (Int × (Int × (Int × (Int × (Int × ByteArray)))))) × (List (Int × Int))))) (x1 : (List (List Int))) (x2 : Int) (r : (List Int)) (hF : f116 k x0 x1 x2 = some r) : PCall Try.prog 116 [⟨sh12, x0⟩, ⟨sh15, x1⟩, ⟨(.int .i64), x2⟩] [⟨(.sl true 2 (.int .i64)), r⟩] := by
  refine pcall_intro Try.func116 rfl rfl (Nat.le_of_ble_eq_true rfl) ?_
  intro w0 Zi a w h
  rw [f116] at hF
  refine wp_reg_seq tok (orc := orcL []) (fz := []) (l := [1, 2, 3]) (c := _) (.inr fun i h => h) h (by kernel_rfl) (AllP.nil) ?_
  intro a w h
  refine wp_reg_seq tok (orc := orcL []) (fz := []) (l := [1, 2, 3, 7]) (c := _) (.inr fun i h => h) h (by kernel_rfl) (AllP.nil) ?_
  intro a w h
  obtain ⟨hc91, hF⟩ := of_if hF
  obtain ⟨hc92, hF⟩ := of_if hF
  refine wp_reg_seq tok (orc := orcL []) (fz := []) (l := [2, 3, 7, 8]) (c := _) (.inr fun i h => h) h (by kernel_rfl) (AllP.cons hc91 (AllP.cons hc92 AllP.nil)) ?_
  intro a w h
  refine wp_seq ?_
  refine wp_reg_seq tok (orc := orcL []) (fz := []) (l := [2, 3, 7, 8, 9]) (c := _) (.inr fun i h => h) h (by kernel_rfl) (AllP.nil) ?_
  intro a w h
  refine wp_block ?_
  refine wp_loop_fuel (f116.l46 k x1 x0 x2) (fun ((v77, v78) : ((List Int) × Int)) => [(2, .val (.int .i64) x2), (3, .val sh11 (some x0)), (7, .val (.sl true 2 (.int .i64)) v77), (8, .val (.sl false 2 (.int .i64)) (List.getD x1 (Int.toNat (List.getD x0.2.1 (Int.toNat x2) ((0 : Int), ((0 : Int), ((0 : Int), ((0 : Int), ((0 : Int), (⟨#[]⟩ : ByteArray))))))).2.1) ([] : (List Int)))), (9, .val (.int .i64) v78)]) (fun v h => by obtain ⟨v77, v78⟩ := v; rw [f116.l46] at h; cases h) ?_ hF (h.arrive (fz := []) (l := [2, 3, 7, 8, 9]) (.inr fun i h => h) (by kernel_rfl))
  intro m46 v a w hF h
  obtain ⟨v77, v78⟩ := v
  rw [f116.l46] at hF
  refine wp_seq ?_
  refine wp_reg_seq tok (orc := orcL []) (fz := []) (l := [2, 3, 7, 8, 9, 23]) (c := _) (.inr fun i h => h) h (by kernel_rfl) (AllP.nil) ?_
  intro a w h
  refine wp_if h (b := (decide ((v78 : Int) < (List.length (List.getD x1 (Int.toNat (List.getD x0.2.1 (Int.toNat x2) ((0 : Int), ((0 : Int), ((0 : Int), ((0 : Int), ((0 : Int), (⟨#[]⟩ : ByteArray))))))).2.1) ([] : (List Int))) : Int)))) (by kernel_rfl) (fun hb => ?_) (fun hb => ?_)
  · replace hF := of_t hb hF
    refine wp_skip ?_
    refine wp_mid (fun a w => ∃ v : (List Int), f116.j85 k v78 ((f116.l46 k x1 x0 x2) m46) v = some r ∧ Rel w0 (fun _ => False) Zi Try.f116.ntmps ((fun (v84 : (List Int)) => ([(2, .val (.int .i64) x2), (3, .val sh11 (some x0)), (7, .val (.sl true 2 (.int .i64)) v84), (8, .val (.sl false 2 (.int .i64)) (List.getD x1 (Int.toNat (List.getD x0.2.1 (Int.toNat x2) ((0 : Int), ((0 : Int), ((0 : Int), ((0 : Int), ((0 : Int), (⟨#[]⟩ : ByteArray))))))).2.1) ([] : (List Int)))), (9, .val (.int .i64) v78)] : SS)) v) a w) ?_ ?_
    ·
      refine wp_block ?_
      obtain ⟨hc89, hF⟩ := of_if hF
      obtain ⟨r86, hr90, hF⟩ := of_bind hF
      refine wp_regy_seq tok (orc := orcL [(32, [⟨.bool, r86⟩])]) (fz := []) (l := [2, 3, 7, 8, 9, 33]) (c := _) [] 8 (.inr fun i h => h) h (by kernel_rfl) (by kernel_rfl) (AllP.cons hc89 (AllP.cons (c71 k x0 x2 (List.getD (List.getD x1 (Int.toNat (List.getD x0.2.1 (Int.toNat x2) ((0 : Int), ((0 : Int), ((0 : Int), ((0 : Int), ((0 : Int), (⟨#[]⟩ : ByteArray))))))).2.1) ([] : (List Int))) (Int.toNat v78) (0 : Int)) r86 hr90) AllP.nil)) ?_
      intro a w h
      refine wp_if h (b := (!r86)) (by kernel_rfl) (fun hb => ?_) (fun hb => ?_)
      · replace hF := of_t hb hF
        obtain ⟨hc87, hF⟩ := of_if hF
        obtain ⟨hc88, hF⟩ := of_if hF
        refine wp_reg tok (orc := orcL []) (fz := []) (l := [2, 3, 7, 8, 9]) (c := _) (.inr fun i h => h) h (by kernel_rfl) (AllP.cons hc87 (AllP.cons hc88 AllP.nil)) ?_
        intro a w h
        exact ⟨(v77 ++ [(List.getD (List.getD x1 (Int.toNat (List.getD x0.2.1 (Int.toNat x2) ((0 : Int), ((0 : Int), ((0 : Int), ((0 : Int), ((0 : Int), (⟨#[]⟩ : ByteArray))))))).2.1) ([] : (List Int))) (Int.toNat v78) (0 : Int))]), hF, h.arrive (fz := []) (l := [2, 3, 7, 8, 9]) (.inr fun i h => h) (by kernel_rfl)⟩
      · replace hF := of_f hb hF
        refine wp_skip ?_
        exact ⟨v77, hF, h.arrive (fz := []) (l := [2, 3, 7, 8, 9]) (.inr fun i h => h) (by kernel_rfl)⟩
    · rintro a w ⟨v84, hF, h⟩
      rw [f116.j85] at hF
      refine wp_reg tok (orc := orcL []) (fz := []) (l := [2, 3, 7, 8, 9]) (c := _) (.inr fun i h => h) h (by kernel_rfl) (AllP.nil) ?_
      intro a w h
      exact ⟨(v84, (IntKind.i64.wrap (v78 + (1 : Int)))), hF, h.arrive (fz := []) (l := [2, 3, 7, 8, 9]) (.inr fun i h => h) (by kernel_rfl)⟩
  · replace hF := of_f hb hF
    refine wp_exit ?_
    refine wp_reg_seq tok (orc := orcL []) (fz := []) (l := [6, 7]) (c := _) (.inr fun i h => h) h (by kernel_rfl) (AllP.nil) ?_
    intro a w h
    cases hF
    exact wp_ret (ret_okR tok h rfl (by kernel_rfl)).1

def f129 (k : Nat) (x0 : Int) : Option Int := if (decide ((x0 : Int) < (0 : Int))) then (some (IntKind.i64.wrap (0 - x0))) else (some x0)
set_option maxRecDepth 100000 in
/-- 'spec.l1Abs'. -/
theorem c129 (k : Nat) (x0 : Int) (r : Int) (hF : f129 k x0 = some r) : PCall Try.prog 129 [⟨(.int .i64), x0⟩] [⟨(.int .i64), r⟩] := by
  refine pcall_intro Try.func129 rfl rfl (Nat.le_of_ble_eq_true rfl) ?_
  intro w0 Zi a w h
  rw [f129] at hF
  refine wp_reg_seq tok (orc := orcL []) (fz := []) (l := [0]) (c := _) (.inr fun i h => h) h (by kernel_rfl) (AllP.nil) ?_
  intro a w h
  refine wp_seq ?_
  refine wp_reg_seq tok (orc := orcL []) (fz := []) (l := [0, 4]) (c := _) (.inr fun i h => h) h (by kernel_rfl) (AllP.nil) ?_
  intro a w h
  refine wp_if h (b := (decide ((x0 : Int) < (0 : Int)))) (by kernel_rfl) (fun hb => ?_) (fun hb => ?_)
  · replace hF := of_t hb hF
    refine wp_reg_seq tok (orc := orcL []) (fz := []) (l := [2]) (c := _) (.inr fun i h => h) h (by kernel_rfl) (AllP.nil) ?_
    intro a w h
    cases hF
    exact wp_ret (ret_okR tok h rfl (by kernel_rfl)).1
  · replace hF := of_f hb hF
    refine wp_skip ?_
    refine wp_reg_seq tok (orc := orcL []) (fz := []) (l := [2]) (c := _) (.inr fun i h => h) h (by kernel_rfl) (AllP.nil) ?_
    intro a w h
    cases hF
    exact wp_ret (ret_okR tok h rfl (by kernel_rfl)).1

def f114 (k : Nat) (x0 : (Int × Int)) (x1 : (Int × Int)) : Option Int := (f103 k x0).bind fun r1 => ((if ((!r1) = false) then f103 k x1 else some default).bind fun r2 => (if (bif (bif (!r1) then true else (!r2)) then true else (Sh.beq sh5 x0 x1)) then (some (-1 : Int)) else ((f129 k (IntKind.i64.wrap (x1.1 - x0.1))).bind fun r3 => ((f129 k (IntKind.i64.wrap (x1.2 - x0.2))).bind fun r4 => (if (bif (decide (((IntKind.i64.wrap ((5 : Int) * r4)) : Int) < (IntKind.i64.wrap ((2 : Int) * r3)))) then (decide (((IntKind.i64.wrap (x1.1 - x0.1)) : Int) > (0 : Int))) else false) then (some (0 : Int)) else (if (decide (((IntKind.i64.wrap ((5 : Int) * r4)) : Int) < (IntKind.i64.wrap ((2 : Int) * r3)))) then (some (4 : Int)) else (if (bif (decide (((IntKind.i64.wrap ((5 : Int) * r3)) : Int) < (IntKind.i64.wrap ((2 : Int) * r4)))) then (decide (((IntKind.i64.wrap (x1.2 - x0.2)) : Int) > (0 : Int))) else false) then (some (2 : Int)) else (if (decide (((IntKind.i64.wrap ((5 : Int) * r3)) : Int) < (IntKind.i64.wrap ((2 : Int) * r4)))) then (some (6 : Int)) else (if (bif (decide (((IntKind.i64.wrap (x1.1 - x0.1)) : Int) > (0 : Int))) then (decide (((IntKind.i64.wrap (x1.2 - x0.2)) : Int) > (0 : Int))) else false) then (some (1 : Int)) else (if (bif (decide (((IntKind.i64.wrap (x1.1 - x0.1)) : Int) < (0 : Int))) then (decide (((IntKind.i64.wrap (x1.2 - x0.2)) : Int) > (0 : Int))) else false) then (some (3 : Int)) else (if (decide (((IntKind.i64.wrap (x1.1 - x0.1)) : Int) < (0 : Int))) then (some (5 : Int)) else (some (7 : Int)))))))))))))
set_option maxRecDepth 100000 in
/-- 'spec.Heading'. -/
theorem c114 (k : Nat) (x0 : (Int × Int)) (x1 : (Int × Int)) (r : Int) (hF : f114 k x0 x1 = some r) : PCall Try.prog 114 [⟨sh5, x0⟩, ⟨sh5, x1⟩] [⟨(.int .i64), r⟩] := by
  refine pcall_intro Try.func114 rfl rfl (Nat.le_of_ble_eq_true rfl) ?_
  intro w0 Zi a w h
  rw [f114] at hF
  refine wp_reg_seq tok (orc := orcL []) (fz := []) (l := [2, 3]) (c := _) (.inr fun i h => h) h (by kernel_rfl) (AllP.nil) ?_
  intro a w h
  refine wp_seq ?_
  obtain ⟨r1, hr7, hF⟩ := of_bind hF
  obtain ⟨r2, hr8, hF⟩ := of_bind hF
  refine wp_reg_seq tok (orc := orcL [(10, [⟨.bool, r1⟩]), (14, [⟨.bool, r2⟩])]) (fz := []) (l := [2, 3, 21]) (c := _) (.inr fun i h => h) h (by kernel_rfl) (AllP.cons (c103 k x0 r1 hr7) (AllP.cons (fun (hg : ((!r1) = false)) => c103 k x1 r2 (of_g hg hr8)) (AllP.cons (fun (_ : ((bif (!r1) then true else (!r2)) = false)) => (And.intro (show eqTy Try.prog 9 105 (.st (.pair (.int .i64) (.int .i64))) = true from by kernel_rfl) (show Try.prog.eqGuardType Try.prog.depth 105 = false from by kernel_rfl))) AllP.nil))) ?_
  intro a w h
  refine wp_if h (b := (bif (bif (!r1) then true else (!r2)) then true else (Sh.beq sh5 x0 x1))) (by kernel_rfl) (fun hb => ?_) (fun hb => ?_)
  · replace hF := of_t hb hF
    refine wp_reg_seq tok (orc := orcL []) (fz := []) (l := [4]) (c := _) (.inr fun i h => h) h (by kernel_rfl) (AllP.nil) ?_
    intro a w h
    cases hF
    exact wp_ret (ret_okR tok h rfl (by kernel_rfl)).1
  · replace hF := of_f hb hF
    refine wp_skip ?_
    refine wp_reg_seq tok (orc := orcL []) (fz := []) (l := [2, 3, 5]) (c := _) (.inr fun i h => h) h (by kernel_rfl) (AllP.nil) ?_
    intro a w h
    refine wp_reg_seq tok (orc := orcL []) (fz := []) (l := [5, 6]) (c := _) (.inr fun i h => h) h (by kernel_rfl) (AllP.nil) ?_
    intro a w h
    obtain ⟨r3, hr6, hF⟩ := of_bind hF
    refine wp_reg_seq tok (orc := orcL [(33, [⟨(.int .i64), r3⟩])]) (fz := []) (l := [5, 6, 7]) (c := _) (.inr fun i h => h) h (by kernel_rfl) (AllP.cons (c129 k (IntKind.i64.wrap (x1.1 - x0.1)) r3 hr6) AllP.nil) ?_
    intro a w h
    obtain ⟨r4, hr5, hF⟩ := of_bind hF
    refine wp_reg_seq tok (orc := orcL [(35, [⟨(.int .i64), r4⟩])]) (fz := []) (l := [5, 6, 7, 8]) (c := _) (.inr fun i h => h) h (by kernel_rfl) (AllP.cons (c129 k (IntKind.i64.wrap (x1.2 - x0.2)) r4 hr5) AllP.nil) ?_
    intro a w h
    refine wp_seq <| wp_block ?_
    refine wp_reg_seq tok (orc := orcL []) (fz := []) (l := [5, 6, 7, 8, 36]) (c := _) (.inr fun i h => h) h (by kernel_rfl) (AllP.nil) ?_
    intro a w h
    refine wp_if h (b := (bif (decide (((IntKind.i64.wrap ((5 : Int) * r4)) : Int) < (IntKind.i64.wrap ((2 : Int) * r3)))) then (decide (((IntKind.i64.wrap (x1.1 - x0.1)) : Int) > (0 : Int))) else false)) (by kernel_rfl) (fun hb => ?_) (fun hb => ?_)
    · replace hF := of_t hb hF
      refine wp_reg_seq tok (orc := orcL []) (fz := []) (l := [4]) (c := _) (.inr fun i h => h) h (by kernel_rfl) (AllP.nil) ?_
      intro a w h
      cases hF
      exact wp_ret (ret_okR tok h rfl (by kernel_rfl)).1
    · replace hF := of_f hb hF
      refine wp_reg_seq tok (orc := orcL []) (fz := []) (l := [5, 6, 7, 8, 46]) (c := _) (.inr fun i h => h) h (by kernel_rfl) (AllP.nil) ?_
      intro a w h
      refine wp_if h (b := (decide (((IntKind.i64.wrap ((5 : Int) * r4)) : Int) < (IntKind.i64.wrap ((2 : Int) * r3))))) (by kernel_rfl) (fun hb => ?_) (fun hb => ?_)
      · replace hF := of_t hb hF
        refine wp_reg_seq tok (orc := orcL []) (fz := []) (l := [4]) (c := _) (.inr fun i h => h) h (by kernel_rfl) (AllP.nil) ?_
        intro a w h
        cases hF
        exact wp_ret (ret_okR tok h rfl (by kernel_rfl)).1
      · replace hF := of_f hb hF
        refine wp_reg_seq tok (orc := orcL []) (fz := []) (l := [5, 6, 7, 8, 52]) (c := _) (.inr fun i h => h) h (by kernel_rfl) (AllP.nil) ?_
        intro a w h
        refine wp_if h (b := (bif (decide (((IntKind.i64.wrap ((5 : Int) * r3)) : Int) < (IntKind.i64.wrap ((2 : Int) * r4)))) then (decide (((IntKind.i64.wrap (x1.2 - x0.2)) : Int) > (0 : Int))) else false)) (by kernel_rfl) (fun hb => ?_) (fun hb => ?_)
        · replace hF := of_t hb hF
          refine wp_reg_seq tok (orc := orcL []) (fz := []) (l := [4]) (c := _) (.inr fun i h => h) h (by kernel_rfl) (AllP.nil) ?_
          intro a w h
          cases hF
          exact wp_ret (ret_okR tok h rfl (by kernel_rfl)).1
        · replace hF := of_f hb hF
          refine wp_reg_seq tok (orc := orcL []) (fz := []) (l := [5, 6, 62]) (c := _) (.inr fun i h => h) h (by kernel_rfl) (AllP.nil) ?_
          intro a w h
          refine wp_if h (b := (decide (((IntKind.i64.wrap ((5 : Int) * r3)) : Int) < (IntKind.i64.wrap ((2 : Int) * r4))))) (by kernel_rfl) (fun hb => ?_) (fun hb => ?_)
          · replace hF := of_t hb hF
            refine wp_reg_seq tok (orc := orcL []) (fz := []) (l := [4]) (c := _) (.inr fun i h => h) h (by kernel_rfl) (AllP.nil) ?_
            intro a w h
            cases hF
            exact wp_ret (ret_okR tok h rfl (by kernel_rfl)).1
          · replace hF := of_f hb hF
            refine wp_reg_seq tok (orc := orcL []) (fz := []) (l := [5, 6, 68]) (c := _) (.inr fun i h => h) h (by kernel_rfl) (AllP.nil) ?_
            intro a w h
            refine wp_if h (b := (bif (decide (((IntKind.i64.wrap (x1.1 - x0.1)) : Int) > (0 : Int))) then (decide (((IntKind.i64.wrap (x1.2 - x0.2)) : Int) > (0 : Int))) else false)) (by kernel_rfl) (fun hb => ?_) (fun hb => ?_)
            · replace hF := of_t hb hF
              refine wp_reg_seq tok (orc := orcL []) (fz := []) (l := [4]) (c := _) (.inr fun i h => h) h (by kernel_rfl) (AllP.nil) ?_
              intro a w h
              cases hF
              exact wp_ret (ret_okR tok h rfl (by kernel_rfl)).1
            · replace hF := of_f hb hF
              refine wp_reg_seq tok (orc := orcL []) (fz := []) (l := [5, 75]) (c := _) (.inr fun i h => h) h (by kernel_rfl) (AllP.nil) ?_
              intro a w h
              refine wp_if h (b := (bif (decide (((IntKind.i64.wrap (x1.1 - x0.1)) : Int) < (0 : Int))) then (decide (((IntKind.i64.wrap (x1.2 - x0.2)) : Int) > (0 : Int))) else false)) (by kernel_rfl) (fun hb => ?_) (fun hb => ?_)
              · replace hF := of_t hb hF
                refine wp_reg_seq tok (orc := orcL []) (fz := []) (l := [4]) (c := _) (.inr fun i h => h) h (by kernel_rfl) (AllP.nil) ?_
                intro a w h
                cases hF
                exact wp_ret (ret_okR tok h rfl (by kernel_rfl)).1
              · replace hF := of_f hb hF
                refine wp_reg_seq tok (orc := orcL []) (fz := []) (l := [82]) (c := _) (.inr fun i h => h) h (by kernel_rfl) (AllP.nil) ?_
                intro a w h
                refine wp_if h (b := (decide (((IntKind.i64.wrap (x1.1 - x0.1)) : Int) < (0 : Int)))) (by kernel_rfl) (fun hb => ?_) (fun hb => ?_)
                · replace hF := of_t hb hF
                  refine wp_reg_seq tok (orc := orcL []) (fz := []) (l := [4]) (c := _) (.inr fun i h => h) h (by kernel_rfl) (AllP.nil) ?_
                  intro a w h
                  cases hF
                  exact wp_ret (ret_okR tok h rfl (by kernel_rfl)).1
                · replace hF := of_f hb hF
                  refine wp_skip ?_
                  refine wp_reg_seq tok (orc := orcL []) (fz := []) (l := [4]) (c := _) (.inr fun i h => h) h (by kernel_rfl) (AllP.nil) ?_
                  intro a w h
                  cases hF
                  exact wp_ret (ret_okR tok h rfl (by kernel_rfl)).1

def f117 (k : Nat) (x0 : ((List (Int × (Int × Int))) × ((List (Int × (Int × (Int × (Int × (Int × ByteArray)))))) × (List (Int × Int))))) (x1 : Int) (x2 : Int) : Option Int := if (0 ≤ x1 ∧ x1 < (List.length x0.2.1 : Int)) then (if (0 ≤ x2 ∧ x2 < (List.length x0.2.1 : Int)) then (if (((List.getD x0.2.1 (Int.toNat x2) ((0 : Int), ((0 : Int), ((0 : Int), ((0 : Int), ((0 : Int), (⟨#[]⟩ : ByteArray))))))).2.1 : Int) == (List.getD x0.2.1 (Int.toNat x1) ((0 : Int), ((0 : Int), ((0 : Int), ((0 : Int), ((0 : Int), (⟨#[]⟩ : ByteArray))))))).1) then (some (8 : Int)) else (if (0 ≤ (List.getD x0.2.1 (Int.toNat x1) ((0 : Int), ((0 : Int), ((0 : Int), ((0 : Int), ((0 : Int), (⟨#[]⟩ : ByteArray))))))).1 ∧ (List.getD x0.2.1 (Int.toNat x1) ((0 : Int), ((0 : Int), ((0 : Int), ((0 : Int), ((0 : Int), (⟨#[]⟩ : ByteArray))))))).1 < (List.length x0.1 : Int)) then (if (0 ≤ (List.getD x0.2.1 (Int.toNat x1) ((0 : Int), ((0 : Int), ((0 : Int), ((0 : Int), ((0 : Int), (⟨#[]⟩ : ByteArray))))))).2.1 ∧ (List.getD x0.2.1 (Int.toNat x1) ((0 : Int), ((0 : Int), ((0 : Int), ((0 : Int), ((0 : Int), (⟨#[]⟩ : ByteArray))))))).2.1 < (List.length x0.1 : Int)) then ((f114 k (List.getD x0.1 (Int.toNat (List.getD x0.2.1 (Int.toNat x1) ((0 : Int), ((0 : Int), ((0 : Int), ((0 : Int), ((0 : Int), (⟨#[]⟩ : ByteArray))))))).1) ((0 : Int), ((0 : Int), (0 : Int)))).2 (List.getD x0.1 (Int.toNat (List.getD x0.2.1 (Int.toNat x1) ((0 : Int), ((0 : Int), ((0 : Int), ((0 : Int), ((0 : Int), (⟨#[]⟩ : ByteArray))))))).2.1) ((0 : Int), ((0 : Int), (0 : Int)))).2).bind fun r1 => (if (0 ≤ (List.getD x0.2.1 (Int.toNat x2) ((0 : Int), ((0 : Int), ((0 : Int), ((0 : Int), ((0 : Int), (⟨#[]⟩ : ByteArray))))))).1 ∧ (List.getD x0.2.1 (Int.toNat x2) ((0 : Int), ((0 : Int), ((0 : Int), ((0 : Int), ((0 : Int), (⟨#[]⟩ : ByteArray))))))).1 < (List.length x0.1 : Int)) then (if (0 ≤ (List.getD x0.2.1 (Int.toNat x2) ((0 : Int), ((0 : Int), ((0 : Int), ((0 : Int), ((0 : Int), (⟨#[]⟩ : ByteArray))))))).2.1 ∧ (List.getD x0.2.1 (Int.toNat x2) ((0 : Int), ((0 : Int), ((0 : Int), ((0 : Int), ((0 : Int), (⟨#[]⟩ : ByteArray))))))).2.1 < (List.length x0.1 : Int)) then ((f114 k (List.getD x0.1 (Int.toNat (List.getD x0.2.1 (Int.toNat x2) ((0 : Int), ((0 : Int), ((0 : Int), ((0 : Int), ((0 : Int), (⟨#[]⟩ : ByteArray))))))).1) ((0 : Int), ((0 : Int), (0 : Int)))).2 (List.getD x0.1 (Int.toNat (List.getD x0.2.1 (Int.toNat x2) ((0 : Int), ((0 : Int), ((0 : Int), ((0 : Int), ((0 : Int), (⟨#[]⟩ : ByteArray))))))).2.1) ((0 : Int), ((0 : Int), (0 : Int)))).2).bind fun r2 => (if (bif (decide ((r1 : Int) < (0 : Int))) then true else (decide ((r2 : Int) < (0 : Int)))) then (some (0 : Int)) else (if (((8 : Int) : Int) ≠ 0) then (some (Int.tmod (IntKind.i64.wrap ((IntKind.i64.wrap (r2 - r1)) + (8 : Int))) (8 : Int))) else none))) else none) else none)) else none) else none)) else none) else none
set_option maxRecDepth 100000 in
/-- 'spec.l17Wind'. -/
theorem c117 (k : Nat) (x0 : ((List (Int × (Int × Int))) × ((List (Int × (Int × (Int × (Int × (Int × ByteArray)))))) × (List (Int × Int))))) (x1 : Int) (x2 : Int) (r : Int) (hF : f117 k x0 x1 x2 = some r) : PCall Try.prog 117 [⟨sh12, x0⟩, ⟨(.int .i64), x1⟩, ⟨(.int .i64), x2⟩] [⟨(.int .i64), r⟩] := by
  refine pcall_intro Try.func117 rfl rfl (Nat.le_of_ble_eq_true rfl) ?_
  intro w0 Zi a w h
  rw [f117] at hF
  refine wp_reg_seq tok (orc := orcL []) (fz := []) (l := [1, 2, 3]) (c := _) (.inr fun i h => h) h (by kernel_rfl) (AllP.nil) ?_
  intro a w h
  obtain ⟨hc11, hF⟩ := of_if hF
  refine wp_reg_seq tok (orc := orcL []) (fz := []) (l := [2, 3, 7]) (c := _) (.inr fun i h => h) h (by kernel_rfl) (AllP.cons hc11 AllP.nil) ?_
  intro a w h
  obtain ⟨hc10, hF⟩ := of_if hF
  refine wp_reg_seq tok (orc := orcL []) (fz := []) (l := [3, 7, 8]) (c := _) (.inr fun i h => h) h (by kernel_rfl) (AllP.cons hc10 AllP.nil) ?_
  intro a w h
  refine wp_seq ?_
  refine wp_reg_seq tok (orc := orcL []) (fz := []) (l := [3, 7, 8, 25]) (c := _) (.inr fun i h => h) h (by kernel_rfl) (AllP.nil) ?_
  intro a w h
  refine wp_if h (b := (((List.getD x0.2.1 (Int.toNat x2) ((0 : Int), ((0 : Int), ((0 : Int), ((0 : Int), ((0 : Int), (⟨#[]⟩ : ByteArray))))))).2.1 : Int) == (List.getD x0.2.1 (Int.toNat x1) ((0 : Int), ((0 : Int), ((0 : Int), ((0 : Int), ((0 : Int), (⟨#[]⟩ : ByteArray))))))).1)) (by kernel_rfl) (fun hb => ?_) (fun hb => ?_)
  · replace hF := of_t hb hF
    refine wp_reg_seq tok (orc := orcL []) (fz := []) (l := [6]) (c := _) (.inr fun i h => h) h (by kernel_rfl) (AllP.nil) ?_
    intro a w h
    cases hF
    exact wp_ret (ret_okR tok h rfl (by kernel_rfl)).1
  · replace hF := of_f hb hF
    refine wp_skip ?_
    obtain ⟨hc7, hF⟩ := of_if hF
    obtain ⟨hc8, hF⟩ := of_if hF
    obtain ⟨r1, hr9, hF⟩ := of_bind hF
    refine wp_regy_seq tok (orc := orcL [(40, [⟨(.int .i64), r1⟩])]) (fz := []) (l := [3, 8, 9]) (c := _) [] 16 (.inr fun i h => h) h (by kernel_rfl) (by kernel_rfl) (AllP.cons hc7 (AllP.cons hc8 (AllP.cons (c114 k (List.getD x0.1 (Int.toNat (List.getD x0.2.1 (Int.toNat x1) ((0 : Int), ((0 : Int), ((0 : Int), ((0 : Int), ((0 : Int), (⟨#[]⟩ : ByteArray))))))).1) ((0 : Int), ((0 : Int), (0 : Int)))).2 (List.getD x0.1 (Int.toNat (List.getD x0.2.1 (Int.toNat x1) ((0 : Int), ((0 : Int), ((0 : Int), ((0 : Int), ((0 : Int), (⟨#[]⟩ : ByteArray))))))).2.1) ((0 : Int), ((0 : Int), (0 : Int)))).2 r1 hr9) AllP.nil))) ?_
    intro a w h
    obtain ⟨hc4, hF⟩ := of_if hF
    obtain ⟨hc5, hF⟩ := of_if hF
    obtain ⟨r2, hr6, hF⟩ := of_bind hF
    refine wp_regy_seq tok (orc := orcL [(55, [⟨(.int .i64), r2⟩])]) (fz := []) (l := [9, 10]) (c := _) [] 16 (.inr fun i h => h) h (by kernel_rfl) (by kernel_rfl) (AllP.cons hc4 (AllP.cons hc5 (AllP.cons (c114 k (List.getD x0.1 (Int.toNat (List.getD x0.2.1 (Int.toNat x2) ((0 : Int), ((0 : Int), ((0 : Int), ((0 : Int), ((0 : Int), (⟨#[]⟩ : ByteArray))))))).1) ((0 : Int), ((0 : Int), (0 : Int)))).2 (List.getD x0.1 (Int.toNat (List.getD x0.2.1 (Int.toNat x2) ((0 : Int), ((0 : Int), ((0 : Int), ((0 : Int), ((0 : Int), (⟨#[]⟩ : ByteArray))))))).2.1) ((0 : Int), ((0 : Int), (0 : Int)))).2 r2 hr6) AllP.nil))) ?_
    intro a w h
    refine wp_seq ?_
    refine wp_reg_seq tok (orc := orcL []) (fz := []) (l := [9, 10, 61]) (c := _) (.inr fun i h => h) h (by kernel_rfl) (AllP.nil) ?_
    intro a w h
    refine wp_if h (b := (bif (decide ((r1 : Int) < (0 : Int))) then true else (decide ((r2 : Int) < (0 : Int))))) (by kernel_rfl) (fun hb => ?_) (fun hb => ?_)
    · replace hF := of_t hb hF
      refine wp_reg_seq tok (orc := orcL []) (fz := []) (l := [6]) (c := _) (.inr fun i h => h) h (by kernel_rfl) (AllP.nil) ?_
      intro a w h
      cases hF
      exact wp_ret (ret_okR tok h rfl (by kernel_rfl)).1
    · replace hF := of_f hb hF
      refine wp_skip ?_
      obtain ⟨hc3, hF⟩ := of_if hF
      refine wp_reg_seq tok (orc := orcL []) (fz := []) (l := [6]) (c := _) (.inr fun i h => h) h (by kernel_rfl) (AllP.cons hc3 AllP.nil) ?_
      intro a w h
      cases hF
      exact wp_ret (ret_okR tok h rfl (by kernel_rfl)).1

def f78.j144 (k : Nat) (v132 : Int) (q78 : (Int × Int × Int) → Option Int) : (Int × Int) → Option Int
  | (v142, v143) => q78 (v142, v143, (IntKind.i64.wrap (v132 + (1 : Int))))
def f78.j147 (k : Nat) (v130 : Int) (v131 : Int) (v132 : Int) (r1 : (List Int)) (q144 : (Int × Int) → Option Int) : Int → Option Int
  | v146 => if (bif (decide ((v130 : Int) < (0 : Int))) then true else (decide ((v146 : Int) < v131))) then (if (0 ≤ v132 ∧ v132 < (List.length r1 : Int)) then (q144 ((List.getD r1 (Int.toNat v132) (0 : Int)), v146)) else none) else (q144 (v130, v131))
def f78.l78 (k : Nat) (r1 : (List Int)) (x0 : ((List (Int × (Int × Int))) × ((List (Int × (Int × (Int × (Int × (Int × ByteArray)))))) × (List (Int × Int))))) (x2 : Int) : Nat → (Int × Int × Int) → Option Int
  | 0, _ => none
  | m78 + 1, (v130, v131, v132) => if (decide ((v132 : Int) < (List.length r1 : Int))) then (if (0 ≤ v132 ∧ v132 < (List.length r1 : Int)) then (if (0 ≤ (List.getD r1 (Int.toNat v132) (0 : Int)) ∧ (List.getD r1 (Int.toNat v132) (0 : Int)) < (List.length x0.2.1 : Int)) then (if (0 ≤ x2 ∧ x2 < (List.length x0.2.1 : Int)) then (if (!(ByteArray.toList (List.getD x0.2.1 (Int.toNat (List.getD r1 (Int.toNat v132) (0 : Int))) ((0 : Int), ((0 : Int), ((0 : Int), ((0 : Int), ((0 : Int), (⟨#[]⟩ : ByteArray))))))).2.2.2.2.2 == ByteArray.toList (List.getD x0.2.1 (Int.toNat x2) ((0 : Int), ((0 : Int), ((0 : Int), ((0 : Int), ((0 : Int), (⟨#[]⟩ : ByteArray))))))).2.2.2.2.2)) then (f78.j144 k v132 ((f78.l78 k r1 x0 x2) m78) (v130, v131)) else (if (0 ≤ v132 ∧ v132 < (List.length r1 : Int)) then ((f117 k x0 x2 (List.getD r1 (Int.toNat v132) (0 : Int))).bind fun r145 => (if (bif (decide ((r145 : Int) < (8 : Int))) then (decide (((IntKind.i64.wrap ((8 : Int) - r145)) : Int) < r145)) else false) then (f78.j147 k v130 v131 v132 r1 (f78.j144 k v132 ((f78.l78 k r1 x0 x2) m78)) (IntKind.i64.wrap ((8 : Int) - r145))) else (f78.j147 k v130 v131 v132 r1 (f78.j144 k v132 ((f78.l78 k r1 x0 x2) m78)) r145))) else none)) else none) else none) else none) else (some v130)
def f78 (k : Nat) (x0 : ((List (Int × (Int × Int))) × ((List (Int × (Int × (Int × (Int × (Int × ByteArray)))))) × (List (Int × Int))))) (x1 : (List (List Int))) (x2 : Int) : Option Int := (f116 k x0 x1 x2).bind fun r1 => (f78.l78 k r1 x0 x2 k ((-1 : Int), (0 : Int), (0 : Int)))
set_option maxRecDepth 100000 in
/-- 'spec.l17Ahead'. -/
theorem c78 (k : Nat) (x0 : ((List (Int × (Int × Int))) × ((List (Int × (Int × (Int × (Int × (Int × ByteArray)))))) × (List (Int × Int))))) (x1 : (List (List Int))) (x2 : Int) (r : Int) (hF : f78 k x0 x1 x2 = some r) : PCall Try.prog 78 [⟨sh12, x0⟩, ⟨sh15, x1⟩, ⟨(.int .i64), x2⟩] [⟨(.int .i64), r⟩] := by
  refine pcall_intro Try.func78 rfl rfl (Nat.le_of_ble_eq_true rfl) ?_
  intro w0 Zi a w h
  rw [f78] at hF
  refine wp_reg_seq tok (orc := orcL []) (fz := []) (l := [1, 2, 3]) (c := _) (.inr fun i h => h) h (by kernel_rfl) (AllP.nil) ?_
  intro a w h
  refine wp_reg_seq tok (orc := orcL []) (fz := []) (l := [1, 2, 3, 7]) (c := _) (.inr fun i h => h) h (by kernel_rfl) (AllP.nil) ?_
  intro a w h
  refine wp_reg_seq tok (orc := orcL []) (fz := []) (l := [1, 2, 3, 7, 8]) (c := _) (.inr fun i h => h) h (by kernel_rfl) (AllP.nil) ?_
  intro a w h
  obtain ⟨r1, hr154, hF⟩ := of_bind hF
  refine wp_reg_seq tok (orc := orcL [(15, [⟨(.sl true 2 (.int .i64)), r1⟩])]) (fz := []) (l := [2, 3, 7, 8, 9]) (c := _) (.inr fun i h => h) h (by kernel_rfl) (AllP.cons (c116 k x0 x1 x2 r1 hr154) AllP.nil) ?_
  intro a w h
  refine wp_seq ?_
  refine wp_reg_seq tok (orc := orcL []) (fz := []) (l := [2, 3, 7, 8, 9, 10]) (c := _) (.inr fun i h => h) h (by kernel_rfl) (AllP.nil) ?_
  intro a w h
  refine wp_block ?_
  refine wp_loop_fuel (f78.l78 k r1 x0 x2) (fun ((v130, v131, v132) : (Int × Int × Int)) => [(2, .val (.int .i64) x2), (3, .val sh11 (some x0)), (7, .val (.int .i64) v130), (8, .val (.int .i64) v131), (9, .val (.sl true 2 (.int .i64)) r1), (10, .val (.int .i64) v132)]) (fun v h => by obtain ⟨v130, v131, v132⟩ := v; rw [f78.l78] at h; cases h) ?_ hF (h.arrive (fz := []) (l := [2, 3, 7, 8, 9, 10]) (.inr fun i h => h) (by kernel_rfl))
  intro m78 v a w hF h
  obtain ⟨v130, v131, v132⟩ := v
  rw [f78.l78] at hF
  refine wp_seq ?_
  refine wp_reg_seq tok (orc := orcL []) (fz := []) (l := [2, 3, 7, 8, 9, 10, 19]) (c := _) (.inr fun i h => h) h (by kernel_rfl) (AllP.nil) ?_
  intro a w h
  refine wp_if h (b := (decide ((v132 : Int) < (List.length r1 : Int)))) (by kernel_rfl) (fun hb => ?_) (fun hb => ?_)
  · replace hF := of_t hb hF
    refine wp_skip ?_
    refine wp_mid (fun a w => ∃ v : (Int × Int), f78.j144 k v132 ((f78.l78 k r1 x0 x2) m78) v = some r ∧ Rel w0 (fun _ => False) Zi Try.f78.ntmps ((fun ((v142, v143) : (Int × Int)) => ([(2, .val (.int .i64) x2), (3, .val sh11 (some x0)), (7, .val (.int .i64) v142), (8, .val (.int .i64) v143), (9, .val (.sl true 2 (.int .i64)) r1), (10, .val (.int .i64) v132)] : SS)) v) a w) ?_ ?_
    ·
      refine wp_block ?_
      refine wp_seq ?_
      obtain ⟨hc151, hF⟩ := of_if hF
      obtain ⟨hc152, hF⟩ := of_if hF
      obtain ⟨hc153, hF⟩ := of_if hF
      refine wp_regy_seq tok (orc := orcL []) (fz := []) (l := [2, 3, 7, 8, 9, 10, 37]) (c := _) [] 16 (.inr fun i h => h) h (by kernel_rfl) (by kernel_rfl) (AllP.cons hc151 (AllP.cons hc152 (AllP.cons hc153 AllP.nil))) ?_
      intro a w h
      refine wp_if h (b := (!(ByteArray.toList (List.getD x0.2.1 (Int.toNat (List.getD r1 (Int.toNat v132) (0 : Int))) ((0 : Int), ((0 : Int), ((0 : Int), ((0 : Int), ((0 : Int), (⟨#[]⟩ : ByteArray))))))).2.2.2.2.2 == ByteArray.toList (List.getD x0.2.1 (Int.toNat x2) ((0 : Int), ((0 : Int), ((0 : Int), ((0 : Int), ((0 : Int), (⟨#[]⟩ : ByteArray))))))).2.2.2.2.2))) (by kernel_rfl) (fun hb => ?_) (fun hb => ?_)
      · replace hF := of_t hb hF
        refine wp_exit ?_
        exact ⟨(v130, v131), hF, h.arrive (fz := []) (l := [2, 3, 7, 8, 9, 10]) (.inr fun i h => h) (by kernel_rfl)⟩
      · replace hF := of_f hb hF
        refine wp_skip ?_
        obtain ⟨hc149, hF⟩ := of_if hF
        obtain ⟨r145, hr150, hF⟩ := of_bind hF
        refine wp_regy_seq tok (orc := orcL [(44, [⟨(.int .i64), r145⟩])]) (fz := []) (l := [2, 3, 7, 8, 9, 10, 11]) (c := _) [] 8 (.inr fun i h => h) h (by kernel_rfl) (by kernel_rfl) (AllP.cons hc149 (AllP.cons (c117 k x0 x2 (List.getD r1 (Int.toNat v132) (0 : Int)) r145 hr150) AllP.nil)) ?_
        intro a w h
        refine wp_seq ?_
        refine wp_reg_seq tok (orc := orcL []) (fz := []) (l := [2, 3, 7, 8, 9, 10, 11, 52]) (c := _) (.inr fun i h => h) h (by kernel_rfl) (AllP.nil) ?_
        intro a w h
        refine wp_midT (fun a w => ∃ v : Int, f78.j147 k v130 v131 v132 r1 (f78.j144 k v132 ((f78.l78 k r1 x0 x2) m78)) v = some r ∧ Rel w0 (fun _ => False) Zi Try.f78.ntmps ((fun (v146 : Int) => ([(2, .val (.int .i64) x2), (3, .val sh11 (some x0)), (7, .val (.int .i64) v130), (8, .val (.int .i64) v131), (9, .val (.sl true 2 (.int .i64)) r1), (10, .val (.int .i64) v132), (11, .val (.int .i64) v146)] : SS)) v) a w) ?_ ?_
        ·
          refine wp_if h (b := (bif (decide ((r145 : Int) < (8 : Int))) then (decide (((IntKind.i64.wrap ((8 : Int) - r145)) : Int) < r145)) else false)) (by kernel_rfl) (fun hb => ?_) (fun hb => ?_)
          · replace hF := of_t hb hF
            refine wp_reg tok (orc := orcL []) (fz := []) (l := [2, 3, 7, 8, 9, 10, 11]) (c := _) (.inr fun i h => h) h (by kernel_rfl) (AllP.nil) ?_
            intro a w h
            exact ⟨(IntKind.i64.wrap ((8 : Int) - r145)), hF, h.arrive (fz := []) (l := [2, 3, 7, 8, 9, 10, 11]) (.inr fun i h => h) (by kernel_rfl)⟩
          · replace hF := of_f hb hF
            refine wp_skip ?_
            exact ⟨r145, hF, h.arrive (fz := []) (l := [2, 3, 7, 8, 9, 10, 11]) (.inr fun i h => h) (by kernel_rfl)⟩
        · rintro a w ⟨v146, hF, h⟩
          rw [f78.j147] at hF
          refine wp_reg_seq tok (orc := orcL []) (fz := []) (l := [2, 3, 7, 8, 9, 10, 11, 61]) (c := _) (.inr fun i h => h) h (by kernel_rfl) (AllP.nil) ?_
          intro a w h
          refine wp_if h (b := (bif (decide ((v130 : Int) < (0 : Int))) then true else (decide ((v146 : Int) < v131)))) (by kernel_rfl) (fun hb => ?_) (fun hb => ?_)
          · replace hF := of_t hb hF
            obtain ⟨hc148, hF⟩ := of_if hF
            refine wp_reg_seq tok (orc := orcL []) (fz := []) (l := [2, 3, 7, 9, 10, 11]) (c := _) (.inr fun i h => h) h (by kernel_rfl) (AllP.cons hc148 AllP.nil) ?_
            intro a w h
            refine wp_reg tok (orc := orcL []) (fz := []) (l := [2, 3, 7, 8, 9, 10]) (c := _) (.inr fun i h => h) h (by kernel_rfl) (AllP.nil) ?_
            intro a w h
            exact ⟨((List.getD r1 (Int.toNat v132) (0 : Int)), v146), hF, h.arrive (fz := []) (l := [2, 3, 7, 8, 9, 10]) (.inr fun i h => h) (by kernel_rfl)⟩
          · replace hF := of_f hb hF
            refine wp_skip ?_
            exact ⟨(v130, v131), hF, h.arrive (fz := []) (l := [2, 3, 7, 8, 9, 10]) (.inr fun i h => h) (by kernel_rfl)⟩
    · rintro a w ⟨v, hF, h⟩
      obtain ⟨v142, v143⟩ := v
      rw [f78.j144] at hF
      refine wp_reg tok (orc := orcL []) (fz := []) (l := [2, 3, 7, 8, 9, 10]) (c := _) (.inr fun i h => h) h (by kernel_rfl) (AllP.nil) ?_
      intro a w h
      exact ⟨(v142, v143, (IntKind.i64.wrap (v132 + (1 : Int)))), hF, h.arrive (fz := []) (l := [2, 3, 7, 8, 9, 10]) (.inr fun i h => h) (by kernel_rfl)⟩
  · replace hF := of_f hb hF
    refine wp_exit ?_
    refine wp_reg_seq tok (orc := orcL []) (fz := []) (l := [6]) (c := _) (.inr fun i h => h) h (by kernel_rfl) (AllP.nil) ?_
    intro a w h
    cases hF
    exact wp_ret (ret_okR tok h rfl (by kernel_rfl)).1

def f31 (k : Nat) (x0 : ((List (Int × (Int × Int))) × ((List (Int × (Int × (Int × (Int × (Int × ByteArray)))))) × (List (Int × Int))))) (x1 : Int) : Option Int := (f57 k x0).bind fun r1 => ((if ((!r1) = false) then f75 k x0 x1 else some default).bind fun r2 => (if (bif (!r1) then true else (!r2)) then (some (-1 : Int)) else ((f79 k x0 false).bind fun r3 => ((f78 k x0 r3 x1).bind fun r4 => (some r4)))))
set_option maxRecDepth 100000 in
/-- 'spec.Ahead'. -/
theorem c31 (k : Nat) (x0 : ((List (Int × (Int × Int))) × ((List (Int × (Int × (Int × (Int × (Int × ByteArray)))))) × (List (Int × Int))))) (x1 : Int) (r : Int) (hF : f31 k x0 x1 = some r) : PCall Try.prog 31 [⟨sh12, x0⟩, ⟨(.int .i64), x1⟩] [⟨(.int .i64), r⟩] := by
  refine pcall_intro Try.func31 rfl rfl (Nat.le_of_ble_eq_true rfl) ?_
  intro w0 Zi a w h
  rw [f31] at hF
  refine wp_reg_seq tok (orc := orcL []) (fz := []) (l := [1, 2]) (c := _) (.inr fun i h => h) h (by kernel_rfl) (AllP.nil) ?_
  intro a w h
  refine wp_seq ?_
  obtain ⟨r1, hr7, hF⟩ := of_bind hF
  obtain ⟨r2, hr8, hF⟩ := of_bind hF
  refine wp_reg_seq tok (orc := orcL [(6, [⟨.bool, r1⟩]), (11, [⟨.bool, r2⟩])]) (fz := []) (l := [1, 2, 13]) (c := _) (.inr fun i h => h) h (by kernel_rfl) (AllP.cons (c57 k x0 r1 hr7) (AllP.cons (fun (hg : ((!r1) = false)) => c75 k x0 x1 r2 (of_g hg hr8)) AllP.nil)) ?_
  intro a w h
  refine wp_if h (b := (bif (!r1) then true else (!r2))) (by kernel_rfl) (fun hb => ?_) (fun hb => ?_)
  · replace hF := of_t hb hF
    refine wp_reg_seq tok (orc := orcL []) (fz := []) (l := [4]) (c := _) (.inr fun i h => h) h (by kernel_rfl) (AllP.nil) ?_
    intro a w h
    cases hF
    exact wp_ret (ret_okR tok h rfl (by kernel_rfl)).1
  · replace hF := of_f hb hF
    refine wp_skip ?_
    obtain ⟨r3, hr5, hF⟩ := of_bind hF
    obtain ⟨r4, hr6, hF⟩ := of_bind hF
    refine wp_regy_seq tok (orc := orcL [(16, [⟨sh13, r3⟩]), (18, [⟨(.int .i64), r4⟩])]) (fz := []) (l := [4]) (c := _) [] 6 (.inr fun i h => h) h (by kernel_rfl) (by kernel_rfl) (AllP.cons (c79 k x0 false r3 hr5) (AllP.cons (c78 k x0 r3 x1 r4 hr6) AllP.nil)) ?_
    intro a w h
    cases hF
    exact wp_ret (ret_okR tok h rfl (by kernel_rfl)).1

def f108 (k : Nat) (x0 : Int) : Option Bool := some (bif (decide ((x0 : Int) ≥ (1 : Int))) then (decide ((x0 : Int) ≤ (1000000000 : Int))) else false)
set_option maxRecDepth 100000 in
/-- 'impl.idOk'. -/
theorem c108 (k : Nat) (x0 : Int) (r : Bool) (hF : f108 k x0 = some r) : PCall Try.prog 108 [⟨(.int .i64), x0⟩] [⟨.bool, r⟩] := by
  refine pcall_intro Try.func108 rfl rfl (Nat.le_of_ble_eq_true rfl) ?_
  intro w0 Zi a w h
  rw [f108] at hF
  refine wp_reg_seq tok (orc := orcL []) (fz := []) (l := [0]) (c := _) (.inr fun i h => h) h (by kernel_rfl) (AllP.nil) ?_
  intro a w h
  refine wp_reg_seq tok (orc := orcL []) (fz := []) (l := [2]) (c := _) (.inr fun i h => h) h (by kernel_rfl) (AllP.nil) ?_
  intro a w h
  cases hF
  exact wp_ret (ret_okR tok h rfl (by kernel_rfl)).1

def f109 (k : Nat) (x0 : (Int × Int)) : Option Bool := some (bif (bif (bif (decide ((x0.1 : Int) ≥ (-10000000 : Int))) then (decide ((x0.1 : Int) ≤ (10000000 : Int))) else false) then (decide ((x0.2 : Int) ≥ (-10000000 : Int))) else false) then (decide ((x0.2 : Int) ≤ (10000000 : Int))) else false)
set_option maxRecDepth 100000 in
/-- 'impl.PointOk'. -/
theorem c109 (k : Nat) (x0 : (Int × Int)) (r : Bool) (hF : f109 k x0 = some r) : PCall Try.prog 109 [⟨sh5, x0⟩] [⟨.bool, r⟩] := by
  refine pcall_intro Try.func109 rfl rfl (Nat.le_of_ble_eq_true rfl) ?_
  intro w0 Zi a w h
  rw [f109] at hF
  refine wp_reg_seq tok (orc := orcL []) (fz := []) (l := [1]) (c := _) (.inr fun i h => h) h (by kernel_rfl) (AllP.nil) ?_
  intro a w h
  refine wp_reg_seq tok (orc := orcL []) (fz := []) (l := [2]) (c := _) (.inr fun i h => h) h (by kernel_rfl) (AllP.nil) ?_
  intro a w h
  cases hF
  exact wp_ret (ret_okR tok h rfl (by kernel_rfl)).1

def f63.j256 (k : Nat) (v247 : Int) (q209 : Int → Option Bool) : Unit → Option Bool
  | _ => q209 (IntKind.i64.wrap (v247 + (1 : Int)))
def f63.l209 (k : Nat) (x0 : ((List (Int × (Int × Int))) × ((List (Int × (Int × (Int × (Int × (Int × ByteArray)))))) × (List (Int × Int))))) : Nat → Int → Option Bool
  | 0, _ => none
  | m209 + 1, v247 => if (decide ((v247 : Int) < (List.length x0.2.2 : Int))) then (if (0 ≤ v247 ∧ v247 < (List.length x0.2.2 : Int)) then (if (((bif (bif (bif (decide (((List.getD x0.2.2 (Int.toNat v247) ((0 : Int), (0 : Int))).1 : Int) < (0 : Int))) then true else (decide (((List.getD x0.2.2 (Int.toNat v247) ((0 : Int), (0 : Int))).1 : Int) ≥ (List.length x0.2.1 : Int)))) then true else (decide (((List.getD x0.2.2 (Int.toNat v247) ((0 : Int), (0 : Int))).2 : Int) < (0 : Int)))) then true else (decide (((List.getD x0.2.2 (Int.toNat v247) ((0 : Int), (0 : Int))).2 : Int) ≥ (List.length x0.2.1 : Int)))) = false) → (0 ≤ (List.getD x0.2.2 (Int.toNat v247) ((0 : Int), (0 : Int))).1 ∧ (List.getD x0.2.2 (Int.toNat v247) ((0 : Int), (0 : Int))).1 < (List.length x0.2.1 : Int))) then (if (((bif (bif (bif (decide (((List.getD x0.2.2 (Int.toNat v247) ((0 : Int), (0 : Int))).1 : Int) < (0 : Int))) then true else (decide (((List.getD x0.2.2 (Int.toNat v247) ((0 : Int), (0 : Int))).1 : Int) ≥ (List.length x0.2.1 : Int)))) then true else (decide (((List.getD x0.2.2 (Int.toNat v247) ((0 : Int), (0 : Int))).2 : Int) < (0 : Int)))) then true else (decide (((List.getD x0.2.2 (Int.toNat v247) ((0 : Int), (0 : Int))).2 : Int) ≥ (List.length x0.2.1 : Int)))) = false) → (0 ≤ (List.getD x0.2.2 (Int.toNat v247) ((0 : Int), (0 : Int))).2 ∧ (List.getD x0.2.2 (Int.toNat v247) ((0 : Int), (0 : Int))).2 < (List.length x0.2.1 : Int))) then ((some ((bif (bif (bif (bif (decide (((List.getD x0.2.2 (Int.toNat v247) ((0 : Int), (0 : Int))).1 : Int) < (0 : Int))) then true else (decide (((List.getD x0.2.2 (Int.toNat v247) ((0 : Int), (0 : Int))).1 : Int) ≥ (List.length x0.2.1 : Int)))) then true else (decide (((List.getD x0.2.2 (Int.toNat v247) ((0 : Int), (0 : Int))).2 : Int) < (0 : Int)))) then true else (decide (((List.getD x0.2.2 (Int.toNat v247) ((0 : Int), (0 : Int))).2 : Int) ≥ (List.length x0.2.1 : Int)))) then true else (((List.getD x0.2.1 (Int.toNat (List.getD x0.2.2 (Int.toNat v247) ((0 : Int), (0 : Int))).1) ((0 : Int), ((0 : Int), ((0 : Int), ((0 : Int), ((0 : Int), (⟨#[]⟩ : ByteArray))))))).2.1 : Int) != (List.getD x0.2.1 (Int.toNat (List.getD x0.2.2 (Int.toNat v247) ((0 : Int), (0 : Int))).2) ((0 : Int), ((0 : Int), ((0 : Int), ((0 : Int), ((0 : Int), (⟨#[]⟩ : ByteArray))))))).1)) : Bool)).bind fun v257 => (if v257 then (some false) else (if (decide ((v247 : Int) > (0 : Int))) then (if (0 ≤ (IntKind.i64.wrap (v247 - (1 : Int))) ∧ (IntKind.i64.wrap (v247 - (1 : Int))) < (List.length x0.2.2 : Int)) then ((some ((bif (decide (((List.getD x0.2.2 (Int.toNat (IntKind.i64.wrap (v247 - (1 : Int)))) ((0 : Int), (0 : Int))).1 : Int) > (List.getD x0.2.2 (Int.toNat v247) ((0 : Int), (0 : Int))).1)) then true else (bif (((List.getD x0.2.2 (Int.toNat (IntKind.i64.wrap (v247 - (1 : Int)))) ((0 : Int), (0 : Int))).1 : Int) == (List.getD x0.2.2 (Int.toNat v247) ((0 : Int), (0 : Int))).1) then (decide (((List.getD x0.2.2 (Int.toNat (IntKind.i64.wrap (v247 - (1 : Int)))) ((0 : Int), (0 : Int))).2 : Int) ≥ (List.getD x0.2.2 (Int.toNat v247) ((0 : Int), (0 : Int))).2)) else false)) : Bool)).bind fun v258 => (if v258 then (some false) else (f63.j256 k v247 ((f63.l209 k x0) m209) ()))) else none) else (f63.j256 k v247 ((f63.l209 k x0) m209) ())))) else none) else none) else none) else (some true)
def f63.l118 (k : Nat) (x0 : ((List (Int × (Int × Int))) × ((List (Int × (Int × (Int × (Int × (Int × ByteArray)))))) × (List (Int × Int))))) : Nat → Int → Option Bool
  | 0, _ => none
  | m118 + 1, v142 => if (decide ((v142 : Int) < (List.length x0.2.1 : Int))) then (if (0 ≤ v142 ∧ v142 < (List.length x0.2.1 : Int)) then ((if ((bif (bif (bif (decide (((List.getD x0.2.1 (Int.toNat v142) ((0 : Int), ((0 : Int), ((0 : Int), ((0 : Int), ((0 : Int), (⟨#[]⟩ : ByteArray))))))).1 : Int) < (0 : Int))) then true else (decide (((List.getD x0.2.1 (Int.toNat v142) ((0 : Int), ((0 : Int), ((0 : Int), ((0 : Int), ((0 : Int), (⟨#[]⟩ : ByteArray))))))).1 : Int) ≥ (List.length x0.1 : Int)))) then true else (decide (((List.getD x0.2.1 (Int.toNat v142) ((0 : Int), ((0 : Int), ((0 : Int), ((0 : Int), ((0 : Int), (⟨#[]⟩ : ByteArray))))))).2.1 : Int) < (0 : Int)))) then true else (decide (((List.getD x0.2.1 (Int.toNat v142) ((0 : Int), ((0 : Int), ((0 : Int), ((0 : Int), ((0 : Int), (⟨#[]⟩ : ByteArray))))))).2.1 : Int) ≥ (List.length x0.1 : Int)))) = false) then f108 k (List.getD x0.2.1 (Int.toNat v142) ((0 : Int), ((0 : Int), ((0 : Int), ((0 : Int), ((0 : Int), (⟨#[]⟩ : ByteArray))))))).2.2.1 else some default).bind fun r148 => ((some ((bif (bif (bif (bif (bif (bif (bif (bif (decide (((List.getD x0.2.1 (Int.toNat v142) ((0 : Int), ((0 : Int), ((0 : Int), ((0 : Int), ((0 : Int), (⟨#[]⟩ : ByteArray))))))).1 : Int) < (0 : Int))) then true else (decide (((List.getD x0.2.1 (Int.toNat v142) ((0 : Int), ((0 : Int), ((0 : Int), ((0 : Int), ((0 : Int), (⟨#[]⟩ : ByteArray))))))).1 : Int) ≥ (List.length x0.1 : Int)))) then true else (decide (((List.getD x0.2.1 (Int.toNat v142) ((0 : Int), ((0 : Int), ((0 : Int), ((0 : Int), ((0 : Int), (⟨#[]⟩ : ByteArray))))))).2.1 : Int) < (0 : Int)))) then true else (decide (((List.getD x0.2.1 (Int.toNat v142) ((0 : Int), ((0 : Int), ((0 : Int), ((0 : Int), ((0 : Int), (⟨#[]⟩ : ByteArray))))))).2.1 : Int) ≥ (List.length x0.1 : Int)))) then true else (!r148)) then true else (decide (((List.getD x0.2.1 (Int.toNat v142) ((0 : Int), ((0 : Int), ((0 : Int), ((0 : Int), ((0 : Int), (⟨#[]⟩ : ByteArray))))))).2.2.2.1 : Int) < (1 : Int)))) then true else (decide (((List.getD x0.2.1 (Int.toNat v142) ((0 : Int), ((0 : Int), ((0 : Int), ((0 : Int), ((0 : Int), (⟨#[]⟩ : ByteArray))))))).2.2.2.1 : Int) > (1000000 : Int)))) then true else (decide (((List.getD x0.2.1 (Int.toNat v142) ((0 : Int), ((0 : Int), ((0 : Int), ((0 : Int), ((0 : Int), (⟨#[]⟩ : ByteArray))))))).2.2.2.2.1 : Int) < (0 : Int)))) then true else (decide (((List.getD x0.2.1 (Int.toNat v142) ((0 : Int), ((0 : Int), ((0 : Int), ((0 : Int), ((0 : Int), (⟨#[]⟩ : ByteArray))))))).2.2.2.2.1 : Int) > (1000000000 : Int)))) : Bool)).bind fun v149 => (if v149 then (some false) else ((f63.l118 k x0) m118 (IntKind.i64.wrap (v142 + (1 : Int))))))) else none) else (f63.l209 k x0 k (0 : Int))
def f63.l42 (k : Nat) (x0 : ((List (Int × (Int × Int))) × ((List (Int × (Int × (Int × (Int × (Int × ByteArray)))))) × (List (Int × Int))))) : Nat → Int → Option Bool
  | 0, _ => none
  | m42 + 1, v70 => if (decide ((v70 : Int) < (List.length x0.1 : Int))) then (if (0 ≤ v70 ∧ v70 < (List.length x0.1 : Int)) then ((f108 k (List.getD x0.1 (Int.toNat v70) ((0 : Int), ((0 : Int), (0 : Int)))).1).bind fun r77 => ((if ((!r77) = false) then f109 k (List.getD x0.1 (Int.toNat v70) ((0 : Int), ((0 : Int), (0 : Int)))).2 else some default).bind fun r78 => (if ((((bif (!r77) then true else (!r78)) = false) ∧ ((decide ((v70 : Int) > (0 : Int))) = true)) → (0 ≤ (IntKind.i64.wrap (v70 - (1 : Int))) ∧ (IntKind.i64.wrap (v70 - (1 : Int))) < (List.length x0.1 : Int))) then (if (bif (bif (!r77) then true else (!r78)) then true else (bif (decide ((v70 : Int) > (0 : Int))) then (decide (((List.getD x0.1 (Int.toNat (IntKind.i64.wrap (v70 - (1 : Int)))) ((0 : Int), ((0 : Int), (0 : Int)))).1 : Int) ≥ (List.getD x0.1 (Int.toNat v70) ((0 : Int), ((0 : Int), (0 : Int)))).1)) else false)) then (some false) else ((f63.l42 k x0) m42 (IntKind.i64.wrap (v70 + (1 : Int))))) else none))) else none) else (f63.l118 k x0 k (0 : Int))
def f63 (k : Nat) (x0 : ((List (Int × (Int × Int))) × ((List (Int × (Int × (Int × (Int × (Int × ByteArray)))))) × (List (Int × Int))))) : Option Bool := if (bif (bif (decide (((List.length x0.1 : Int) : Int) > (5000 : Int))) then true else (decide (((List.length x0.2.1 : Int) : Int) > (8000 : Int)))) then true else (decide (((List.length x0.2.2 : Int) : Int) > (2000 : Int)))) then (some false) else (f63.l42 k x0 k (0 : Int))
set_option maxRecDepth 100000 in
/-- 'impl.GraphOk'. -/
theorem c63 (k : Nat) (x0 : ((List (Int × (Int × Int))) × ((List (Int × (Int × (Int × (Int × (Int × ByteArray)))))) × (List (Int × Int))))) (r : Bool) (hF : f63 k x0 = some r) : PCall Try.prog 63 [⟨sh12, x0⟩] [⟨.bool, r⟩] := by
  refine pcall_intro Try.func63 rfl rfl (Nat.le_of_ble_eq_true rfl) ?_
  intro w0 Zi a w h
  rw [f63] at hF
  refine wp_reg_seq tok (orc := orcL []) (fz := []) (l := [1]) (c := _) (.inr fun i h => h) h (by kernel_rfl) (AllP.nil) ?_
  intro a w h
  refine wp_seq ?_
  refine wp_reg_seq tok (orc := orcL []) (fz := []) (l := [1, 27]) (c := _) (.inr fun i h => h) h (by kernel_rfl) (AllP.nil) ?_
  intro a w h
  refine wp_if h (b := (bif (bif (decide (((List.length x0.1 : Int) : Int) > (5000 : Int))) then true else (decide (((List.length x0.2.1 : Int) : Int) > (8000 : Int)))) then true else (decide (((List.length x0.2.2 : Int) : Int) > (2000 : Int))))) (by kernel_rfl) (fun hb => ?_) (fun hb => ?_)
  · replace hF := of_t hb hF
    refine wp_reg_seq tok (orc := orcL []) (fz := []) (l := [2]) (c := _) (.inr fun i h => h) h (by kernel_rfl) (AllP.nil) ?_
    intro a w h
    cases hF
    exact wp_ret (ret_okR tok h rfl (by kernel_rfl)).1
  · replace hF := of_f hb hF
    refine wp_skip ?_
    refine wp_seq ?_
    refine wp_reg_seq tok (orc := orcL []) (fz := []) (l := [1, 29, 30, 31]) (c := _) (.inr fun i h => h) h (by kernel_rfl) (AllP.nil) ?_
    intro a w h
    refine wp_block ?_
    refine wp_loop_fuel (f63.l42 k x0) (fun (v70 : Int) => [(1, .val sh11 (some x0)), (29, .val sh16 x0.1), (30, .val (.int .i64) (List.length x0.1 : Int)), (31, .val (.int .i64) v70)]) (fun v h => by rw [f63.l42] at h; cases h) ?_ hF (h.arrive (fz := []) (l := [1, 29, 30, 31]) (.inr fun i h => h) (by kernel_rfl))
    intro m42 v70 a w hF h
    rw [f63.l42] at hF
    refine wp_reg_seq tok (orc := orcL []) (fz := []) (l := [1, 29, 30, 31, 32]) (c := _) (.inr fun i h => h) h (by kernel_rfl) (AllP.nil) ?_
    intro a w h
    refine wp_seq <| wp_if h (b := (decide ((v70 : Int) < (List.length x0.1 : Int)))) (by kernel_rfl) (fun hb => ?_) (fun hb => ?_)
    · replace hF := of_t hb hF
      refine wp_skip ?_
      refine wp_seq <| wp_block ?_
      obtain ⟨hc82, hF⟩ := of_if hF
      refine wp_reg_seq tok (orc := orcL []) (fz := []) (l := [1, 3, 4, 29, 30, 31]) (c := _) (.inr fun i h => h) h (by kernel_rfl) (AllP.cons hc82 AllP.nil) ?_
      intro a w h
      obtain ⟨r77, hr79, hF⟩ := of_bind hF
      obtain ⟨r78, hr80, hF⟩ := of_bind hF
      obtain ⟨hc81, hF⟩ := of_if hF
      refine wp_regy_seq tok (orc := orcL [(38, [⟨.bool, r77⟩]), (43, [⟨.bool, r78⟩])]) (fz := []) (l := [1, 29, 30, 31, 61]) (c := _) [] 26 (.inr fun i h => h) h (by kernel_rfl) (by kernel_rfl) (AllP.cons (c108 k (List.getD x0.1 (Int.toNat v70) ((0 : Int), ((0 : Int), (0 : Int)))).1 r77 hr79) (AllP.cons (fun (hg : ((!r77) = false)) => c109 k (List.getD x0.1 (Int.toNat v70) ((0 : Int), ((0 : Int), (0 : Int)))).2 r78 (of_g hg hr80)) (AllP.cons hc81 AllP.nil))) ?_
      intro a w h
      refine wp_if h (b := (bif (bif (!r77) then true else (!r78)) then true else (bif (decide ((v70 : Int) > (0 : Int))) then (decide (((List.getD x0.1 (Int.toNat (IntKind.i64.wrap (v70 - (1 : Int)))) ((0 : Int), ((0 : Int), (0 : Int)))).1 : Int) ≥ (List.getD x0.1 (Int.toNat v70) ((0 : Int), ((0 : Int), (0 : Int)))).1)) else false))) (by kernel_rfl) (fun hb => ?_) (fun hb => ?_)
      · replace hF := of_t hb hF
        refine wp_reg_seq tok (orc := orcL []) (fz := []) (l := [2]) (c := _) (.inr fun i h => h) h (by kernel_rfl) (AllP.nil) ?_
        intro a w h
        cases hF
        exact wp_ret (ret_okR tok h rfl (by kernel_rfl)).1
      · replace hF := of_f hb hF
        refine wp_skip ?_
        refine wp_reg tok (orc := orcL []) (fz := []) (l := [1, 29, 30, 31]) (c := _) (.inr fun i h => h) h (by kernel_rfl) (AllP.nil) ?_
        intro a w h
        exact ⟨(IntKind.i64.wrap (v70 + (1 : Int))), hF, h.arrive (fz := []) (l := [1, 29, 30, 31]) (.inr fun i h => h) (by kernel_rfl)⟩
    · replace hF := of_f hb hF
      refine wp_exit ?_
      refine wp_reg_seq tok (orc := orcL []) (fz := []) (l := [1, 5]) (c := _) (.inr fun i h => h) h (by kernel_rfl) (AllP.nil) ?_
      intro a w h
      refine wp_seq ?_
      refine wp_reg_seq tok (orc := orcL []) (fz := []) (l := [1, 5, 67, 68, 69]) (c := _) (.inr fun i h => h) h (by kernel_rfl) (AllP.nil) ?_
      intro a w h
      refine wp_block ?_
      refine wp_loop_fuel (f63.l118 k x0) (fun (v142 : Int) => [(1, .val sh11 (some x0)), (5, .val (.int .i64) (List.length x0.1 : Int)), (67, .val sh17 x0.2.1), (68, .val (.int .i64) (List.length x0.2.1 : Int)), (69, .val (.int .i64) v142)]) (fun v h => by rw [f63.l118] at h; cases h) ?_ hF (h.arrive (fz := []) (l := [1, 5, 67, 68, 69]) (.inr fun i h => h) (by kernel_rfl))
      intro m118 v142 a w hF h
      rw [f63.l118] at hF
      refine wp_reg_seq tok (orc := orcL []) (fz := []) (l := [1, 5, 67, 68, 69, 70]) (c := _) (.inr fun i h => h) h (by kernel_rfl) (AllP.nil) ?_
      intro a w h
      refine wp_seq <| wp_if h (b := (decide ((v142 : Int) < (List.length x0.2.1 : Int)))) (by kernel_rfl) (fun hb => ?_) (fun hb => ?_)
      · replace hF := of_t hb hF
        refine wp_skip ?_
        refine wp_seq <| wp_block ?_
        obtain ⟨hc152, hF⟩ := of_if hF
        refine wp_reg_seq tok (orc := orcL []) (fz := []) (l := [1, 5, 7, 67, 68, 69]) (c := _) (.inr fun i h => h) h (by kernel_rfl) (AllP.cons hc152 AllP.nil) ?_
        intro a w h
        obtain ⟨r148, hr151, hF⟩ := of_bind hF
        refine wp_reg_seq tok (orc := orcL [(96, [⟨.bool, r148⟩])]) (fz := []) (l := [1, 5, 67, 68, 69, 118]) (c := _) (.inr fun i h => h) h (by kernel_rfl) (AllP.cons (fun (hg : ((bif (bif (bif (decide (((List.getD x0.2.1 (Int.toNat v142) ((0 : Int), ((0 : Int), ((0 : Int), ((0 : Int), ((0 : Int), (⟨#[]⟩ : ByteArray))))))).1 : Int) < (0 : Int))) then true else (decide (((List.getD x0.2.1 (Int.toNat v142) ((0 : Int), ((0 : Int), ((0 : Int), ((0 : Int), ((0 : Int), (⟨#[]⟩ : ByteArray))))))).1 : Int) ≥ (List.length x0.1 : Int)))) then true else (decide (((List.getD x0.2.1 (Int.toNat v142) ((0 : Int), ((0 : Int), ((0 : Int), ((0 : Int), ((0 : Int), (⟨#[]⟩ : ByteArray))))))).2.1 : Int) < (0 : Int)))) then true else (decide (((List.getD x0.2.1 (Int.toNat v142) ((0 : Int), ((0 : Int), ((0 : Int), ((0 : Int), ((0 : Int), (⟨#[]⟩ : ByteArray))))))).2.1 : Int) ≥ (List.length x0.1 : Int)))) = false)) => c108 k (List.getD x0.2.1 (Int.toNat v142) ((0 : Int), ((0 : Int), ((0 : Int), ((0 : Int), ((0 : Int), (⟨#[]⟩ : ByteArray))))))).2.2.1 r148 (of_g hg hr151)) AllP.nil) ?_
        intro a w h
        obtain ⟨v149, hv150, hF⟩ := of_bind hF
        replace h := h.cast (S' := [(1, .val sh11 (some x0)), (5, .val (.int .i64) (List.length x0.1 : Int)), (67, .val sh17 x0.2.1), (68, .val (.int .i64) (List.length x0.2.1 : Int)), (69, .val (.int .i64) v142), (118, .val .bool v149)]) (by cases hv150; kernel_rfl)
        refine wp_if h (b := v149) (by kernel_rfl) (fun hb => ?_) (fun hb => ?_)
        · replace hF := of_t hb hF
          refine wp_reg_seq tok (orc := orcL []) (fz := []) (l := [2]) (c := _) (.inr fun i h => h) h (by kernel_rfl) (AllP.nil) ?_
          intro a w h
          cases hF
          exact wp_ret (ret_okR tok h rfl (by kernel_rfl)).1
        · replace hF := of_f hb hF
          refine wp_skip ?_
          refine wp_reg tok (orc := orcL []) (fz := []) (l := [1, 5, 67, 68, 69]) (c := _) (.inr fun i h => h) h (by kernel_rfl) (AllP.nil) ?_
          intro a w h
          exact ⟨(IntKind.i64.wrap (v142 + (1 : Int))), hF, h.arrive (fz := []) (l := [1, 5, 67, 68, 69]) (.inr fun i h => h) (by kernel_rfl)⟩
      · replace hF := of_f hb hF
        refine wp_exit ?_
        refine wp_reg_seq tok (orc := orcL []) (fz := []) (l := [1, 8]) (c := _) (.inr fun i h => h) h (by kernel_rfl) (AllP.nil) ?_
        intro a w h
        refine wp_seq ?_
        refine wp_reg_seq tok (orc := orcL []) (fz := []) (l := [1, 8, 124, 125, 126]) (c := _) (.inr fun i h => h) h (by kernel_rfl) (AllP.nil) ?_
        intro a w h
        refine wp_block ?_
        refine wp_loop_fuel (f63.l209 k x0) (fun (v247 : Int) => [(1, .val sh11 (some x0)), (8, .val (.int .i64) (List.length x0.2.1 : Int)), (124, .val sh18 x0.2.2), (125, .val (.int .i64) (List.length x0.2.2 : Int)), (126, .val (.int .i64) v247)]) (fun v h => by rw [f63.l209] at h; cases h) ?_ hF (h.arrive (fz := []) (l := [1, 8, 124, 125, 126]) (.inr fun i h => h) (by kernel_rfl))
        intro m209 v247 a w hF h
        rw [f63.l209] at hF
        refine wp_reg_seq tok (orc := orcL []) (fz := []) (l := [1, 8, 124, 125, 126, 127]) (c := _) (.inr fun i h => h) h (by kernel_rfl) (AllP.nil) ?_
        intro a w h
        refine wp_seq <| wp_if h (b := (decide ((v247 : Int) < (List.length x0.2.2 : Int)))) (by kernel_rfl) (fun hb => ?_) (fun hb => ?_)
        · replace hF := of_t hb hF
          refine wp_skip ?_
          refine wp_mid (fun a w => ∃ v : Unit, f63.j256 k v247 ((f63.l209 k x0) m209) v = some r ∧ Rel w0 (fun _ => False) Zi Try.f63.ntmps ((fun (_ : Unit) => ([(1, .val sh11 (some x0)), (8, .val (.int .i64) (List.length x0.2.1 : Int)), (124, .val sh18 x0.2.2), (125, .val (.int .i64) (List.length x0.2.2 : Int)), (126, .val (.int .i64) v247)] : SS)) v) a w) ?_ ?_
          ·
            refine wp_block ?_
            obtain ⟨hc264, hF⟩ := of_if hF
            refine wp_reg_seq tok (orc := orcL []) (fz := []) (l := [1, 8, 9, 10, 124, 125, 126]) (c := _) (.inr fun i h => h) h (by kernel_rfl) (AllP.cons hc264 AllP.nil) ?_
            intro a w h
            refine wp_seq ?_
            obtain ⟨hc262, hF⟩ := of_if hF
            obtain ⟨hc263, hF⟩ := of_if hF
            refine wp_regy_seq tok (orc := orcL []) (fz := []) (l := [1, 8, 9, 10, 124, 125, 126, 167]) (c := _) [] 37 (.inr fun i h => h) h (by kernel_rfl) (by kernel_rfl) (AllP.cons hc262 (AllP.cons hc263 AllP.nil)) ?_
            intro a w h
            obtain ⟨v257, hv261, hF⟩ := of_bind hF
            replace h := h.cast (S' := [(1, .val sh11 (some x0)), (8, .val (.int .i64) (List.length x0.2.1 : Int)), (9, .val (.int .i64) v247), (10, .val sh14 (some (List.getD x0.2.2 (Int.toNat v247) ((0 : Int), (0 : Int))))), (124, .val sh18 x0.2.2), (125, .val (.int .i64) (List.length x0.2.2 : Int)), (126, .val (.int .i64) v247), (167, .val .bool v257)]) (by cases hv261; kernel_rfl)
            refine wp_if h (b := v257) (by kernel_rfl) (fun hb => ?_) (fun hb => ?_)
            · replace hF := of_t hb hF
              refine wp_reg_seq tok (orc := orcL []) (fz := []) (l := [2]) (c := _) (.inr fun i h => h) h (by kernel_rfl) (AllP.nil) ?_
              intro a w h
              cases hF
              exact wp_ret (ret_okR tok h rfl (by kernel_rfl)).1
            · replace hF := of_f hb hF
              refine wp_skip ?_
              refine wp_reg_seq tok (orc := orcL []) (fz := []) (l := [1, 8, 9, 10, 124, 125, 126, 169]) (c := _) (.inr fun i h => h) h (by kernel_rfl) (AllP.nil) ?_
              intro a w h
              refine wp_if h (b := (decide ((v247 : Int) > (0 : Int)))) (by kernel_rfl) (fun hb => ?_) (fun hb => ?_)
              · replace hF := of_t hb hF
                obtain ⟨hc260, hF⟩ := of_if hF
                refine wp_reg_seq tok (orc := orcL []) (fz := []) (l := [1, 8, 10, 11, 124, 125, 126]) (c := _) (.inr fun i h => h) h (by kernel_rfl) (AllP.cons hc260 AllP.nil) ?_
                intro a w h
                refine wp_reg_seq tok (orc := orcL []) (fz := []) (l := [1, 8, 124, 125, 126, 194]) (c := _) (.inr fun i h => h) h (by kernel_rfl) (AllP.nil) ?_
                intro a w h
                obtain ⟨v258, hv259, hF⟩ := of_bind hF
                replace h := h.cast (S' := [(1, .val sh11 (some x0)), (8, .val (.int .i64) (List.length x0.2.1 : Int)), (124, .val sh18 x0.2.2), (125, .val (.int .i64) (List.length x0.2.2 : Int)), (126, .val (.int .i64) v247), (194, .val .bool v258)]) (by cases hv259; kernel_rfl)
                refine wp_if h (b := v258) (by kernel_rfl) (fun hb => ?_) (fun hb => ?_)
                · replace hF := of_t hb hF
                  refine wp_reg_seq tok (orc := orcL []) (fz := []) (l := [2]) (c := _) (.inr fun i h => h) h (by kernel_rfl) (AllP.nil) ?_
                  intro a w h
                  cases hF
                  exact wp_ret (ret_okR tok h rfl (by kernel_rfl)).1
                · replace hF := of_f hb hF
                  refine wp_skip ?_
                  exact ⟨(), hF, h.arrive (fz := []) (l := [1, 8, 124, 125, 126]) (.inr fun i h => h) (by kernel_rfl)⟩
              · replace hF := of_f hb hF
                refine wp_skip ?_
                exact ⟨(), hF, h.arrive (fz := []) (l := [1, 8, 124, 125, 126]) (.inr fun i h => h) (by kernel_rfl)⟩
          · rintro a w ⟨v, hF, h⟩
            obtain ⟨⟩ := v
            rw [f63.j256] at hF
            refine wp_reg tok (orc := orcL []) (fz := []) (l := [1, 8, 124, 125, 126]) (c := _) (.inr fun i h => h) h (by kernel_rfl) (AllP.nil) ?_
            intro a w h
            exact ⟨(IntKind.i64.wrap (v247 + (1 : Int))), hF, h.arrive (fz := []) (l := [1, 8, 124, 125, 126]) (.inr fun i h => h) (by kernel_rfl)⟩
        · replace hF := of_f hb hF
          refine wp_exit ?_
          refine wp_reg_seq tok (orc := orcL []) (fz := []) (l := [2]) (c := _) (.inr fun i h => h) h (by kernel_rfl) (AllP.nil) ?_
          intro a w h
          cases hF
          exact wp_ret (ret_okR tok h rfl (by kernel_rfl)).1

def f64.l126 (k : Nat) (x0 : ((List (Int × (Int × Int))) × ((List (Int × (Int × (Int × (Int × (Int × ByteArray)))))) × (List (Int × Int))))) (v94 : (List (List Int))) (v95 : (List (List Int))) : Nat → ((List ((Int × Int) × Bool)) × Int) → Option (((List (Int × (Int × Int))) × ((List (Int × (Int × (Int × (Int × (Int × ByteArray)))))) × (List (Int × Int)))) × ((List (List Int)) × ((List (List Int)) × (Option (List ((Int × Int) × Bool))))))
  | 0, _ => none
  | m126 + 1, (v137, v138) => if (decide ((v138 : Int) < (List.length x0.2.2 : Int))) then (if (0 ≤ v138 ∧ v138 < (List.length x0.2.2 : Int)) then ((f64.l126 k x0 v94 v95) m126 ((mput (Sh.beq sh5) (List.getD x0.2.2 (Int.toNat v138) ((0 : Int), (0 : Int))) true v137), (IntKind.i64.wrap (v138 + (1 : Int))))) else none) else (some (x0, (v94, (v95, (some v137)))))
def f64.l56 (k : Nat) (x0 : ((List (Int × (Int × Int))) × ((List (Int × (Int × (Int × (Int × (Int × ByteArray)))))) × (List (Int × Int))))) : Nat → ((List (List Int)) × (List (List Int)) × Int) → Option (((List (Int × (Int × Int))) × ((List (Int × (Int × (Int × (Int × (Int × ByteArray)))))) × (List (Int × Int)))) × ((List (List Int)) × ((List (List Int)) × (Option (List ((Int × Int) × Bool))))))
  | 0, _ => none
  | m56 + 1, (v94, v95, v96) => if (decide ((v96 : Int) < (List.length x0.2.1 : Int))) then (if (0 ≤ v96 ∧ v96 < (List.length x0.2.1 : Int)) then (if (0 ≤ (List.getD x0.2.1 (Int.toNat v96) ((0 : Int), ((0 : Int), ((0 : Int), ((0 : Int), ((0 : Int), (⟨#[]⟩ : ByteArray))))))).1 ∧ (List.getD x0.2.1 (Int.toNat v96) ((0 : Int), ((0 : Int), ((0 : Int), ((0 : Int), ((0 : Int), (⟨#[]⟩ : ByteArray))))))).1 < (List.length v94 : Int)) then (if ((List.length (List.getD v94 (Int.toNat (List.getD x0.2.1 (Int.toNat v96) ((0 : Int), ((0 : Int), ((0 : Int), ((0 : Int), ((0 : Int), (⟨#[]⟩ : ByteArray))))))).1) ([] : (List Int))) + List.length [v96]) * 8 ≤ 140737488355328) then (if (0 ≤ (List.getD x0.2.1 (Int.toNat v96) ((0 : Int), ((0 : Int), ((0 : Int), ((0 : Int), ((0 : Int), (⟨#[]⟩ : ByteArray))))))).1 ∧ (List.getD x0.2.1 (Int.toNat v96) ((0 : Int), ((0 : Int), ((0 : Int), ((0 : Int), ((0 : Int), (⟨#[]⟩ : ByteArray))))))).1 < (List.length v94 : Int)) then (if (0 ≤ (List.getD x0.2.1 (Int.toNat v96) ((0 : Int), ((0 : Int), ((0 : Int), ((0 : Int), ((0 : Int), (⟨#[]⟩ : ByteArray))))))).2.1 ∧ (List.getD x0.2.1 (Int.toNat v96) ((0 : Int), ((0 : Int), ((0 : Int), ((0 : Int), ((0 : Int), (⟨#[]⟩ : ByteArray))))))).2.1 < (List.length v95 : Int)) then (if ((List.length (List.getD v95 (Int.toNat (List.getD x0.2.1 (Int.toNat v96) ((0 : Int), ((0 : Int), ((0 : Int), ((0 : Int), ((0 : Int), (⟨#[]⟩ : ByteArray))))))).2.1) ([] : (List Int))) + List.length [v96]) * 8 ≤ 140737488355328) then (if (0 ≤ (List.getD x0.2.1 (Int.toNat v96) ((0 : Int), ((0 : Int), ((0 : Int), ((0 : Int), ((0 : Int), (⟨#[]⟩ : ByteArray))))))).2.1 ∧ (List.getD x0.2.1 (Int.toNat v96) ((0 : Int), ((0 : Int), ((0 : Int), ((0 : Int), ((0 : Int), (⟨#[]⟩ : ByteArray))))))).2.1 < (List.length v95 : Int)) then ((f64.l56 k x0) m56 ((List.set v94 (Int.toNat (List.getD x0.2.1 (Int.toNat v96) ((0 : Int), ((0 : Int), ((0 : Int), ((0 : Int), ((0 : Int), (⟨#[]⟩ : ByteArray))))))).1) (List.append (List.getD v94 (Int.toNat (List.getD x0.2.1 (Int.toNat v96) ((0 : Int), ((0 : Int), ((0 : Int), ((0 : Int), ((0 : Int), (⟨#[]⟩ : ByteArray))))))).1) ([] : (List Int))) [v96])), (List.set v95 (Int.toNat (List.getD x0.2.1 (Int.toNat v96) ((0 : Int), ((0 : Int), ((0 : Int), ((0 : Int), ((0 : Int), (⟨#[]⟩ : ByteArray))))))).2.1) (List.append (List.getD v95 (Int.toNat (List.getD x0.2.1 (Int.toNat v96) ((0 : Int), ((0 : Int), ((0 : Int), ((0 : Int), ((0 : Int), (⟨#[]⟩ : ByteArray))))))).2.1) ([] : (List Int))) [v96])), (IntKind.i64.wrap (v96 + (1 : Int))))) else none) else none) else none) else none) else none) else none) else none) else (f64.l126 k x0 v94 v95 k (([] : (List ((Int × Int) × Bool))), (0 : Int)))
def f64 (k : Nat) (x0 : ((List (Int × (Int × Int))) × ((List (Int × (Int × (Int × (Int × (Int × ByteArray)))))) × (List (Int × Int))))) : Option (((List (Int × (Int × Int))) × ((List (Int × (Int × (Int × (Int × (Int × ByteArray)))))) × (List (Int × Int)))) × ((List (List Int)) × ((List (List Int)) × (Option (List ((Int × Int) × Bool)))))) := if (0 ≤ (List.length x0.1 : Int) ∧ Int.toNat (List.length x0.1 : Int) * 24 ≤ 140737488355328) then (if (0 ≤ (List.length x0.1 : Int) ∧ Int.toNat (List.length x0.1 : Int) * 24 ≤ 140737488355328) then (f64.l56 k x0 k ((List.replicate (Int.toNat (List.length x0.1 : Int)) ([] : (List Int))), (List.replicate (Int.toNat (List.length x0.1 : Int)) ([] : (List Int))), (0 : Int))) else none) else none
set_option maxRecDepth 100000 in
/-- 'impl.myNetOf'. -/
theorem c64 (k : Nat) (x0 : ((List (Int × (Int × Int))) × ((List (Int × (Int × (Int × (Int × (Int × ByteArray)))))) × (List (Int × Int))))) (r : (((List (Int × (Int × Int))) × ((List (Int × (Int × (Int × (Int × (Int × ByteArray)))))) × (List (Int × Int)))) × ((List (List Int)) × ((List (List Int)) × (Option (List ((Int × Int) × Bool))))))) (hF : f64 k x0 = some r) : PCall Try.prog 64 [⟨sh12, x0⟩] [⟨sh19, some r⟩] := by
  refine pcall_intro Try.func64 rfl rfl (Nat.le_of_ble_eq_true rfl) ?_
  intro w0 Zi a w h
  rw [f64] at hF
  refine wp_reg_seq tok (orc := orcL []) (fz := []) (l := [1]) (c := _) (.inr fun i h => h) h (by kernel_rfl) (AllP.nil) ?_
  intro a w h
  obtain ⟨hc141, hF⟩ := of_if hF
  obtain ⟨hc142, hF⟩ := of_if hF
  refine wp_regy_seq tok (orc := orcL []) (fz := []) (l := [1, 3]) (c := _) [] 10 (.inr fun i h => h) h (by kernel_rfl) (by kernel_rfl) (AllP.cons hc141 (AllP.cons hc142 AllP.nil)) ?_
  intro a w h
  refine wp_seq ?_
  refine wp_reg_seq tok (orc := orcL []) (fz := []) (l := [1, 3, 21, 22, 23]) (c := _) (.inr fun i h => h) h (by kernel_rfl) (AllP.nil) ?_
  intro a w h
  refine wp_block ?_
  refine wp_loop_fuel (f64.l56 k x0) (fun ((v94, v95, v96) : ((List (List Int)) × (List (List Int)) × Int)) => [(1, .val sh11 (some x0)), (3, .val sh19 (some (x0, (v94, (v95, (some ([] : (List ((Int × Int) × Bool))))))))), (21, .val sh17 x0.2.1), (22, .val (.int .i64) (List.length x0.2.1 : Int)), (23, .val (.int .i64) v96)]) (fun v h => by obtain ⟨v94, v95, v96⟩ := v; rw [f64.l56] at h; cases h) ?_ hF (h.arrive (fz := []) (l := [1, 3, 21, 22, 23]) (.inr fun i h => h) (by kernel_rfl))
  intro m56 v a w hF h
  obtain ⟨v94, v95, v96⟩ := v
  rw [f64.l56] at hF
  refine wp_reg_seq tok (orc := orcL []) (fz := []) (l := [1, 3, 21, 22, 23, 24]) (c := _) (.inr fun i h => h) h (by kernel_rfl) (AllP.nil) ?_
  intro a w h
  refine wp_seq <| wp_if h (b := (decide ((v96 : Int) < (List.length x0.2.1 : Int)))) (by kernel_rfl) (fun hb => ?_) (fun hb => ?_)
  · replace hF := of_t hb hF
    refine wp_skip ?_
    refine wp_seq <| wp_block ?_
    obtain ⟨hc110, hF⟩ := of_if hF
    refine wp_reg_seq tok (orc := orcL []) (fz := []) (l := [1, 3, 4, 5, 21, 22, 23]) (c := _) (.inr fun i h => h) h (by kernel_rfl) (AllP.cons hc110 AllP.nil) ?_
    intro a w h
    obtain ⟨hc107, hF⟩ := of_if hF
    obtain ⟨hc108, hF⟩ := of_if hF
    obtain ⟨hc109, hF⟩ := of_if hF
    refine wp_regy_seq tok (orc := orcL [(44, [⟨.pt false 4294967293 .unit, some ()⟩])]) (fz := []) (l := [1, 3, 4, 5, 21, 22, 23]) (c := _) [] 18 (.inr fun i h => h) h (by kernel_rfl) (by kernel_rfl) (AllP.cons hc107 (AllP.cons (PrefL.mk (l := [[], [], [.der, .snd, .fst], [.der, .snd, .fst], [], [], [.der, .snd, .fst], [.der, .snd, .fst], [.der, .snd, .fst, .idx (Int.toNat (List.getD x0.2.1 (Int.toNat v96) ((0 : Int), ((0 : Int), ((0 : Int), ((0 : Int), ((0 : Int), (⟨#[]⟩ : ByteArray))))))).1)], [.der, .snd, .fst, .idx (Int.toNat (List.getD x0.2.1 (Int.toNat v96) ((0 : Int), ((0 : Int), ((0 : Int), ((0 : Int), ((0 : Int), (⟨#[]⟩ : ByteArray))))))).1)]]) (p := [.der, .snd, .fst, .idx (Int.toNat (List.getD x0.2.1 (Int.toNat v96) ((0 : Int), ((0 : Int), ((0 : Int), ((0 : Int), ((0 : Int), (⟨#[]⟩ : ByteArray))))))).1)]) rfl) (AllP.cons hc108 (AllP.cons hc109 (AllP.cons (show ([.der, .snd, .fst, .idx (Int.toNat (List.getD x0.2.1 (Int.toNat v96) ((0 : Int), ((0 : Int), ((0 : Int), ((0 : Int), ((0 : Int), (⟨#[]⟩ : ByteArray))))))).1)] : Path) = [.der, .snd, .fst, .idx (Int.toNat (List.getD x0.2.1 (Int.toNat v96) ((0 : Int), ((0 : Int), ((0 : Int), ((0 : Int), ((0 : Int), (⟨#[]⟩ : ByteArray))))))).1)] from rfl) AllP.nil))))) ?_
    intro a w h
    obtain ⟨hc104, hF⟩ := of_if hF
    obtain ⟨hc105, hF⟩ := of_if hF
    obtain ⟨hc106, hF⟩ := of_if hF
    refine wp_regy tok (orc := orcL [(62, [⟨.pt false 4294967293 .unit, some ()⟩])]) (fz := []) (l := [1, 3, 21, 22, 23]) (c := _) [] 18 (.inr fun i h => h) h (by kernel_rfl) (by kernel_rfl) (AllP.cons hc104 (AllP.cons (PrefL.mk (l := [[], [], [.der, .snd, .snd, .fst], [.der, .snd, .snd, .fst], [], [], [.der, .snd, .snd, .fst], [.der, .snd, .snd, .fst], [.der, .snd, .snd, .fst, .idx (Int.toNat (List.getD x0.2.1 (Int.toNat v96) ((0 : Int), ((0 : Int), ((0 : Int), ((0 : Int), ((0 : Int), (⟨#[]⟩ : ByteArray))))))).2.1)], [.der, .snd, .snd, .fst, .idx (Int.toNat (List.getD x0.2.1 (Int.toNat v96) ((0 : Int), ((0 : Int), ((0 : Int), ((0 : Int), ((0 : Int), (⟨#[]⟩ : ByteArray))))))).2.1)]]) (p := [.der, .snd, .snd, .fst, .idx (Int.toNat (List.getD x0.2.1 (Int.toNat v96) ((0 : Int), ((0 : Int), ((0 : Int), ((0 : Int), ((0 : Int), (⟨#[]⟩ : ByteArray))))))).2.1)]) rfl) (AllP.cons hc105 (AllP.cons hc106 (AllP.cons (show ([.der, .snd, .snd, .fst, .idx (Int.toNat (List.getD x0.2.1 (Int.toNat v96) ((0 : Int), ((0 : Int), ((0 : Int), ((0 : Int), ((0 : Int), (⟨#[]⟩ : ByteArray))))))).2.1)] : Path) = [.der, .snd, .snd, .fst, .idx (Int.toNat (List.getD x0.2.1 (Int.toNat v96) ((0 : Int), ((0 : Int), ((0 : Int), ((0 : Int), ((0 : Int), (⟨#[]⟩ : ByteArray))))))).2.1)] from rfl) AllP.nil))))) ?_
    intro a w h
    refine wp_reg tok (orc := orcL []) (fz := []) (l := [1, 3, 21, 22, 23]) (c := _) (.inr fun i h => h) h (by kernel_rfl) (AllP.nil) ?_
    intro a w h
    exact ⟨((List.set v94 (Int.toNat (List.getD x0.2.1 (Int.toNat v96) ((0 : Int), ((0 : Int), ((0 : Int), ((0 : Int), ((0 : Int), (⟨#[]⟩ : ByteArray))))))).1) (List.append (List.getD v94 (Int.toNat (List.getD x0.2.1 (Int.toNat v96) ((0 : Int), ((0 : Int), ((0 : Int), ((0 : Int), ((0 : Int), (⟨#[]⟩ : ByteArray))))))).1) ([] : (List Int))) [v96])), (List.set v95 (Int.toNat (List.getD x0.2.1 (Int.toNat v96) ((0 : Int), ((0 : Int), ((0 : Int), ((0 : Int), ((0 : Int), (⟨#[]⟩ : ByteArray))))))).2.1) (List.append (List.getD v95 (Int.toNat (List.getD x0.2.1 (Int.toNat v96) ((0 : Int), ((0 : Int), ((0 : Int), ((0 : Int), ((0 : Int), (⟨#[]⟩ : ByteArray))))))).2.1) ([] : (List Int))) [v96])), (IntKind.i64.wrap (v96 + (1 : Int)))), hF, h.arrive (fz := []) (l := [1, 3, 21, 22, 23]) (.inr fun i h => h) (by kernel_rfl)⟩
  · replace hF := of_f hb hF
    refine wp_exit ?_
    refine wp_seq ?_
    refine wp_reg_seq tok (orc := orcL []) (fz := []) (l := [3, 66, 67, 68]) (c := _) (.inr fun i h => h) h (by kernel_rfl) (AllP.nil) ?_
    intro a w h
    refine wp_block ?_
    refine wp_loop_fuel (f64.l126 k x0 v94 v95) (fun ((v137, v138) : ((List ((Int × Int) × Bool)) × Int)) => [(3, .val sh19 (some (x0, (v94, (v95, (some v137)))))), (66, .val sh18 x0.2.2), (67, .val (.int .i64) (List.length x0.2.2 : Int)), (68, .val (.int .i64) v138)]) (fun v h => by obtain ⟨v137, v138⟩ := v; rw [f64.l126] at h; cases h) ?_ hF (h.arrive (fz := []) (l := [3, 66, 67, 68]) (.inr fun i h => h) (by kernel_rfl))
    intro m126 v a w hF h
    obtain ⟨v137, v138⟩ := v
    rw [f64.l126] at hF
    refine wp_reg_seq tok (orc := orcL []) (fz := []) (l := [3, 66, 67, 68, 69]) (c := _) (.inr fun i h => h) h (by kernel_rfl) (AllP.nil) ?_
    intro a w h
    refine wp_seq <| wp_if h (b := (decide ((v138 : Int) < (List.length x0.2.2 : Int)))) (by kernel_rfl) (fun hb => ?_) (fun hb => ?_)
    · replace hF := of_t hb hF
      refine wp_skip ?_
      refine wp_seq <| wp_block ?_
      obtain ⟨hc140, hF⟩ := of_if hF
      refine wp_reg_seq tok (orc := orcL []) (fz := []) (l := [3, 7, 66, 67, 68]) (c := _) (.inr fun i h => h) h (by kernel_rfl) (AllP.cons hc140 AllP.nil) ?_
      intro a w h
      refine wp_regy tok (orc := orcL []) (fz := []) (l := [3, 66, 67, 68]) (c := _) [] 5 (.inr fun i h => h) h (by kernel_rfl) (by kernel_rfl) (AllP.cons (show eqTy Try.prog 9 82 (.st (.pair (.int .i64) (.int .i64))) = true from by kernel_rfl) AllP.nil) ?_
      intro a w h
      refine wp_reg tok (orc := orcL []) (fz := []) (l := [3, 66, 67, 68]) (c := _) (.inr fun i h => h) h (by kernel_rfl) (AllP.nil) ?_
      intro a w h
      exact ⟨((mput (Sh.beq sh5) (List.getD x0.2.2 (Int.toNat v138) ((0 : Int), (0 : Int))) true v137), (IntKind.i64.wrap (v138 + (1 : Int)))), hF, h.arrive (fz := []) (l := [3, 66, 67, 68]) (.inr fun i h => h) (by kernel_rfl)⟩
    · replace hF := of_f hb hF
      refine wp_exit ?_
      refine wp_reg_seq tok (orc := orcL []) (fz := []) (l := [2, 3]) (c := _) (.inr fun i h => h) h (by kernel_rfl) (AllP.nil) ?_
      intro a w h
      cases hF
      exact wp_ret (ret_okR tok h rfl (by kernel_rfl)).1

def f65 (k : Nat) (x0 : (((List (Int × (Int × Int))) × ((List (Int × (Int × (Int × (Int × (Int × ByteArray)))))) × (List (Int × Int)))) × ((List (List Int)) × ((List (List Int)) × (Option (List ((Int × Int) × Bool))))))) (x1 : Int) : Option Bool := some (bif (decide ((x1 : Int) ≥ (0 : Int))) then (decide ((x1 : Int) < (List.length x0.1.2.1 : Int))) else false)
set_option maxRecDepth 100000 in
/-- 'impl.myNet).road'. -/
theorem c65 (k : Nat) (x0 : (((List (Int × (Int × Int))) × ((List (Int × (Int × (Int × (Int × (Int × ByteArray)))))) × (List (Int × Int)))) × ((List (List Int)) × ((List (List Int)) × (Option (List ((Int × Int) × Bool))))))) (x1 : Int) (r : Bool) (hF : f65 k x0 x1 = some r) : PCall Try.prog 65 [⟨sh20, some x0⟩, ⟨(.int .i64), x1⟩] [⟨.bool, r⟩] := by
  refine pcall_intro Try.func65 rfl rfl (Nat.le_of_ble_eq_true rfl) ?_
  intro w0 Zi a w h
  rw [f65] at hF
  refine wp_reg_seq tok (orc := orcL []) (fz := []) (l := [0, 1]) (c := _) (.inr fun i h => h) h (by kernel_rfl) (AllP.nil) ?_
  intro a w h
  refine wp_reg_seq tok (orc := orcL []) (fz := []) (l := [4]) (c := _) (.inr fun i h => h) h (by kernel_rfl) (AllP.nil) ?_
  intro a w h
  cases hF
  exact wp_ret (ret_okR tok h rfl (by kernel_rfl)).1

def f118.j52 (k : Nat) (v48 : Int) (q28 : ((List Int) × Int) → Option (List Int)) : (List Int) → Option (List Int)
  | v51 => q28 (v51, (IntKind.i64.wrap (v48 + (1 : Int))))
def f118.l28 (k : Nat) (x0 : (((List (Int × (Int × Int))) × ((List (Int × (Int × (Int × (Int × (Int × ByteArray)))))) × (List (Int × Int)))) × ((List (List Int)) × ((List (List Int)) × (Option (List ((Int × Int) × Bool))))))) (x1 : Int) : Nat → ((List Int) × Int) → Option (List Int)
  | 0, _ => none
  | m28 + 1, (v47, v48) => if (decide ((v48 : Int) < (List.length (List.getD x0.2.1 (Int.toNat (List.getD x0.1.2.1 (Int.toNat x1) ((0 : Int), ((0 : Int), ((0 : Int), ((0 : Int), ((0 : Int), (⟨#[]⟩ : ByteArray))))))).2.1) ([] : (List Int))) : Int))) then (if (0 ≤ v48 ∧ v48 < (List.length (List.getD x0.2.1 (Int.toNat (List.getD x0.1.2.1 (Int.toNat x1) ((0 : Int), ((0 : Int), ((0 : Int), ((0 : Int), ((0 : Int), (⟨#[]⟩ : ByteArray))))))).2.1) ([] : (List Int))) : Int)) then (if (!(mget (Sh.beq sh5) x0.2.2.2 (x1, (List.getD (List.getD x0.2.1 (Int.toNat (List.getD x0.1.2.1 (Int.toNat x1) ((0 : Int), ((0 : Int), ((0 : Int), ((0 : Int), ((0 : Int), (⟨#[]⟩ : ByteArray))))))).2.1) ([] : (List Int))) (Int.toNat v48) (0 : Int))) false)) then (if ((List.length v47 + List.length [(List.getD (List.getD x0.2.1 (Int.toNat (List.getD x0.1.2.1 (Int.toNat x1) ((0 : Int), ((0 : Int), ((0 : Int), ((0 : Int), ((0 : Int), (⟨#[]⟩ : ByteArray))))))).2.1) ([] : (List Int))) (Int.toNat v48) (0 : Int))]) * 8 ≤ 140737488355328) then (f118.j52 k v48 ((f118.l28 k x0 x1) m28) (v47 ++ [(List.getD (List.getD x0.2.1 (Int.toNat (List.getD x0.1.2.1 (Int.toNat x1) ((0 : Int), ((0 : Int), ((0 : Int), ((0 : Int), ((0 : Int), (⟨#[]⟩ : ByteArray))))))).2.1) ([] : (List Int))) (Int.toNat v48) (0 : Int))])) else none) else (f118.j52 k v48 ((f118.l28 k x0 x1) m28) v47)) else none) else (some v47)
def f118 (k : Nat) (x0 : (((List (Int × (Int × Int))) × ((List (Int × (Int × (Int × (Int × (Int × ByteArray)))))) × (List (Int × Int)))) × ((List (List Int)) × ((List (List Int)) × (Option (List ((Int × Int) × Bool))))))) (x1 : Int) : Option (List Int) := if (0 ≤ x1 ∧ x1 < (List.length x0.1.2.1 : Int)) then (if (0 ≤ (List.getD x0.1.2.1 (Int.toNat x1) ((0 : Int), ((0 : Int), ((0 : Int), ((0 : Int), ((0 : Int), (⟨#[]⟩ : ByteArray))))))).2.1 ∧ (List.getD x0.1.2.1 (Int.toNat x1) ((0 : Int), ((0 : Int), ((0 : Int), ((0 : Int), ((0 : Int), (⟨#[]⟩ : ByteArray))))))).2.1 < (List.length x0.2.1 : Int)) then (f118.l28 k x0 x1 k (([] : (List Int)), (0 : Int))) else none) else none
set_option maxRecDepth 100000 in
/-- 'impl.myNet).nexts'. -/
theorem c118 (k : Nat) (x0 : (((List (Int × (Int × Int))) × ((List (Int × (Int × (Int × (Int × (Int × ByteArray)))))) × (List (Int × Int)))) × ((List (List Int)) × ((List (List Int)) × (Option (List ((Int × Int) × Bool))))))) (x1 : Int) (r : (List Int)) (hF : f118 k x0 x1 = some r) : PCall Try.prog 118 [⟨sh20, some x0⟩, ⟨(.int .i64), x1⟩] [⟨(.sl true 2 (.int .i64)), r⟩] := by
  refine pcall_intro Try.func118 rfl rfl (Nat.le_of_ble_eq_true rfl) ?_
  intro w0 Zi a w h
  rw [f118] at hF
  refine wp_reg_seq tok (orc := orcL []) (fz := []) (l := [0, 1]) (c := _) (.inr fun i h => h) h (by kernel_rfl) (AllP.nil) ?_
  intro a w h
  refine wp_reg_seq tok (orc := orcL []) (fz := []) (l := [0, 1, 5]) (c := _) (.inr fun i h => h) h (by kernel_rfl) (AllP.nil) ?_
  intro a w h
  refine wp_seq ?_
  obtain ⟨hc55, hF⟩ := of_if hF
  obtain ⟨hc56, hF⟩ := of_if hF
  refine wp_regy_seq tok (orc := orcL []) (fz := []) (l := [0, 1, 5, 22, 23, 24]) (c := _) [] 17 (.inr fun i h => h) h (by kernel_rfl) (by kernel_rfl) (AllP.cons hc55 (AllP.cons hc56 AllP.nil)) ?_
  intro a w h
  refine wp_block ?_
  refine wp_loop_fuel (f118.l28 k x0 x1) (fun ((v47, v48) : ((List Int) × Int)) => [(0, .val sh20 (some x0)), (1, .val (.int .i64) x1), (5, .val (.sl true 2 (.int .i64)) v47), (22, .val (.sl false 2 (.int .i64)) (List.getD x0.2.1 (Int.toNat (List.getD x0.1.2.1 (Int.toNat x1) ((0 : Int), ((0 : Int), ((0 : Int), ((0 : Int), ((0 : Int), (⟨#[]⟩ : ByteArray))))))).2.1) ([] : (List Int)))), (23, .val (.int .i64) (List.length (List.getD x0.2.1 (Int.toNat (List.getD x0.1.2.1 (Int.toNat x1) ((0 : Int), ((0 : Int), ((0 : Int), ((0 : Int), ((0 : Int), (⟨#[]⟩ : ByteArray))))))).2.1) ([] : (List Int))) : Int)), (24, .val (.int .i64) v48)]) (fun v h => by obtain ⟨v47, v48⟩ := v; rw [f118.l28] at h; cases h) ?_ hF (h.arrive (fz := []) (l := [0, 1, 5, 22, 23, 24]) (.inr fun i h => h) (by kernel_rfl))
  intro m28 v a w hF h
  obtain ⟨v47, v48⟩ := v
  rw [f118.l28] at hF
  refine wp_reg_seq tok (orc := orcL []) (fz := []) (l := [0, 1, 5, 22, 23, 24, 25]) (c := _) (.inr fun i h => h) h (by kernel_rfl) (AllP.nil) ?_
  intro a w h
  refine wp_seq <| wp_if h (b := (decide ((v48 : Int) < (List.length (List.getD x0.2.1 (Int.toNat (List.getD x0.1.2.1 (Int.toNat x1) ((0 : Int), ((0 : Int), ((0 : Int), ((0 : Int), ((0 : Int), (⟨#[]⟩ : ByteArray))))))).2.1) ([] : (List Int))) : Int)))) (by kernel_rfl) (fun hb => ?_) (fun hb => ?_)
  · replace hF := of_t hb hF
    refine wp_skip ?_
    refine wp_mid (fun a w => ∃ v : (List Int), f118.j52 k v48 ((f118.l28 k x0 x1) m28) v = some r ∧ Rel w0 (fun _ => False) Zi Try.f118.ntmps ((fun (v51 : (List Int)) => ([(0, .val sh20 (some x0)), (1, .val (.int .i64) x1), (5, .val (.sl true 2 (.int .i64)) v51), (22, .val (.sl false 2 (.int .i64)) (List.getD x0.2.1 (Int.toNat (List.getD x0.1.2.1 (Int.toNat x1) ((0 : Int), ((0 : Int), ((0 : Int), ((0 : Int), ((0 : Int), (⟨#[]⟩ : ByteArray))))))).2.1) ([] : (List Int)))), (23, .val (.int .i64) (List.length (List.getD x0.2.1 (Int.toNat (List.getD x0.1.2.1 (Int.toNat x1) ((0 : Int), ((0 : Int), ((0 : Int), ((0 : Int), ((0 : Int), (⟨#[]⟩ : ByteArray))))))).2.1) ([] : (List Int))) : Int)), (24, .val (.int .i64) v48)] : SS)) v) a w) ?_ ?_
    ·
      refine wp_block ?_
      obtain ⟨hc54, hF⟩ := of_if hF
      refine wp_reg_seq tok (orc := orcL []) (fz := []) (l := [0, 1, 5, 7, 22, 23, 24]) (c := _) (.inr fun i h => h) h (by kernel_rfl) (AllP.cons hc54 AllP.nil) ?_
      intro a w h
      refine wp_reg_seq tok (orc := orcL []) (fz := []) (l := [0, 1, 5, 7, 22, 23, 24, 36]) (c := _) (.inr fun i h => h) h (by kernel_rfl) (AllP.cons (show eqTy Try.prog 9 82 (.st (.pair (.int .i64) (.int .i64))) = true from by kernel_rfl) AllP.nil) ?_
      intro a w h
      refine wp_if h (b := (!(mget (Sh.beq sh5) x0.2.2.2 (x1, (List.getD (List.getD x0.2.1 (Int.toNat (List.getD x0.1.2.1 (Int.toNat x1) ((0 : Int), ((0 : Int), ((0 : Int), ((0 : Int), ((0 : Int), (⟨#[]⟩ : ByteArray))))))).2.1) ([] : (List Int))) (Int.toNat v48) (0 : Int))) false))) (by kernel_rfl) (fun hb => ?_) (fun hb => ?_)
      · replace hF := of_t hb hF
        obtain ⟨hc53, hF⟩ := of_if hF
        refine wp_reg tok (orc := orcL []) (fz := []) (l := [0, 1, 5, 22, 23, 24]) (c := _) (.inr fun i h => h) h (by kernel_rfl) (AllP.cons hc53 AllP.nil) ?_
        intro a w h
        exact ⟨(v47 ++ [(List.getD (List.getD x0.2.1 (Int.toNat (List.getD x0.1.2.1 (Int.toNat x1) ((0 : Int), ((0 : Int), ((0 : Int), ((0 : Int), ((0 : Int), (⟨#[]⟩ : ByteArray))))))).2.1) ([] : (List Int))) (Int.toNat v48) (0 : Int))]), hF, h.arrive (fz := []) (l := [0, 1, 5, 22, 23, 24]) (.inr fun i h => h) (by kernel_rfl)⟩
      · replace hF := of_f hb hF
        refine wp_skip ?_
        exact ⟨v47, hF, h.arrive (fz := []) (l := [0, 1, 5, 22, 23, 24]) (.inr fun i h => h) (by kernel_rfl)⟩
    · rintro a w ⟨v51, hF, h⟩
      rw [f118.j52] at hF
      refine wp_reg tok (orc := orcL []) (fz := []) (l := [0, 1, 5, 22, 23, 24]) (c := _) (.inr fun i h => h) h (by kernel_rfl) (AllP.nil) ?_
      intro a w h
      exact ⟨(v51, (IntKind.i64.wrap (v48 + (1 : Int)))), hF, h.arrive (fz := []) (l := [0, 1, 5, 22, 23, 24]) (.inr fun i h => h) (by kernel_rfl)⟩
  · replace hF := of_f hb hF
    refine wp_exit ?_
    refine wp_reg_seq tok (orc := orcL []) (fz := []) (l := [4, 5]) (c := _) (.inr fun i h => h) h (by kernel_rfl) (AllP.nil) ?_
    intro a w h
    cases hF
    exact wp_ret (ret_okR tok h rfl (by kernel_rfl)).1

def f132 (k : Nat) (x0 : Int) : Option Int := if (decide ((x0 : Int) < (0 : Int))) then (some (IntKind.i64.wrap (0 - x0))) else (some x0)
set_option maxRecDepth 100000 in
/-- 'impl.abs'. -/
theorem c132 (k : Nat) (x0 : Int) (r : Int) (hF : f132 k x0 = some r) : PCall Try.prog 132 [⟨(.int .i64), x0⟩] [⟨(.int .i64), r⟩] := by
  refine pcall_intro Try.func132 rfl rfl (Nat.le_of_ble_eq_true rfl) ?_
  intro w0 Zi a w h
  rw [f132] at hF
  refine wp_reg_seq tok (orc := orcL []) (fz := []) (l := [0]) (c := _) (.inr fun i h => h) h (by kernel_rfl) (AllP.nil) ?_
  intro a w h
  refine wp_seq ?_
  refine wp_reg_seq tok (orc := orcL []) (fz := []) (l := [0, 4]) (c := _) (.inr fun i h => h) h (by kernel_rfl) (AllP.nil) ?_
  intro a w h
  refine wp_if h (b := (decide ((x0 : Int) < (0 : Int)))) (by kernel_rfl) (fun hb => ?_) (fun hb => ?_)
  · replace hF := of_t hb hF
    refine wp_reg_seq tok (orc := orcL []) (fz := []) (l := [2]) (c := _) (.inr fun i h => h) h (by kernel_rfl) (AllP.nil) ?_
    intro a w h
    cases hF
    exact wp_ret (ret_okR tok h rfl (by kernel_rfl)).1
  · replace hF := of_f hb hF
    refine wp_skip ?_
    refine wp_reg_seq tok (orc := orcL []) (fz := []) (l := [2]) (c := _) (.inr fun i h => h) h (by kernel_rfl) (AllP.nil) ?_
    intro a w h
    cases hF
    exact wp_ret (ret_okR tok h rfl (by kernel_rfl)).1

def f130 (k : Nat) (x0 : (Int × Int)) (x1 : (Int × Int)) : Option Int := (if ((Sh.beq sh5 x0 x1) = false) then f109 k x0 else some default).bind fun r1 => ((if ((bif (Sh.beq sh5 x0 x1) then true else (!r1)) = false) then f109 k x1 else some default).bind fun r2 => (if (bif (bif (Sh.beq sh5 x0 x1) then true else (!r1)) then true else (!r2)) then (some (-1 : Int)) else ((f132 k (IntKind.i64.wrap (x1.1 - x0.1))).bind fun r3 => ((f132 k (IntKind.i64.wrap (x1.2 - x0.2))).bind fun r4 => ((f132 k (IntKind.i64.wrap (x1.1 - x0.1))).bind fun r5 => ((f132 k (IntKind.i64.wrap (x1.2 - x0.2))).bind fun r6 => (if (decide (((IntKind.i64.wrap ((5 : Int) * (if (r6 : Int) < r5 then r6 else r5))) : Int) < (IntKind.i64.wrap ((2 : Int) * (if (r4 : Int) > r3 then r4 else r3))))) then ((f132 k (IntKind.i64.wrap (x1.1 - x0.1))).bind fun r31 => ((f132 k (IntKind.i64.wrap (x1.2 - x0.2))).bind fun r32 => (if (bif (decide ((r31 : Int) > r32)) then (decide (((IntKind.i64.wrap (x1.1 - x0.1)) : Int) > (0 : Int))) else false) then (some (0 : Int)) else ((f132 k (IntKind.i64.wrap (x1.1 - x0.1))).bind fun r33 => ((f132 k (IntKind.i64.wrap (x1.2 - x0.2))).bind fun r34 => (if (decide ((r33 : Int) > r34)) then (some (4 : Int)) else (if (decide (((IntKind.i64.wrap (x1.2 - x0.2)) : Int) > (0 : Int))) then (some (2 : Int)) else (some (6 : Int))))))))) else (if (bif (decide (((IntKind.i64.wrap (x1.1 - x0.1)) : Int) > (0 : Int))) then (decide (((IntKind.i64.wrap (x1.2 - x0.2)) : Int) > (0 : Int))) else false) then (some (1 : Int)) else (if (bif (decide (((IntKind.i64.wrap (x1.1 - x0.1)) : Int) < (0 : Int))) then (decide (((IntKind.i64.wrap (x1.2 - x0.2)) : Int) > (0 : Int))) else false) then (some (3 : Int)) else (if (bif (decide (((IntKind.i64.wrap (x1.1 - x0.1)) : Int) < (0 : Int))) then (decide (((IntKind.i64.wrap (x1.2 - x0.2)) : Int) < (0 : Int))) else false) then (some (5 : Int)) else (some (7 : Int))))))))))))
set_option maxRecDepth 100000 in
/-- 'impl.Heading'. -/
theorem c130 (k : Nat) (x0 : (Int × Int)) (x1 : (Int × Int)) (r : Int) (hF : f130 k x0 x1 = some r) : PCall Try.prog 130 [⟨sh5, x0⟩, ⟨sh5, x1⟩] [⟨(.int .i64), r⟩] := by
  refine pcall_intro Try.func130 rfl rfl (Nat.le_of_ble_eq_true rfl) ?_
  intro w0 Zi a w h
  rw [f130] at hF
  refine wp_reg_seq tok (orc := orcL []) (fz := []) (l := [2, 3]) (c := _) (.inr fun i h => h) h (by kernel_rfl) (AllP.nil) ?_
  intro a w h
  refine wp_seq ?_
  obtain ⟨r1, hr43, hF⟩ := of_bind hF
  obtain ⟨r2, hr44, hF⟩ := of_bind hF
  refine wp_reg_seq tok (orc := orcL [(14, [⟨.bool, r1⟩]), (19, [⟨.bool, r2⟩])]) (fz := []) (l := [2, 3, 21]) (c := _) (.inr fun i h => h) h (by kernel_rfl) (AllP.cons (And.intro (show eqTy Try.prog 9 105 (.st (.pair (.int .i64) (.int .i64))) = true from by kernel_rfl) (show Try.prog.eqGuardType Try.prog.depth 105 = false from by kernel_rfl)) (AllP.cons (fun (hg : ((Sh.beq sh5 x0 x1) = false)) => c109 k x0 r1 (of_g hg hr43)) (AllP.cons (fun (hg : ((bif (Sh.beq sh5 x0 x1) then true else (!r1)) = false)) => c109 k x1 r2 (of_g hg hr44)) AllP.nil))) ?_
  intro a w h
  refine wp_if h (b := (bif (bif (Sh.beq sh5 x0 x1) then true else (!r1)) then true else (!r2))) (by kernel_rfl) (fun hb => ?_) (fun hb => ?_)
  · replace hF := of_t hb hF
    refine wp_reg_seq tok (orc := orcL []) (fz := []) (l := [4]) (c := _) (.inr fun i h => h) h (by kernel_rfl) (AllP.nil) ?_
    intro a w h
    cases hF
    exact wp_ret (ret_okR tok h rfl (by kernel_rfl)).1
  · replace hF := of_f hb hF
    refine wp_skip ?_
    refine wp_regy_seq tok (orc := orcL []) (fz := []) (l := [5, 6]) (c := _) [] 12 (.inr fun i h => h) h (by kernel_rfl) (by kernel_rfl) (AllP.nil) ?_
    intro a w h
    obtain ⟨r3, hr39, hF⟩ := of_bind hF
    obtain ⟨r4, hr40, hF⟩ := of_bind hF
    obtain ⟨r5, hr41, hF⟩ := of_bind hF
    obtain ⟨r6, hr42, hF⟩ := of_bind hF
    refine wp_reg_seq tok (orc := orcL [(33, [⟨(.int .i64), r3⟩]), (35, [⟨(.int .i64), r4⟩]), (38, [⟨(.int .i64), r5⟩]), (40, [⟨(.int .i64), r6⟩])]) (fz := []) (l := [5, 6, 7, 8]) (c := _) (.inr fun i h => h) h (by kernel_rfl) (AllP.cons (c132 k (IntKind.i64.wrap (x1.1 - x0.1)) r3 hr39) (AllP.cons (c132 k (IntKind.i64.wrap (x1.2 - x0.2)) r4 hr40) (AllP.cons (c132 k (IntKind.i64.wrap (x1.1 - x0.1)) r5 hr41) (AllP.cons (c132 k (IntKind.i64.wrap (x1.2 - x0.2)) r6 hr42) AllP.nil)))) ?_
    intro a w h
    refine wp_seq ?_
    refine wp_reg_seq tok (orc := orcL []) (fz := []) (l := [5, 6, 46]) (c := _) (.inr fun i h => h) h (by kernel_rfl) (AllP.nil) ?_
    intro a w h
    refine wp_if h (b := (decide (((IntKind.i64.wrap ((5 : Int) * (if (r6 : Int) < r5 then r6 else r5))) : Int) < (IntKind.i64.wrap ((2 : Int) * (if (r4 : Int) > r3 then r4 else r3)))))) (by kernel_rfl) (fun hb => ?_) (fun hb => ?_)
    · replace hF := of_t hb hF
      refine wp_seq <| wp_block ?_
      obtain ⟨r31, hr37, hF⟩ := of_bind hF
      obtain ⟨r32, hr38, hF⟩ := of_bind hF
      refine wp_reg_seq tok (orc := orcL [(49, [⟨(.int .i64), r31⟩]), (51, [⟨(.int .i64), r32⟩])]) (fz := []) (l := [5, 6, 47]) (c := _) (.inr fun i h => h) h (by kernel_rfl) (AllP.cons (c132 k (IntKind.i64.wrap (x1.1 - x0.1)) r31 hr37) (AllP.cons (c132 k (IntKind.i64.wrap (x1.2 - x0.2)) r32 hr38) AllP.nil)) ?_
      intro a w h
      refine wp_if h (b := (bif (decide ((r31 : Int) > r32)) then (decide (((IntKind.i64.wrap (x1.1 - x0.1)) : Int) > (0 : Int))) else false)) (by kernel_rfl) (fun hb => ?_) (fun hb => ?_)
      · replace hF := of_t hb hF
        refine wp_reg_seq tok (orc := orcL []) (fz := []) (l := [4]) (c := _) (.inr fun i h => h) h (by kernel_rfl) (AllP.nil) ?_
        intro a w h
        cases hF
        exact wp_ret (ret_okR tok h rfl (by kernel_rfl)).1
      · replace hF := of_f hb hF
        obtain ⟨r33, hr35, hF⟩ := of_bind hF
        obtain ⟨r34, hr36, hF⟩ := of_bind hF
        refine wp_reg_seq tok (orc := orcL [(59, [⟨(.int .i64), r33⟩]), (61, [⟨(.int .i64), r34⟩])]) (fz := []) (l := [6, 57]) (c := _) (.inr fun i h => h) h (by kernel_rfl) (AllP.cons (c132 k (IntKind.i64.wrap (x1.1 - x0.1)) r33 hr35) (AllP.cons (c132 k (IntKind.i64.wrap (x1.2 - x0.2)) r34 hr36) AllP.nil)) ?_
        intro a w h
        refine wp_if h (b := (decide ((r33 : Int) > r34))) (by kernel_rfl) (fun hb => ?_) (fun hb => ?_)
        · replace hF := of_t hb hF
          refine wp_reg_seq tok (orc := orcL []) (fz := []) (l := [4]) (c := _) (.inr fun i h => h) h (by kernel_rfl) (AllP.nil) ?_
          intro a w h
          cases hF
          exact wp_ret (ret_okR tok h rfl (by kernel_rfl)).1
        · replace hF := of_f hb hF
          refine wp_reg_seq tok (orc := orcL []) (fz := []) (l := [63]) (c := _) (.inr fun i h => h) h (by kernel_rfl) (AllP.nil) ?_
          intro a w h
          refine wp_if h (b := (decide (((IntKind.i64.wrap (x1.2 - x0.2)) : Int) > (0 : Int)))) (by kernel_rfl) (fun hb => ?_) (fun hb => ?_)
          · replace hF := of_t hb hF
            refine wp_reg_seq tok (orc := orcL []) (fz := []) (l := [4]) (c := _) (.inr fun i h => h) h (by kernel_rfl) (AllP.nil) ?_
            intro a w h
            cases hF
            exact wp_ret (ret_okR tok h rfl (by kernel_rfl)).1
          · replace hF := of_f hb hF
            refine wp_skip ?_
            refine wp_reg_seq tok (orc := orcL []) (fz := []) (l := [4]) (c := _) (.inr fun i h => h) h (by kernel_rfl) (AllP.nil) ?_
            intro a w h
            cases hF
            exact wp_ret (ret_okR tok h rfl (by kernel_rfl)).1
    · replace hF := of_f hb hF
      refine wp_skip ?_
      refine wp_seq <| wp_block ?_
      refine wp_reg_seq tok (orc := orcL []) (fz := []) (l := [5, 6, 66]) (c := _) (.inr fun i h => h) h (by kernel_rfl) (AllP.nil) ?_
      intro a w h
      refine wp_if h (b := (bif (decide (((IntKind.i64.wrap (x1.1 - x0.1)) : Int) > (0 : Int))) then (decide (((IntKind.i64.wrap (x1.2 - x0.2)) : Int) > (0 : Int))) else false)) (by kernel_rfl) (fun hb => ?_) (fun hb => ?_)
      · replace hF := of_t hb hF
        refine wp_reg_seq tok (orc := orcL []) (fz := []) (l := [4]) (c := _) (.inr fun i h => h) h (by kernel_rfl) (AllP.nil) ?_
        intro a w h
        cases hF
        exact wp_ret (ret_okR tok h rfl (by kernel_rfl)).1
      · replace hF := of_f hb hF
        refine wp_reg_seq tok (orc := orcL []) (fz := []) (l := [5, 6, 73]) (c := _) (.inr fun i h => h) h (by kernel_rfl) (AllP.nil) ?_
        intro a w h
        refine wp_if h (b := (bif (decide (((IntKind.i64.wrap (x1.1 - x0.1)) : Int) < (0 : Int))) then (decide (((IntKind.i64.wrap (x1.2 - x0.2)) : Int) > (0 : Int))) else false)) (by kernel_rfl) (fun hb => ?_) (fun hb => ?_)
        · replace hF := of_t hb hF
          refine wp_reg_seq tok (orc := orcL []) (fz := []) (l := [4]) (c := _) (.inr fun i h => h) h (by kernel_rfl) (AllP.nil) ?_
          intro a w h
          cases hF
          exact wp_ret (ret_okR tok h rfl (by kernel_rfl)).1
        · replace hF := of_f hb hF
          refine wp_reg_seq tok (orc := orcL []) (fz := []) (l := [80]) (c := _) (.inr fun i h => h) h (by kernel_rfl) (AllP.nil) ?_
          intro a w h
          refine wp_if h (b := (bif (decide (((IntKind.i64.wrap (x1.1 - x0.1)) : Int) < (0 : Int))) then (decide (((IntKind.i64.wrap (x1.2 - x0.2)) : Int) < (0 : Int))) else false)) (by kernel_rfl) (fun hb => ?_) (fun hb => ?_)
          · replace hF := of_t hb hF
            refine wp_reg_seq tok (orc := orcL []) (fz := []) (l := [4]) (c := _) (.inr fun i h => h) h (by kernel_rfl) (AllP.nil) ?_
            intro a w h
            cases hF
            exact wp_ret (ret_okR tok h rfl (by kernel_rfl)).1
          · replace hF := of_f hb hF
            refine wp_skip ?_
            refine wp_reg_seq tok (orc := orcL []) (fz := []) (l := [4]) (c := _) (.inr fun i h => h) h (by kernel_rfl) (AllP.nil) ?_
            intro a w h
            cases hF
            exact wp_ret (ret_okR tok h rfl (by kernel_rfl)).1

def f115 (k : Nat) (x0 : (((List (Int × (Int × Int))) × ((List (Int × (Int × (Int × (Int × (Int × ByteArray)))))) × (List (Int × Int)))) × ((List (List Int)) × ((List (List Int)) × (Option (List ((Int × Int) × Bool))))))) (x1 : Int) (x2 : Int) : Option Int := if (0 ≤ x1 ∧ x1 < (List.length x0.1.2.1 : Int)) then (if (0 ≤ x2 ∧ x2 < (List.length x0.1.2.1 : Int)) then (if (0 ≤ (List.getD x0.1.2.1 (Int.toNat x1) ((0 : Int), ((0 : Int), ((0 : Int), ((0 : Int), ((0 : Int), (⟨#[]⟩ : ByteArray))))))).1 ∧ (List.getD x0.1.2.1 (Int.toNat x1) ((0 : Int), ((0 : Int), ((0 : Int), ((0 : Int), ((0 : Int), (⟨#[]⟩ : ByteArray))))))).1 < (List.length x0.1.1 : Int)) then (if (0 ≤ (List.getD x0.1.2.1 (Int.toNat x1) ((0 : Int), ((0 : Int), ((0 : Int), ((0 : Int), ((0 : Int), (⟨#[]⟩ : ByteArray))))))).2.1 ∧ (List.getD x0.1.2.1 (Int.toNat x1) ((0 : Int), ((0 : Int), ((0 : Int), ((0 : Int), ((0 : Int), (⟨#[]⟩ : ByteArray))))))).2.1 < (List.length x0.1.1 : Int)) then ((f130 k (List.getD x0.1.1 (Int.toNat (List.getD x0.1.2.1 (Int.toNat x1) ((0 : Int), ((0 : Int), ((0 : Int), ((0 : Int), ((0 : Int), (⟨#[]⟩ : ByteArray))))))).1) ((0 : Int), ((0 : Int), (0 : Int)))).2 (List.getD x0.1.1 (Int.toNat (List.getD x0.1.2.1 (Int.toNat x1) ((0 : Int), ((0 : Int), ((0 : Int), ((0 : Int), ((0 : Int), (⟨#[]⟩ : ByteArray))))))).2.1) ((0 : Int), ((0 : Int), (0 : Int)))).2).bind fun r1 => (if (0 ≤ (List.getD x0.1.2.1 (Int.toNat x2) ((0 : Int), ((0 : Int), ((0 : Int), ((0 : Int), ((0 : Int), (⟨#[]⟩ : ByteArray))))))).1 ∧ (List.getD x0.1.2.1 (Int.toNat x2) ((0 : Int), ((0 : Int), ((0 : Int), ((0 : Int), ((0 : Int), (⟨#[]⟩ : ByteArray))))))).1 < (List.length x0.1.1 : Int)) then (if (0 ≤ (List.getD x0.1.2.1 (Int.toNat x2) ((0 : Int), ((0 : Int), ((0 : Int), ((0 : Int), ((0 : Int), (⟨#[]⟩ : ByteArray))))))).2.1 ∧ (List.getD x0.1.2.1 (Int.toNat x2) ((0 : Int), ((0 : Int), ((0 : Int), ((0 : Int), ((0 : Int), (⟨#[]⟩ : ByteArray))))))).2.1 < (List.length x0.1.1 : Int)) then ((f130 k (List.getD x0.1.1 (Int.toNat (List.getD x0.1.2.1 (Int.toNat x2) ((0 : Int), ((0 : Int), ((0 : Int), ((0 : Int), ((0 : Int), (⟨#[]⟩ : ByteArray))))))).1) ((0 : Int), ((0 : Int), (0 : Int)))).2 (List.getD x0.1.1 (Int.toNat (List.getD x0.1.2.1 (Int.toNat x2) ((0 : Int), ((0 : Int), ((0 : Int), ((0 : Int), ((0 : Int), (⟨#[]⟩ : ByteArray))))))).2.1) ((0 : Int), ((0 : Int), (0 : Int)))).2).bind fun r2 => (if (bif (decide ((r1 : Int) < (0 : Int))) then true else (decide ((r2 : Int) < (0 : Int)))) then (some (-1 : Int)) else (if (((8 : Int) : Int) ≠ 0) then (some (Int.tmod (IntKind.i64.wrap ((IntKind.i64.wrap (r2 - r1)) + (8 : Int))) (8 : Int))) else none))) else none) else none)) else none) else none) else none) else none
set_option maxRecDepth 100000 in
/-- 'impl.myNet).winds'. -/
theorem c115 (k : Nat) (x0 : (((List (Int × (Int × Int))) × ((List (Int × (Int × (Int × (Int × (Int × ByteArray)))))) × (List (Int × Int)))) × ((List (List Int)) × ((List (List Int)) × (Option (List ((Int × Int) × Bool))))))) (x1 : Int) (x2 : Int) (r : Int) (hF : f115 k x0 x1 x2 = some r) : PCall Try.prog 115 [⟨sh20, some x0⟩, ⟨(.int .i64), x1⟩, ⟨(.int .i64), x2⟩] [⟨(.int .i64), r⟩] := by
  refine pcall_intro Try.func115 rfl rfl (Nat.le_of_ble_eq_true rfl) ?_
  intro w0 Zi a w h
  rw [f115] at hF
  refine wp_reg_seq tok (orc := orcL []) (fz := []) (l := [0, 1, 2]) (c := _) (.inr fun i h => h) h (by kernel_rfl) (AllP.nil) ?_
  intro a w h
  obtain ⟨hc10, hF⟩ := of_if hF
  obtain ⟨hc11, hF⟩ := of_if hF
  refine wp_regy_seq tok (orc := orcL []) (fz := []) (l := [0, 7, 8]) (c := _) [(18, 7)] 19 (.inr fun i h => h) h (by kernel_rfl) (by kernel_rfl) (AllP.cons hc10 (AllP.cons hc11 AllP.nil)) ?_
  intro a w h
  obtain ⟨hc7, hF⟩ := of_if hF
  obtain ⟨hc8, hF⟩ := of_if hF
  obtain ⟨r1, hr9, hF⟩ := of_bind hF
  refine wp_regy_seq tok (orc := orcL [(47, [⟨(.int .i64), r1⟩])]) (fz := []) (l := [0, 8, 9]) (c := _) [] 22 (.inr fun i h => h) h (by kernel_rfl) (by kernel_rfl) (AllP.cons hc7 (AllP.cons hc8 (AllP.cons (c130 k (List.getD x0.1.1 (Int.toNat (List.getD x0.1.2.1 (Int.toNat x1) ((0 : Int), ((0 : Int), ((0 : Int), ((0 : Int), ((0 : Int), (⟨#[]⟩ : ByteArray))))))).1) ((0 : Int), ((0 : Int), (0 : Int)))).2 (List.getD x0.1.1 (Int.toNat (List.getD x0.1.2.1 (Int.toNat x1) ((0 : Int), ((0 : Int), ((0 : Int), ((0 : Int), ((0 : Int), (⟨#[]⟩ : ByteArray))))))).2.1) ((0 : Int), ((0 : Int), (0 : Int)))).2 r1 hr9) AllP.nil))) ?_
  intro a w h
  obtain ⟨hc4, hF⟩ := of_if hF
  obtain ⟨hc5, hF⟩ := of_if hF
  obtain ⟨r2, hr6, hF⟩ := of_bind hF
  refine wp_regy_seq tok (orc := orcL [(68, [⟨(.int .i64), r2⟩])]) (fz := []) (l := [9, 10]) (c := _) [] 22 (.inr fun i h => h) h (by kernel_rfl) (by kernel_rfl) (AllP.cons hc4 (AllP.cons hc5 (AllP.cons (c130 k (List.getD x0.1.1 (Int.toNat (List.getD x0.1.2.1 (Int.toNat x2) ((0 : Int), ((0 : Int), ((0 : Int), ((0 : Int), ((0 : Int), (⟨#[]⟩ : ByteArray))))))).1) ((0 : Int), ((0 : Int), (0 : Int)))).2 (List.getD x0.1.1 (Int.toNat (List.getD x0.1.2.1 (Int.toNat x2) ((0 : Int), ((0 : Int), ((0 : Int), ((0 : Int), ((0 : Int), (⟨#[]⟩ : ByteArray))))))).2.1) ((0 : Int), ((0 : Int), (0 : Int)))).2 r2 hr6) AllP.nil))) ?_
  intro a w h
  refine wp_seq ?_
  refine wp_reg_seq tok (orc := orcL []) (fz := []) (l := [9, 10, 74]) (c := _) (.inr fun i h => h) h (by kernel_rfl) (AllP.nil) ?_
  intro a w h
  refine wp_if h (b := (bif (decide ((r1 : Int) < (0 : Int))) then true else (decide ((r2 : Int) < (0 : Int))))) (by kernel_rfl) (fun hb => ?_) (fun hb => ?_)
  · replace hF := of_t hb hF
    refine wp_reg_seq tok (orc := orcL []) (fz := []) (l := [6]) (c := _) (.inr fun i h => h) h (by kernel_rfl) (AllP.nil) ?_
    intro a w h
    cases hF
    exact wp_ret (ret_okR tok h rfl (by kernel_rfl)).1
  · replace hF := of_f hb hF
    refine wp_skip ?_
    obtain ⟨hc3, hF⟩ := of_if hF
    refine wp_reg_seq tok (orc := orcL []) (fz := []) (l := [6]) (c := _) (.inr fun i h => h) h (by kernel_rfl) (AllP.cons hc3 AllP.nil) ?_
    intro a w h
    cases hF
    exact wp_ret (ret_okR tok h rfl (by kernel_rfl)).1

def f119 (k : Nat) (x0 : (((List (Int × (Int × Int))) × ((List (Int × (Int × (Int × (Int × (Int × ByteArray)))))) × (List (Int × Int)))) × ((List (List Int)) × ((List (List Int)) × (Option (List ((Int × Int) × Bool))))))) (x1 : Int) (x2 : Int) : Option Int := if (0 ≤ x2 ∧ x2 < (List.length x0.1.2.1 : Int)) then (if (0 ≤ x1 ∧ x1 < (List.length x0.1.2.1 : Int)) then (if (((List.getD x0.1.2.1 (Int.toNat x2) ((0 : Int), ((0 : Int), ((0 : Int), ((0 : Int), ((0 : Int), (⟨#[]⟩ : ByteArray))))))).2.1 : Int) == (List.getD x0.1.2.1 (Int.toNat x1) ((0 : Int), ((0 : Int), ((0 : Int), ((0 : Int), ((0 : Int), (⟨#[]⟩ : ByteArray))))))).1) then (some (8 : Int)) else ((f115 k x0 x1 x2).bind fun r1 => (if (decide ((r1 : Int) < (0 : Int))) then (some (0 : Int)) else (some r1)))) else none) else none
set_option maxRecDepth 100000 in
/-- 'impl.myNet).wind'. -/
theorem c119 (k : Nat) (x0 : (((List (Int × (Int × Int))) × ((List (Int × (Int × (Int × (Int × (Int × ByteArray)))))) × (List (Int × Int)))) × ((List (List Int)) × ((List (List Int)) × (Option (List ((Int × Int) × Bool))))))) (x1 : Int) (x2 : Int) (r : Int) (hF : f119 k x0 x1 x2 = some r) : PCall Try.prog 119 [⟨sh20, some x0⟩, ⟨(.int .i64), x1⟩, ⟨(.int .i64), x2⟩] [⟨(.int .i64), r⟩] := by
  refine pcall_intro Try.func119 rfl rfl (Nat.le_of_ble_eq_true rfl) ?_
  intro w0 Zi a w h
  rw [f119] at hF
  refine wp_reg_seq tok (orc := orcL []) (fz := []) (l := [0, 1, 2]) (c := _) (.inr fun i h => h) h (by kernel_rfl) (AllP.nil) ?_
  intro a w h
  refine wp_seq ?_
  obtain ⟨hc3, hF⟩ := of_if hF
  obtain ⟨hc4, hF⟩ := of_if hF
  refine wp_regy_seq tok (orc := orcL []) (fz := []) (l := [0, 1, 2, 26]) (c := _) [] 19 (.inr fun i h => h) h (by kernel_rfl) (by kernel_rfl) (AllP.cons hc3 (AllP.cons hc4 AllP.nil)) ?_
  intro a w h
  refine wp_if h (b := (((List.getD x0.1.2.1 (Int.toNat x2) ((0 : Int), ((0 : Int), ((0 : Int), ((0 : Int), ((0 : Int), (⟨#[]⟩ : ByteArray))))))).2.1 : Int) == (List.getD x0.1.2.1 (Int.toNat x1) ((0 : Int), ((0 : Int), ((0 : Int), ((0 : Int), ((0 : Int), (⟨#[]⟩ : ByteArray))))))).1)) (by kernel_rfl) (fun hb => ?_) (fun hb => ?_)
  · replace hF := of_t hb hF
    refine wp_reg_seq tok (orc := orcL []) (fz := []) (l := [6]) (c := _) (.inr fun i h => h) h (by kernel_rfl) (AllP.nil) ?_
    intro a w h
    cases hF
    exact wp_ret (ret_okR tok h rfl (by kernel_rfl)).1
  · replace hF := of_f hb hF
    refine wp_skip ?_
    obtain ⟨r1, hr2, hF⟩ := of_bind hF
    refine wp_reg_seq tok (orc := orcL [(30, [⟨(.int .i64), r1⟩])]) (fz := []) (l := [7]) (c := _) (.inr fun i h => h) h (by kernel_rfl) (AllP.cons (c115 k x0 x1 x2 r1 hr2) AllP.nil) ?_
    intro a w h
    refine wp_seq ?_
    refine wp_reg_seq tok (orc := orcL []) (fz := []) (l := [7, 32]) (c := _) (.inr fun i h => h) h (by kernel_rfl) (AllP.nil) ?_
    intro a w h
    refine wp_if h (b := (decide ((r1 : Int) < (0 : Int)))) (by kernel_rfl) (fun hb => ?_) (fun hb => ?_)
    · replace hF := of_t hb hF
      refine wp_reg_seq tok (orc := orcL []) (fz := []) (l := [6]) (c := _) (.inr fun i h => h) h (by kernel_rfl) (AllP.nil) ?_
      intro a w h
      cases hF
      exact wp_ret (ret_okR tok h rfl (by kernel_rfl)).1
    · replace hF := of_f hb hF
      refine wp_skip ?_
      refine wp_reg_seq tok (orc := orcL []) (fz := []) (l := [6]) (c := _) (.inr fun i h => h) h (by kernel_rfl) (AllP.nil) ?_
      intro a w h
      cases hF
      exact wp_ret (ret_okR tok h rfl (by kernel_rfl)).1

def f80.j122 (k : Nat) (v112 : Int) (q66 : (Int × Int × Int) → Option Int) : (Int × Int) → Option Int
  | (v120, v121) => q66 (v120, v121, (IntKind.i64.wrap (v112 + (1 : Int))))
def f80.j125 (k : Nat) (v110 : Int) (r1 : (List Int)) (v112 : Int) (v111 : Int) (q122 : (Int × Int) → Option Int) : Int → Option Int
  | v124 => if (decide ((v124 : Int) < v110)) then (q122 (v124, (List.getD r1 (Int.toNat v112) (0 : Int)))) else (q122 (v110, v111))
def f80.l66 (k : Nat) (r1 : (List Int)) (x0 : (((List (Int × (Int × Int))) × ((List (Int × (Int × (Int × (Int × (Int × ByteArray)))))) × (List (Int × Int)))) × ((List (List Int)) × ((List (List Int)) × (Option (List ((Int × Int) × Bool))))))) (x1 : Int) : Nat → (Int × Int × Int) → Option Int
  | 0, _ => none
  | m66 + 1, (v110, v111, v112) => if (decide ((v112 : Int) < (List.length r1 : Int))) then (if (0 ≤ v112 ∧ v112 < (List.length r1 : Int)) then (if (0 ≤ (List.getD r1 (Int.toNat v112) (0 : Int)) ∧ (List.getD r1 (Int.toNat v112) (0 : Int)) < (List.length x0.1.2.1 : Int)) then (if (0 ≤ x1 ∧ x1 < (List.length x0.1.2.1 : Int)) then (if (!(ByteArray.toList (List.getD x0.1.2.1 (Int.toNat (List.getD r1 (Int.toNat v112) (0 : Int))) ((0 : Int), ((0 : Int), ((0 : Int), ((0 : Int), ((0 : Int), (⟨#[]⟩ : ByteArray))))))).2.2.2.2.2 == ByteArray.toList (List.getD x0.1.2.1 (Int.toNat x1) ((0 : Int), ((0 : Int), ((0 : Int), ((0 : Int), ((0 : Int), (⟨#[]⟩ : ByteArray))))))).2.2.2.2.2)) then (f80.j122 k v112 ((f80.l66 k r1 x0 x1) m66) (v110, v111)) else ((f119 k x0 x1 (List.getD r1 (Int.toNat v112) (0 : Int))).bind fun r123 => (if (bif (decide ((r123 : Int) < (8 : Int))) then (decide (((IntKind.i64.wrap ((8 : Int) - r123)) : Int) < r123)) else false) then (f80.j125 k v110 r1 v112 v111 (f80.j122 k v112 ((f80.l66 k r1 x0 x1) m66)) (IntKind.i64.wrap ((8 : Int) - r123))) else (f80.j125 k v110 r1 v112 v111 (f80.j122 k v112 ((f80.l66 k r1 x0 x1) m66)) r123)))) else none) else none) else none) else (some v111)
def f80 (k : Nat) (x0 : (((List (Int × (Int × Int))) × ((List (Int × (Int × (Int × (Int × (Int × ByteArray)))))) × (List (Int × Int)))) × ((List (List Int)) × ((List (List Int)) × (Option (List ((Int × Int) × Bool))))))) (x1 : Int) : Option Int := (f118 k x0 x1).bind fun r1 => (f80.l66 k r1 x0 x1 k ((99 : Int), (-1 : Int), (0 : Int)))
set_option maxRecDepth 100000 in
/-- 'impl.myNet).ahead'. -/
theorem c80 (k : Nat) (x0 : (((List (Int × (Int × Int))) × ((List (Int × (Int × (Int × (Int × (Int × ByteArray)))))) × (List (Int × Int)))) × ((List (List Int)) × ((List (List Int)) × (Option (List ((Int × Int) × Bool))))))) (x1 : Int) (r : Int) (hF : f80 k x0 x1 = some r) : PCall Try.prog 80 [⟨sh20, some x0⟩, ⟨(.int .i64), x1⟩] [⟨(.int .i64), r⟩] := by
  refine pcall_intro Try.func80 rfl rfl (Nat.le_of_ble_eq_true rfl) ?_
  intro w0 Zi a w h
  rw [f80] at hF
  refine wp_reg_seq tok (orc := orcL []) (fz := []) (l := [0, 1]) (c := _) (.inr fun i h => h) h (by kernel_rfl) (AllP.nil) ?_
  intro a w h
  refine wp_reg_seq tok (orc := orcL []) (fz := []) (l := [0, 1, 5, 6]) (c := _) (.inr fun i h => h) h (by kernel_rfl) (AllP.nil) ?_
  intro a w h
  refine wp_seq ?_
  obtain ⟨r1, hr130, hF⟩ := of_bind hF
  refine wp_reg_seq tok (orc := orcL [(12, [⟨(.sl true 2 (.int .i64)), r1⟩])]) (fz := []) (l := [0, 1, 5, 6, 12, 13, 14]) (c := _) (.inr fun i h => h) h (by kernel_rfl) (AllP.cons (c118 k x0 x1 r1 hr130) AllP.nil) ?_
  intro a w h
  refine wp_block ?_
  refine wp_loop_fuel (f80.l66 k r1 x0 x1) (fun ((v110, v111, v112) : (Int × Int × Int)) => [(0, .val sh20 (some x0)), (1, .val (.int .i64) x1), (5, .val (.int .i64) v110), (6, .val (.int .i64) v111), (12, .val (.sl true 2 (.int .i64)) r1), (13, .val (.int .i64) (List.length r1 : Int)), (14, .val (.int .i64) v112)]) (fun v h => by obtain ⟨v110, v111, v112⟩ := v; rw [f80.l66] at h; cases h) ?_ hF (h.arrive (fz := []) (l := [0, 1, 5, 6, 12, 13, 14]) (.inr fun i h => h) (by kernel_rfl))
  intro m66 v a w hF h
  obtain ⟨v110, v111, v112⟩ := v
  rw [f80.l66] at hF
  refine wp_reg_seq tok (orc := orcL []) (fz := []) (l := [0, 1, 5, 6, 12, 13, 14, 15]) (c := _) (.inr fun i h => h) h (by kernel_rfl) (AllP.nil) ?_
  intro a w h
  refine wp_seq <| wp_if h (b := (decide ((v112 : Int) < (List.length r1 : Int)))) (by kernel_rfl) (fun hb => ?_) (fun hb => ?_)
  · replace hF := of_t hb hF
    refine wp_skip ?_
    refine wp_mid (fun a w => ∃ v : (Int × Int), f80.j122 k v112 ((f80.l66 k r1 x0 x1) m66) v = some r ∧ Rel w0 (fun _ => False) Zi Try.f80.ntmps ((fun ((v120, v121) : (Int × Int)) => ([(0, .val sh20 (some x0)), (1, .val (.int .i64) x1), (5, .val (.int .i64) v120), (6, .val (.int .i64) v121), (12, .val (.sl true 2 (.int .i64)) r1), (13, .val (.int .i64) (List.length r1 : Int)), (14, .val (.int .i64) v112)] : SS)) v) a w) ?_ ?_
    ·
      refine wp_block ?_
      obtain ⟨hc129, hF⟩ := of_if hF
      refine wp_reg_seq tok (orc := orcL []) (fz := []) (l := [0, 1, 5, 6, 8, 12, 13, 14]) (c := _) (.inr fun i h => h) h (by kernel_rfl) (AllP.cons hc129 AllP.nil) ?_
      intro a w h
      refine wp_seq ?_
      obtain ⟨hc127, hF⟩ := of_if hF
      obtain ⟨hc128, hF⟩ := of_if hF
      refine wp_regy_seq tok (orc := orcL []) (fz := []) (l := [0, 1, 5, 6, 8, 12, 13, 14, 36]) (c := _) [] 19 (.inr fun i h => h) h (by kernel_rfl) (by kernel_rfl) (AllP.cons hc127 (AllP.cons hc128 AllP.nil)) ?_
      intro a w h
      refine wp_if h (b := (!(ByteArray.toList (List.getD x0.1.2.1 (Int.toNat (List.getD r1 (Int.toNat v112) (0 : Int))) ((0 : Int), ((0 : Int), ((0 : Int), ((0 : Int), ((0 : Int), (⟨#[]⟩ : ByteArray))))))).2.2.2.2.2 == ByteArray.toList (List.getD x0.1.2.1 (Int.toNat x1) ((0 : Int), ((0 : Int), ((0 : Int), ((0 : Int), ((0 : Int), (⟨#[]⟩ : ByteArray))))))).2.2.2.2.2))) (by kernel_rfl) (fun hb => ?_) (fun hb => ?_)
      · replace hF := of_t hb hF
        refine wp_exit ?_
        exact ⟨(v110, v111), hF, h.arrive (fz := []) (l := [0, 1, 5, 6, 12, 13, 14]) (.inr fun i h => h) (by kernel_rfl)⟩
      · replace hF := of_f hb hF
        refine wp_skip ?_
        obtain ⟨r123, hr126, hF⟩ := of_bind hF
        refine wp_reg_seq tok (orc := orcL [(40, [⟨(.int .i64), r123⟩])]) (fz := []) (l := [0, 1, 5, 6, 8, 9, 12, 13, 14]) (c := _) (.inr fun i h => h) h (by kernel_rfl) (AllP.cons (c119 k x0 x1 (List.getD r1 (Int.toNat v112) (0 : Int)) r123 hr126) AllP.nil) ?_
        intro a w h
        refine wp_seq ?_
        refine wp_reg_seq tok (orc := orcL []) (fz := []) (l := [0, 1, 5, 6, 8, 9, 12, 13, 14, 48]) (c := _) (.inr fun i h => h) h (by kernel_rfl) (AllP.nil) ?_
        intro a w h
        refine wp_midT (fun a w => ∃ v : Int, f80.j125 k v110 r1 v112 v111 (f80.j122 k v112 ((f80.l66 k r1 x0 x1) m66)) v = some r ∧ Rel w0 (fun _ => False) Zi Try.f80.ntmps ((fun (v124 : Int) => ([(0, .val sh20 (some x0)), (1, .val (.int .i64) x1), (5, .val (.int .i64) v110), (6, .val (.int .i64) v111), (8, .val (.int .i64) (List.getD r1 (Int.toNat v112) (0 : Int))), (9, .val (.int .i64) v124), (12, .val (.sl true 2 (.int .i64)) r1), (13, .val (.int .i64) (List.length r1 : Int)), (14, .val (.int .i64) v112)] : SS)) v) a w) ?_ ?_
        ·
          refine wp_if h (b := (bif (decide ((r123 : Int) < (8 : Int))) then (decide (((IntKind.i64.wrap ((8 : Int) - r123)) : Int) < r123)) else false)) (by kernel_rfl) (fun hb => ?_) (fun hb => ?_)
          · replace hF := of_t hb hF
            refine wp_reg tok (orc := orcL []) (fz := []) (l := [0, 1, 5, 6, 8, 9, 12, 13, 14]) (c := _) (.inr fun i h => h) h (by kernel_rfl) (AllP.nil) ?_
            intro a w h
            exact ⟨(IntKind.i64.wrap ((8 : Int) - r123)), hF, h.arrive (fz := []) (l := [0, 1, 5, 6, 8, 9, 12, 13, 14]) (.inr fun i h => h) (by kernel_rfl)⟩
          · replace hF := of_f hb hF
            refine wp_skip ?_
            exact ⟨r123, hF, h.arrive (fz := []) (l := [0, 1, 5, 6, 8, 9, 12, 13, 14]) (.inr fun i h => h) (by kernel_rfl)⟩
        · rintro a w ⟨v124, hF, h⟩
          rw [f80.j125] at hF
          refine wp_reg_seq tok (orc := orcL []) (fz := []) (l := [0, 1, 5, 6, 8, 9, 12, 13, 14, 53]) (c := _) (.inr fun i h => h) h (by kernel_rfl) (AllP.nil) ?_
          intro a w h
          refine wp_if h (b := (decide ((v124 : Int) < v110))) (by kernel_rfl) (fun hb => ?_) (fun hb => ?_)
          · replace hF := of_t hb hF
            refine wp_reg tok (orc := orcL []) (fz := []) (l := [0, 1, 5, 6, 12, 13, 14]) (c := _) (.inr fun i h => h) h (by kernel_rfl) (AllP.nil) ?_
            intro a w h
            exact ⟨(v124, (List.getD r1 (Int.toNat v112) (0 : Int))), hF, h.arrive (fz := []) (l := [0, 1, 5, 6, 12, 13, 14]) (.inr fun i h => h) (by kernel_rfl)⟩
          · replace hF := of_f hb hF
            refine wp_skip ?_
            exact ⟨(v110, v111), hF, h.arrive (fz := []) (l := [0, 1, 5, 6, 12, 13, 14]) (.inr fun i h => h) (by kernel_rfl)⟩
    · rintro a w ⟨v, hF, h⟩
      obtain ⟨v120, v121⟩ := v
      rw [f80.j122] at hF
      refine wp_reg tok (orc := orcL []) (fz := []) (l := [0, 1, 5, 6, 12, 13, 14]) (c := _) (.inr fun i h => h) h (by kernel_rfl) (AllP.nil) ?_
      intro a w h
      exact ⟨(v120, v121, (IntKind.i64.wrap (v112 + (1 : Int)))), hF, h.arrive (fz := []) (l := [0, 1, 5, 6, 12, 13, 14]) (.inr fun i h => h) (by kernel_rfl)⟩
  · replace hF := of_f hb hF
    refine wp_exit ?_
    refine wp_reg_seq tok (orc := orcL []) (fz := []) (l := [4]) (c := _) (.inr fun i h => h) h (by kernel_rfl) (AllP.nil) ?_
    intro a w h
    cases hF
    exact wp_ret (ret_okR tok h rfl (by kernel_rfl)).1

def f32 (k : Nat) (x0 : ((List (Int × (Int × Int))) × ((List (Int × (Int × (Int × (Int × (Int × ByteArray)))))) × (List (Int × Int))))) (x1 : Int) : Option Int := (f63 k x0).bind fun r1 => (if (!r1) then (some (-1 : Int)) else ((f64 k x0).bind fun r2 => ((f65 k r2 x1).bind fun r3 => (if (!r3) then (some (-1 : Int)) else ((f80 k r2 x1).bind fun r4 => (some r4))))))
set_option maxRecDepth 100000 in
/-- 'impl.Ahead'. -/
theorem c32 (k : Nat) (x0 : ((List (Int × (Int × Int))) × ((List (Int × (Int × (Int × (Int × (Int × ByteArray)))))) × (List (Int × Int))))) (x1 : Int) (r : Int) (hF : f32 k x0 x1 = some r) : PCall Try.prog 32 [⟨sh12, x0⟩, ⟨(.int .i64), x1⟩] [⟨(.int .i64), r⟩] := by
  refine pcall_intro Try.func32 rfl rfl (Nat.le_of_ble_eq_true rfl) ?_
  intro w0 Zi a w h
  rw [f32] at hF
  refine wp_reg_seq tok (orc := orcL []) (fz := []) (l := [1, 2]) (c := _) (.inr fun i h => h) h (by kernel_rfl) (AllP.nil) ?_
  intro a w h
  refine wp_seq ?_
  obtain ⟨r1, hr8, hF⟩ := of_bind hF
  refine wp_reg_seq tok (orc := orcL [(7, [⟨.bool, r1⟩])]) (fz := []) (l := [1, 2, 8]) (c := _) (.inr fun i h => h) h (by kernel_rfl) (AllP.cons (c63 k x0 r1 hr8) AllP.nil) ?_
  intro a w h
  refine wp_if h (b := (!r1)) (by kernel_rfl) (fun hb => ?_) (fun hb => ?_)
  · replace hF := of_t hb hF
    refine wp_reg_seq tok (orc := orcL []) (fz := []) (l := [4]) (c := _) (.inr fun i h => h) h (by kernel_rfl) (AllP.nil) ?_
    intro a w h
    cases hF
    exact wp_ret (ret_okR tok h rfl (by kernel_rfl)).1
  · replace hF := of_f hb hF
    refine wp_skip ?_
    obtain ⟨r2, hr7, hF⟩ := of_bind hF
    refine wp_reg_seq tok (orc := orcL [(10, [⟨sh19, some r2⟩])]) (fz := []) (l := [1, 5]) (c := _) (.inr fun i h => h) h (by kernel_rfl) (AllP.cons (c64 k x0 r2 hr7) AllP.nil) ?_
    intro a w h
    refine wp_seq ?_
    obtain ⟨r3, hr6, hF⟩ := of_bind hF
    refine wp_reg_seq tok (orc := orcL [(13, [⟨.bool, r3⟩])]) (fz := []) (l := [1, 5, 14]) (c := _) (.inr fun i h => h) h (by kernel_rfl) (AllP.cons (c65 k r2 x1 r3 hr6) AllP.nil) ?_
    intro a w h
    refine wp_if h (b := (!r3)) (by kernel_rfl) (fun hb => ?_) (fun hb => ?_)
    · replace hF := of_t hb hF
      refine wp_reg_seq tok (orc := orcL []) (fz := []) (l := [4]) (c := _) (.inr fun i h => h) h (by kernel_rfl) (AllP.nil) ?_
      intro a w h
      cases hF
      exact wp_ret (ret_okR tok h rfl (by kernel_rfl)).1
    · replace hF := of_f hb hF
      refine wp_skip ?_
      obtain ⟨r4, hr5, hF⟩ := of_bind hF
      refine wp_reg_seq tok (orc := orcL [(17, [⟨(.int .i64), r4⟩])]) (fz := []) (l := [4]) (c := _) (.inr fun i h => h) h (by kernel_rfl) (AllP.cons (c80 k r2 x1 r4 hr5) AllP.nil) ?_
      intro a w h
      cases hF
      exact wp_ret (ret_okR tok h rfl (by kernel_rfl)).1

def f128 (k : Nat) (x0 : (Int × Int)) (x1 : (Int × Int)) : Option Bool := if ((x0.1 : Int) != x1.1) then (some false) else (if ((x0.2 : Int) != x1.2) then (some false) else (some true))
set_option maxRecDepth 100000 in
/-- 'laws.eqPoint'. -/
theorem c128 (k : Nat) (x0 : (Int × Int)) (x1 : (Int × Int)) (r : Bool) (hF : f128 k x0 x1 = some r) : PCall Try.prog 128 [⟨sh5, x0⟩, ⟨sh5, x1⟩] [⟨.bool, r⟩] := by
  refine pcall_intro Try.func128 rfl rfl (Nat.le_of_ble_eq_true rfl) ?_
  intro w0 Zi a w h
  rw [f128] at hF
  refine wp_reg_seq tok (orc := orcL []) (fz := []) (l := [2, 3]) (c := _) (.inr fun i h => h) h (by kernel_rfl) (AllP.nil) ?_
  intro a w h
  refine wp_seq ?_
  refine wp_reg_seq tok (orc := orcL []) (fz := []) (l := [2, 3, 9]) (c := _) (.inr fun i h => h) h (by kernel_rfl) (AllP.nil) ?_
  intro a w h
  refine wp_if h (b := ((x0.1 : Int) != x1.1)) (by kernel_rfl) (fun hb => ?_) (fun hb => ?_)
  · replace hF := of_t hb hF
    refine wp_reg_seq tok (orc := orcL []) (fz := []) (l := [4]) (c := _) (.inr fun i h => h) h (by kernel_rfl) (AllP.nil) ?_
    intro a w h
    cases hF
    exact wp_ret (ret_okR tok h rfl (by kernel_rfl)).1
  · replace hF := of_f hb hF
    refine wp_skip ?_
    refine wp_seq ?_
    refine wp_reg_seq tok (orc := orcL []) (fz := []) (l := [14]) (c := _) (.inr fun i h => h) h (by kernel_rfl) (AllP.nil) ?_
    intro a w h
    refine wp_if h (b := ((x0.2 : Int) != x1.2)) (by kernel_rfl) (fun hb => ?_) (fun hb => ?_)
    · replace hF := of_t hb hF
      refine wp_reg_seq tok (orc := orcL []) (fz := []) (l := [4]) (c := _) (.inr fun i h => h) h (by kernel_rfl) (AllP.nil) ?_
      intro a w h
      cases hF
      exact wp_ret (ret_okR tok h rfl (by kernel_rfl)).1
    · replace hF := of_f hb hF
      refine wp_skip ?_
      refine wp_reg_seq tok (orc := orcL []) (fz := []) (l := [4]) (c := _) (.inr fun i h => h) h (by kernel_rfl) (AllP.nil) ?_
      intro a w h
      cases hF
      exact wp_ret (ret_okR tok h rfl (by kernel_rfl)).1

def f110 (k : Nat) (x0 : (Int × (Int × Int))) (x1 : (Int × (Int × Int))) : Option Bool := if ((x0.1 : Int) != x1.1) then (some false) else ((f128 k x0.2 x1.2).bind fun r1 => (if (!r1) then (some false) else (some true)))
set_option maxRecDepth 100000 in
/-- 'laws.eqSpot'. -/
theorem c110 (k : Nat) (x0 : (Int × (Int × Int))) (x1 : (Int × (Int × Int))) (r : Bool) (hF : f110 k x0 x1 = some r) : PCall Try.prog 110 [⟨sh6, x0⟩, ⟨sh6, x1⟩] [⟨.bool, r⟩] := by
  refine pcall_intro Try.func110 rfl rfl (Nat.le_of_ble_eq_true rfl) ?_
  intro w0 Zi a w h
  rw [f110] at hF
  refine wp_reg_seq tok (orc := orcL []) (fz := []) (l := [2, 3]) (c := _) (.inr fun i h => h) h (by kernel_rfl) (AllP.nil) ?_
  intro a w h
  refine wp_seq ?_
  refine wp_reg_seq tok (orc := orcL []) (fz := []) (l := [2, 3, 9]) (c := _) (.inr fun i h => h) h (by kernel_rfl) (AllP.nil) ?_
  intro a w h
  refine wp_if h (b := ((x0.1 : Int) != x1.1)) (by kernel_rfl) (fun hb => ?_) (fun hb => ?_)
  · replace hF := of_t hb hF
    refine wp_reg_seq tok (orc := orcL []) (fz := []) (l := [4]) (c := _) (.inr fun i h => h) h (by kernel_rfl) (AllP.nil) ?_
    intro a w h
    cases hF
    exact wp_ret (ret_okR tok h rfl (by kernel_rfl)).1
  · replace hF := of_f hb hF
    refine wp_skip ?_
    refine wp_seq ?_
    obtain ⟨r1, hr2, hF⟩ := of_bind hF
    refine wp_reg_seq tok (orc := orcL [(14, [⟨.bool, r1⟩])]) (fz := []) (l := [15]) (c := _) (.inr fun i h => h) h (by kernel_rfl) (AllP.cons (c128 k x0.2 x1.2 r1 hr2) AllP.nil) ?_
    intro a w h
    refine wp_if h (b := (!r1)) (by kernel_rfl) (fun hb => ?_) (fun hb => ?_)
    · replace hF := of_t hb hF
      refine wp_reg_seq tok (orc := orcL []) (fz := []) (l := [4]) (c := _) (.inr fun i h => h) h (by kernel_rfl) (AllP.nil) ?_
      intro a w h
      cases hF
      exact wp_ret (ret_okR tok h rfl (by kernel_rfl)).1
    · replace hF := of_f hb hF
      refine wp_skip ?_
      refine wp_reg_seq tok (orc := orcL []) (fz := []) (l := [4]) (c := _) (.inr fun i h => h) h (by kernel_rfl) (AllP.nil) ?_
      intro a w h
      cases hF
      exact wp_ret (ret_okR tok h rfl (by kernel_rfl)).1

def f67.l30 (k : Nat) (x0 : (List (Int × (Int × Int)))) (x1 : (List (Int × (Int × Int)))) : Nat → Int → Option Bool
  | 0, _ => none
  | m30 + 1, v50 => if (decide ((v50 : Int) < (List.length x0 : Int))) then (if (0 ≤ v50 ∧ v50 < (List.length x0 : Int)) then (if (0 ≤ v50 ∧ v50 < (List.length x1 : Int)) then ((f110 k (List.getD x0 (Int.toNat v50) ((0 : Int), ((0 : Int), (0 : Int)))) (List.getD x1 (Int.toNat v50) ((0 : Int), ((0 : Int), (0 : Int))))).bind fun r55 => (if (!r55) then (some false) else ((f67.l30 k x0 x1) m30 (IntKind.i64.wrap (v50 + (1 : Int)))))) else none) else none) else (some true)
def f67 (k : Nat) (x0 : (List (Int × (Int × Int)))) (x1 : (List (Int × (Int × Int)))) : Option Bool := if (((List.length x0 : Int) : Int) != (List.length x1 : Int)) then (some false) else (f67.l30 k x0 x1 k (0 : Int))
set_option maxRecDepth 100000 in
/-- 'laws.eqSpotS'. -/
theorem c67 (k : Nat) (x0 : (List (Int × (Int × Int)))) (x1 : (List (Int × (Int × Int)))) (r : Bool) (hF : f67 k x0 x1 = some r) : PCall Try.prog 67 [⟨sh16, x0⟩, ⟨sh16, x1⟩] [⟨.bool, r⟩] := by
  refine pcall_intro Try.func67 rfl rfl (Nat.le_of_ble_eq_true rfl) ?_
  intro w0 Zi a w h
  rw [f67] at hF
  refine wp_reg_seq tok (orc := orcL []) (fz := []) (l := [0, 1]) (c := _) (.inr fun i h => h) h (by kernel_rfl) (AllP.nil) ?_
  intro a w h
  refine wp_seq ?_
  refine wp_reg_seq tok (orc := orcL []) (fz := []) (l := [0, 1, 10]) (c := _) (.inr fun i h => h) h (by kernel_rfl) (AllP.nil) ?_
  intro a w h
  refine wp_if h (b := (((List.length x0 : Int) : Int) != (List.length x1 : Int))) (by kernel_rfl) (fun hb => ?_) (fun hb => ?_)
  · replace hF := of_t hb hF
    refine wp_reg_seq tok (orc := orcL []) (fz := []) (l := [4]) (c := _) (.inr fun i h => h) h (by kernel_rfl) (AllP.nil) ?_
    intro a w h
    cases hF
    exact wp_ret (ret_okR tok h rfl (by kernel_rfl)).1
  · replace hF := of_f hb hF
    refine wp_skip ?_
    refine wp_seq ?_
    refine wp_reg_seq tok (orc := orcL []) (fz := []) (l := [0, 1, 5]) (c := _) (.inr fun i h => h) h (by kernel_rfl) (AllP.nil) ?_
    intro a w h
    refine wp_block ?_
    refine wp_loop_fuel (f67.l30 k x0 x1) (fun (v50 : Int) => [(0, .val sh16 x0), (1, .val sh16 x1), (5, .val (.int .i64) v50)]) (fun v h => by rw [f67.l30] at h; cases h) ?_ hF (h.arrive (fz := []) (l := [0, 1, 5]) (.inr fun i h => h) (by kernel_rfl))
    intro m30 v50 a w hF h
    rw [f67.l30] at hF
    refine wp_seq ?_
    refine wp_reg_seq tok (orc := orcL []) (fz := []) (l := [0, 1, 5, 14]) (c := _) (.inr fun i h => h) h (by kernel_rfl) (AllP.nil) ?_
    intro a w h
    refine wp_if h (b := (decide ((v50 : Int) < (List.length x0 : Int)))) (by kernel_rfl) (fun hb => ?_) (fun hb => ?_)
    · replace hF := of_t hb hF
      refine wp_skip ?_
      refine wp_seq <| wp_block ?_
      obtain ⟨hc56, hF⟩ := of_if hF
      obtain ⟨hc57, hF⟩ := of_if hF
      obtain ⟨r55, hr58, hF⟩ := of_bind hF
      refine wp_regy_seq tok (orc := orcL [(25, [⟨.bool, r55⟩])]) (fz := []) (l := [0, 1, 5, 26]) (c := _) [] 10 (.inr fun i h => h) h (by kernel_rfl) (by kernel_rfl) (AllP.cons hc56 (AllP.cons hc57 (AllP.cons (c110 k (List.getD x0 (Int.toNat v50) ((0 : Int), ((0 : Int), (0 : Int)))) (List.getD x1 (Int.toNat v50) ((0 : Int), ((0 : Int), (0 : Int)))) r55 hr58) AllP.nil))) ?_
      intro a w h
      refine wp_if h (b := (!r55)) (by kernel_rfl) (fun hb => ?_) (fun hb => ?_)
      · replace hF := of_t hb hF
        refine wp_reg_seq tok (orc := orcL []) (fz := []) (l := [4]) (c := _) (.inr fun i h => h) h (by kernel_rfl) (AllP.nil) ?_
        intro a w h
        cases hF
        exact wp_ret (ret_okR tok h rfl (by kernel_rfl)).1
      · replace hF := of_f hb hF
        refine wp_skip ?_
        refine wp_reg tok (orc := orcL []) (fz := []) (l := [0, 1, 5]) (c := _) (.inr fun i h => h) h (by kernel_rfl) (AllP.nil) ?_
        intro a w h
        exact ⟨(IntKind.i64.wrap (v50 + (1 : Int))), hF, h.arrive (fz := []) (l := [0, 1, 5]) (.inr fun i h => h) (by kernel_rfl)⟩
    · replace hF := of_f hb hF
      refine wp_exit ?_
      refine wp_reg_seq tok (orc := orcL []) (fz := []) (l := [4]) (c := _) (.inr fun i h => h) h (by kernel_rfl) (AllP.nil) ?_
      intro a w h
      cases hF
      exact wp_ret (ret_okR tok h rfl (by kernel_rfl)).1

def f111 (k : Nat) (x0 : (Int × (Int × (Int × (Int × (Int × ByteArray)))))) (x1 : (Int × (Int × (Int × (Int × (Int × ByteArray)))))) : Option Bool := if ((x0.1 : Int) != x1.1) then (some false) else (if ((x0.2.1 : Int) != x1.2.1) then (some false) else (if ((x0.2.2.1 : Int) != x1.2.2.1) then (some false) else (if ((x0.2.2.2.1 : Int) != x1.2.2.2.1) then (some false) else (if ((x0.2.2.2.2.1 : Int) != x1.2.2.2.2.1) then (some false) else (if (!(ByteArray.toList x0.2.2.2.2.2 == ByteArray.toList x1.2.2.2.2.2)) then (some false) else (some true))))))
set_option maxRecDepth 100000 in
/-- 'laws.eqRoad'. -/
theorem c111 (k : Nat) (x0 : (Int × (Int × (Int × (Int × (Int × ByteArray)))))) (x1 : (Int × (Int × (Int × (Int × (Int × ByteArray)))))) (r : Bool) (hF : f111 k x0 x1 = some r) : PCall Try.prog 111 [⟨sh1, x0⟩, ⟨sh1, x1⟩] [⟨.bool, r⟩] := by
  refine pcall_intro Try.func111 rfl rfl (Nat.le_of_ble_eq_true rfl) ?_
  intro w0 Zi a w h
  rw [f111] at hF
  refine wp_reg_seq tok (orc := orcL []) (fz := []) (l := [2, 3]) (c := _) (.inr fun i h => h) h (by kernel_rfl) (AllP.nil) ?_
  intro a w h
  refine wp_seq ?_
  refine wp_reg_seq tok (orc := orcL []) (fz := []) (l := [2, 3, 9]) (c := _) (.inr fun i h => h) h (by kernel_rfl) (AllP.nil) ?_
  intro a w h
  refine wp_if h (b := ((x0.1 : Int) != x1.1)) (by kernel_rfl) (fun hb => ?_) (fun hb => ?_)
  · replace hF := of_t hb hF
    refine wp_reg_seq tok (orc := orcL []) (fz := []) (l := [4]) (c := _) (.inr fun i h => h) h (by kernel_rfl) (AllP.nil) ?_
    intro a w h
    cases hF
    exact wp_ret (ret_okR tok h rfl (by kernel_rfl)).1
  · replace hF := of_f hb hF
    refine wp_skip ?_
    refine wp_seq ?_
    refine wp_reg_seq tok (orc := orcL []) (fz := []) (l := [2, 3, 14]) (c := _) (.inr fun i h => h) h (by kernel_rfl) (AllP.nil) ?_
    intro a w h
    refine wp_if h (b := ((x0.2.1 : Int) != x1.2.1)) (by kernel_rfl) (fun hb => ?_) (fun hb => ?_)
    · replace hF := of_t hb hF
      refine wp_reg_seq tok (orc := orcL []) (fz := []) (l := [4]) (c := _) (.inr fun i h => h) h (by kernel_rfl) (AllP.nil) ?_
      intro a w h
      cases hF
      exact wp_ret (ret_okR tok h rfl (by kernel_rfl)).1
    · replace hF := of_f hb hF
      refine wp_skip ?_
      refine wp_seq ?_
      refine wp_reg_seq tok (orc := orcL []) (fz := []) (l := [2, 3, 19]) (c := _) (.inr fun i h => h) h (by kernel_rfl) (AllP.nil) ?_
      intro a w h
      refine wp_if h (b := ((x0.2.2.1 : Int) != x1.2.2.1)) (by kernel_rfl) (fun hb => ?_) (fun hb => ?_)
      · replace hF := of_t hb hF
        refine wp_reg_seq tok (orc := orcL []) (fz := []) (l := [4]) (c := _) (.inr fun i h => h) h (by kernel_rfl) (AllP.nil) ?_
        intro a w h
        cases hF
        exact wp_ret (ret_okR tok h rfl (by kernel_rfl)).1
      · replace hF := of_f hb hF
        refine wp_skip ?_
        refine wp_seq ?_
        refine wp_reg_seq tok (orc := orcL []) (fz := []) (l := [2, 3, 24]) (c := _) (.inr fun i h => h) h (by kernel_rfl) (AllP.nil) ?_
        intro a w h
        refine wp_if h (b := ((x0.2.2.2.1 : Int) != x1.2.2.2.1)) (by kernel_rfl) (fun hb => ?_) (fun hb => ?_)
        · replace hF := of_t hb hF
          refine wp_reg_seq tok (orc := orcL []) (fz := []) (l := [4]) (c := _) (.inr fun i h => h) h (by kernel_rfl) (AllP.nil) ?_
          intro a w h
          cases hF
          exact wp_ret (ret_okR tok h rfl (by kernel_rfl)).1
        · replace hF := of_f hb hF
          refine wp_skip ?_
          refine wp_seq ?_
          refine wp_reg_seq tok (orc := orcL []) (fz := []) (l := [2, 3, 29]) (c := _) (.inr fun i h => h) h (by kernel_rfl) (AllP.nil) ?_
          intro a w h
          refine wp_if h (b := ((x0.2.2.2.2.1 : Int) != x1.2.2.2.2.1)) (by kernel_rfl) (fun hb => ?_) (fun hb => ?_)
          · replace hF := of_t hb hF
            refine wp_reg_seq tok (orc := orcL []) (fz := []) (l := [4]) (c := _) (.inr fun i h => h) h (by kernel_rfl) (AllP.nil) ?_
            intro a w h
            cases hF
            exact wp_ret (ret_okR tok h rfl (by kernel_rfl)).1
          · replace hF := of_f hb hF
            refine wp_skip ?_
            refine wp_seq ?_
            refine wp_reg_seq tok (orc := orcL []) (fz := []) (l := [34]) (c := _) (.inr fun i h => h) h (by kernel_rfl) (AllP.nil) ?_
            intro a w h
            refine wp_if h (b := (!(ByteArray.toList x0.2.2.2.2.2 == ByteArray.toList x1.2.2.2.2.2))) (by kernel_rfl) (fun hb => ?_) (fun hb => ?_)
            · replace hF := of_t hb hF
              refine wp_reg_seq tok (orc := orcL []) (fz := []) (l := [4]) (c := _) (.inr fun i h => h) h (by kernel_rfl) (AllP.nil) ?_
              intro a w h
              cases hF
              exact wp_ret (ret_okR tok h rfl (by kernel_rfl)).1
            · replace hF := of_f hb hF
              refine wp_skip ?_
              refine wp_reg_seq tok (orc := orcL []) (fz := []) (l := [4]) (c := _) (.inr fun i h => h) h (by kernel_rfl) (AllP.nil) ?_
              intro a w h
              cases hF
              exact wp_ret (ret_okR tok h rfl (by kernel_rfl)).1

def f68.l30 (k : Nat) (x0 : (List (Int × (Int × (Int × (Int × (Int × ByteArray))))))) (x1 : (List (Int × (Int × (Int × (Int × (Int × ByteArray))))))) : Nat → Int → Option Bool
  | 0, _ => none
  | m30 + 1, v50 => if (decide ((v50 : Int) < (List.length x0 : Int))) then (if (0 ≤ v50 ∧ v50 < (List.length x0 : Int)) then (if (0 ≤ v50 ∧ v50 < (List.length x1 : Int)) then ((f111 k (List.getD x0 (Int.toNat v50) ((0 : Int), ((0 : Int), ((0 : Int), ((0 : Int), ((0 : Int), (⟨#[]⟩ : ByteArray))))))) (List.getD x1 (Int.toNat v50) ((0 : Int), ((0 : Int), ((0 : Int), ((0 : Int), ((0 : Int), (⟨#[]⟩ : ByteArray)))))))).bind fun r55 => (if (!r55) then (some false) else ((f68.l30 k x0 x1) m30 (IntKind.i64.wrap (v50 + (1 : Int)))))) else none) else none) else (some true)
def f68 (k : Nat) (x0 : (List (Int × (Int × (Int × (Int × (Int × ByteArray))))))) (x1 : (List (Int × (Int × (Int × (Int × (Int × ByteArray))))))) : Option Bool := if (((List.length x0 : Int) : Int) != (List.length x1 : Int)) then (some false) else (f68.l30 k x0 x1 k (0 : Int))
set_option maxRecDepth 100000 in
/-- 'laws.eqRoadS'. -/
theorem c68 (k : Nat) (x0 : (List (Int × (Int × (Int × (Int × (Int × ByteArray))))))) (x1 : (List (Int × (Int × (Int × (Int × (Int × ByteArray))))))) (r : Bool) (hF : f68 k x0 x1 = some r) : PCall Try.prog 68 [⟨sh17, x0⟩, ⟨sh17, x1⟩] [⟨.bool, r⟩] := by
  refine pcall_intro Try.func68 rfl rfl (Nat.le_of_ble_eq_true rfl) ?_
  intro w0 Zi a w h
  rw [f68] at hF
  refine wp_reg_seq tok (orc := orcL []) (fz := []) (l := [0, 1]) (c := _) (.inr fun i h => h) h (by kernel_rfl) (AllP.nil) ?_
  intro a w h
  refine wp_seq ?_
  refine wp_reg_seq tok (orc := orcL []) (fz := []) (l := [0, 1, 10]) (c := _) (.inr fun i h => h) h (by kernel_rfl) (AllP.nil) ?_
  intro a w h
  refine wp_if h (b := (((List.length x0 : Int) : Int) != (List.length x1 : Int))) (by kernel_rfl) (fun hb => ?_) (fun hb => ?_)
  · replace hF := of_t hb hF
    refine wp_reg_seq tok (orc := orcL []) (fz := []) (l := [4]) (c := _) (.inr fun i h => h) h (by kernel_rfl) (AllP.nil) ?_
    intro a w h
    cases hF
    exact wp_ret (ret_okR tok h rfl (by kernel_rfl)).1
  · replace hF := of_f hb hF
    refine wp_skip ?_
    refine wp_seq ?_
    refine wp_reg_seq tok (orc := orcL []) (fz := []) (l := [0, 1, 5]) (c := _) (.inr fun i h => h) h (by kernel_rfl) (AllP.nil) ?_
    intro a w h
    refine wp_block ?_
    refine wp_loop_fuel (f68.l30 k x0 x1) (fun (v50 : Int) => [(0, .val sh17 x0), (1, .val sh17 x1), (5, .val (.int .i64) v50)]) (fun v h => by rw [f68.l30] at h; cases h) ?_ hF (h.arrive (fz := []) (l := [0, 1, 5]) (.inr fun i h => h) (by kernel_rfl))
    intro m30 v50 a w hF h
    rw [f68.l30] at hF
    refine wp_seq ?_
    refine wp_reg_seq tok (orc := orcL []) (fz := []) (l := [0, 1, 5, 14]) (c := _) (.inr fun i h => h) h (by kernel_rfl) (AllP.nil) ?_
    intro a w h
    refine wp_if h (b := (decide ((v50 : Int) < (List.length x0 : Int)))) (by kernel_rfl) (fun hb => ?_) (fun hb => ?_)
    · replace hF := of_t hb hF
      refine wp_skip ?_
      refine wp_seq <| wp_block ?_
      obtain ⟨hc56, hF⟩ := of_if hF
      obtain ⟨hc57, hF⟩ := of_if hF
      obtain ⟨r55, hr58, hF⟩ := of_bind hF
      refine wp_regy_seq tok (orc := orcL [(25, [⟨.bool, r55⟩])]) (fz := []) (l := [0, 1, 5, 26]) (c := _) [] 10 (.inr fun i h => h) h (by kernel_rfl) (by kernel_rfl) (AllP.cons hc56 (AllP.cons hc57 (AllP.cons (c111 k (List.getD x0 (Int.toNat v50) ((0 : Int), ((0 : Int), ((0 : Int), ((0 : Int), ((0 : Int), (⟨#[]⟩ : ByteArray))))))) (List.getD x1 (Int.toNat v50) ((0 : Int), ((0 : Int), ((0 : Int), ((0 : Int), ((0 : Int), (⟨#[]⟩ : ByteArray))))))) r55 hr58) AllP.nil))) ?_
      intro a w h
      refine wp_if h (b := (!r55)) (by kernel_rfl) (fun hb => ?_) (fun hb => ?_)
      · replace hF := of_t hb hF
        refine wp_reg_seq tok (orc := orcL []) (fz := []) (l := [4]) (c := _) (.inr fun i h => h) h (by kernel_rfl) (AllP.nil) ?_
        intro a w h
        cases hF
        exact wp_ret (ret_okR tok h rfl (by kernel_rfl)).1
      · replace hF := of_f hb hF
        refine wp_skip ?_
        refine wp_reg tok (orc := orcL []) (fz := []) (l := [0, 1, 5]) (c := _) (.inr fun i h => h) h (by kernel_rfl) (AllP.nil) ?_
        intro a w h
        exact ⟨(IntKind.i64.wrap (v50 + (1 : Int))), hF, h.arrive (fz := []) (l := [0, 1, 5]) (.inr fun i h => h) (by kernel_rfl)⟩
    · replace hF := of_f hb hF
      refine wp_exit ?_
      refine wp_reg_seq tok (orc := orcL []) (fz := []) (l := [4]) (c := _) (.inr fun i h => h) h (by kernel_rfl) (AllP.nil) ?_
      intro a w h
      cases hF
      exact wp_ret (ret_okR tok h rfl (by kernel_rfl)).1

def f112 (k : Nat) (x0 : (Int × Int)) (x1 : (Int × Int)) : Option Bool := if ((x0.1 : Int) != x1.1) then (some false) else (if ((x0.2 : Int) != x1.2) then (some false) else (some true))
set_option maxRecDepth 100000 in
/-- 'laws.eqBan'. -/
theorem c112 (k : Nat) (x0 : (Int × Int)) (x1 : (Int × Int)) (r : Bool) (hF : f112 k x0 x1 = some r) : PCall Try.prog 112 [⟨sh5, x0⟩, ⟨sh5, x1⟩] [⟨.bool, r⟩] := by
  refine pcall_intro Try.func112 rfl rfl (Nat.le_of_ble_eq_true rfl) ?_
  intro w0 Zi a w h
  rw [f112] at hF
  refine wp_reg_seq tok (orc := orcL []) (fz := []) (l := [2, 3]) (c := _) (.inr fun i h => h) h (by kernel_rfl) (AllP.nil) ?_
  intro a w h
  refine wp_seq ?_
  refine wp_reg_seq tok (orc := orcL []) (fz := []) (l := [2, 3, 9]) (c := _) (.inr fun i h => h) h (by kernel_rfl) (AllP.nil) ?_
  intro a w h
  refine wp_if h (b := ((x0.1 : Int) != x1.1)) (by kernel_rfl) (fun hb => ?_) (fun hb => ?_)
  · replace hF := of_t hb hF
    refine wp_reg_seq tok (orc := orcL []) (fz := []) (l := [4]) (c := _) (.inr fun i h => h) h (by kernel_rfl) (AllP.nil) ?_
    intro a w h
    cases hF
    exact wp_ret (ret_okR tok h rfl (by kernel_rfl)).1
  · replace hF := of_f hb hF
    refine wp_skip ?_
    refine wp_seq ?_
    refine wp_reg_seq tok (orc := orcL []) (fz := []) (l := [14]) (c := _) (.inr fun i h => h) h (by kernel_rfl) (AllP.nil) ?_
    intro a w h
    refine wp_if h (b := ((x0.2 : Int) != x1.2)) (by kernel_rfl) (fun hb => ?_) (fun hb => ?_)
    · replace hF := of_t hb hF
      refine wp_reg_seq tok (orc := orcL []) (fz := []) (l := [4]) (c := _) (.inr fun i h => h) h (by kernel_rfl) (AllP.nil) ?_
      intro a w h
      cases hF
      exact wp_ret (ret_okR tok h rfl (by kernel_rfl)).1
    · replace hF := of_f hb hF
      refine wp_skip ?_
      refine wp_reg_seq tok (orc := orcL []) (fz := []) (l := [4]) (c := _) (.inr fun i h => h) h (by kernel_rfl) (AllP.nil) ?_
      intro a w h
      cases hF
      exact wp_ret (ret_okR tok h rfl (by kernel_rfl)).1

def f69.l30 (k : Nat) (x0 : (List (Int × Int))) (x1 : (List (Int × Int))) : Nat → Int → Option Bool
  | 0, _ => none
  | m30 + 1, v50 => if (decide ((v50 : Int) < (List.length x0 : Int))) then (if (0 ≤ v50 ∧ v50 < (List.length x0 : Int)) then (if (0 ≤ v50 ∧ v50 < (List.length x1 : Int)) then ((f112 k (List.getD x0 (Int.toNat v50) ((0 : Int), (0 : Int))) (List.getD x1 (Int.toNat v50) ((0 : Int), (0 : Int)))).bind fun r55 => (if (!r55) then (some false) else ((f69.l30 k x0 x1) m30 (IntKind.i64.wrap (v50 + (1 : Int)))))) else none) else none) else (some true)
def f69 (k : Nat) (x0 : (List (Int × Int))) (x1 : (List (Int × Int))) : Option Bool := if (((List.length x0 : Int) : Int) != (List.length x1 : Int)) then (some false) else (f69.l30 k x0 x1 k (0 : Int))
set_option maxRecDepth 100000 in
/-- 'laws.eqBanS'. -/
theorem c69 (k : Nat) (x0 : (List (Int × Int))) (x1 : (List (Int × Int))) (r : Bool) (hF : f69 k x0 x1 = some r) : PCall Try.prog 69 [⟨sh18, x0⟩, ⟨sh18, x1⟩] [⟨.bool, r⟩] := by
  refine pcall_intro Try.func69 rfl rfl (Nat.le_of_ble_eq_true rfl) ?_
  intro w0 Zi a w h
  rw [f69] at hF
  refine wp_reg_seq tok (orc := orcL []) (fz := []) (l := [0, 1]) (c := _) (.inr fun i h => h) h (by kernel_rfl) (AllP.nil) ?_
  intro a w h
  refine wp_seq ?_
  refine wp_reg_seq tok (orc := orcL []) (fz := []) (l := [0, 1, 10]) (c := _) (.inr fun i h => h) h (by kernel_rfl) (AllP.nil) ?_
  intro a w h
  refine wp_if h (b := (((List.length x0 : Int) : Int) != (List.length x1 : Int))) (by kernel_rfl) (fun hb => ?_) (fun hb => ?_)
  · replace hF := of_t hb hF
    refine wp_reg_seq tok (orc := orcL []) (fz := []) (l := [4]) (c := _) (.inr fun i h => h) h (by kernel_rfl) (AllP.nil) ?_
    intro a w h
    cases hF
    exact wp_ret (ret_okR tok h rfl (by kernel_rfl)).1
  · replace hF := of_f hb hF
    refine wp_skip ?_
    refine wp_seq ?_
    refine wp_reg_seq tok (orc := orcL []) (fz := []) (l := [0, 1, 5]) (c := _) (.inr fun i h => h) h (by kernel_rfl) (AllP.nil) ?_
    intro a w h
    refine wp_block ?_
    refine wp_loop_fuel (f69.l30 k x0 x1) (fun (v50 : Int) => [(0, .val sh18 x0), (1, .val sh18 x1), (5, .val (.int .i64) v50)]) (fun v h => by rw [f69.l30] at h; cases h) ?_ hF (h.arrive (fz := []) (l := [0, 1, 5]) (.inr fun i h => h) (by kernel_rfl))
    intro m30 v50 a w hF h
    rw [f69.l30] at hF
    refine wp_seq ?_
    refine wp_reg_seq tok (orc := orcL []) (fz := []) (l := [0, 1, 5, 14]) (c := _) (.inr fun i h => h) h (by kernel_rfl) (AllP.nil) ?_
    intro a w h
    refine wp_if h (b := (decide ((v50 : Int) < (List.length x0 : Int)))) (by kernel_rfl) (fun hb => ?_) (fun hb => ?_)
    · replace hF := of_t hb hF
      refine wp_skip ?_
      refine wp_seq <| wp_block ?_
      obtain ⟨hc56, hF⟩ := of_if hF
      obtain ⟨hc57, hF⟩ := of_if hF
      obtain ⟨r55, hr58, hF⟩ := of_bind hF
      refine wp_regy_seq tok (orc := orcL [(25, [⟨.bool, r55⟩])]) (fz := []) (l := [0, 1, 5, 26]) (c := _) [] 10 (.inr fun i h => h) h (by kernel_rfl) (by kernel_rfl) (AllP.cons hc56 (AllP.cons hc57 (AllP.cons (c112 k (List.getD x0 (Int.toNat v50) ((0 : Int), (0 : Int))) (List.getD x1 (Int.toNat v50) ((0 : Int), (0 : Int))) r55 hr58) AllP.nil))) ?_
      intro a w h
      refine wp_if h (b := (!r55)) (by kernel_rfl) (fun hb => ?_) (fun hb => ?_)
      · replace hF := of_t hb hF
        refine wp_reg_seq tok (orc := orcL []) (fz := []) (l := [4]) (c := _) (.inr fun i h => h) h (by kernel_rfl) (AllP.nil) ?_
        intro a w h
        cases hF
        exact wp_ret (ret_okR tok h rfl (by kernel_rfl)).1
      · replace hF := of_f hb hF
        refine wp_skip ?_
        refine wp_reg tok (orc := orcL []) (fz := []) (l := [0, 1, 5]) (c := _) (.inr fun i h => h) h (by kernel_rfl) (AllP.nil) ?_
        intro a w h
        exact ⟨(IntKind.i64.wrap (v50 + (1 : Int))), hF, h.arrive (fz := []) (l := [0, 1, 5]) (.inr fun i h => h) (by kernel_rfl)⟩
    · replace hF := of_f hb hF
      refine wp_exit ?_
      refine wp_reg_seq tok (orc := orcL []) (fz := []) (l := [4]) (c := _) (.inr fun i h => h) h (by kernel_rfl) (AllP.nil) ?_
      intro a w h
      cases hF
      exact wp_ret (ret_okR tok h rfl (by kernel_rfl)).1

def f20 (k : Nat) (x0 : ((List (Int × (Int × Int))) × ((List (Int × (Int × (Int × (Int × (Int × ByteArray)))))) × (List (Int × Int))))) (x1 : ((List (Int × (Int × Int))) × ((List (Int × (Int × (Int × (Int × (Int × ByteArray)))))) × (List (Int × Int))))) : Option Bool := (f67 k x0.1 x1.1).bind fun r1 => (if (!r1) then (some false) else ((f68 k x0.2.1 x1.2.1).bind fun r2 => (if (!r2) then (some false) else ((f69 k x0.2.2 x1.2.2).bind fun r3 => (if (!r3) then (some false) else (some true))))))
set_option maxRecDepth 100000 in
/-- 'laws.eqGraph'. -/
theorem c20 (k : Nat) (x0 : ((List (Int × (Int × Int))) × ((List (Int × (Int × (Int × (Int × (Int × ByteArray)))))) × (List (Int × Int))))) (x1 : ((List (Int × (Int × Int))) × ((List (Int × (Int × (Int × (Int × (Int × ByteArray)))))) × (List (Int × Int))))) (r : Bool) (hF : f20 k x0 x1 = some r) : PCall Try.prog 20 [⟨sh12, x0⟩, ⟨sh12, x1⟩] [⟨.bool, r⟩] := by
  refine pcall_intro Try.func20 rfl rfl (Nat.le_of_ble_eq_true rfl) ?_
  intro w0 Zi a w h
  rw [f20] at hF
  refine wp_reg_seq tok (orc := orcL []) (fz := []) (l := [2, 3]) (c := _) (.inr fun i h => h) h (by kernel_rfl) (AllP.nil) ?_
  intro a w h
  refine wp_seq ?_
  obtain ⟨r1, hr6, hF⟩ := of_bind hF
  refine wp_reg_seq tok (orc := orcL [(9, [⟨.bool, r1⟩])]) (fz := []) (l := [2, 3, 10]) (c := _) (.inr fun i h => h) h (by kernel_rfl) (AllP.cons (c67 k x0.1 x1.1 r1 hr6) AllP.nil) ?_
  intro a w h
  refine wp_if h (b := (!r1)) (by kernel_rfl) (fun hb => ?_) (fun hb => ?_)
  · replace hF := of_t hb hF
    refine wp_reg_seq tok (orc := orcL []) (fz := []) (l := [4]) (c := _) (.inr fun i h => h) h (by kernel_rfl) (AllP.nil) ?_
    intro a w h
    cases hF
    exact wp_ret (ret_okR tok h rfl (by kernel_rfl)).1
  · replace hF := of_f hb hF
    refine wp_skip ?_
    refine wp_seq ?_
    obtain ⟨r2, hr5, hF⟩ := of_bind hF
    refine wp_reg_seq tok (orc := orcL [(15, [⟨.bool, r2⟩])]) (fz := []) (l := [2, 3, 16]) (c := _) (.inr fun i h => h) h (by kernel_rfl) (AllP.cons (c68 k x0.2.1 x1.2.1 r2 hr5) AllP.nil) ?_
    intro a w h
    refine wp_if h (b := (!r2)) (by kernel_rfl) (fun hb => ?_) (fun hb => ?_)
    · replace hF := of_t hb hF
      refine wp_reg_seq tok (orc := orcL []) (fz := []) (l := [4]) (c := _) (.inr fun i h => h) h (by kernel_rfl) (AllP.nil) ?_
      intro a w h
      cases hF
      exact wp_ret (ret_okR tok h rfl (by kernel_rfl)).1
    · replace hF := of_f hb hF
      refine wp_skip ?_
      refine wp_seq ?_
      obtain ⟨r3, hr4, hF⟩ := of_bind hF
      refine wp_reg_seq tok (orc := orcL [(21, [⟨.bool, r3⟩])]) (fz := []) (l := [22]) (c := _) (.inr fun i h => h) h (by kernel_rfl) (AllP.cons (c69 k x0.2.2 x1.2.2 r3 hr4) AllP.nil) ?_
      intro a w h
      refine wp_if h (b := (!r3)) (by kernel_rfl) (fun hb => ?_) (fun hb => ?_)
      · replace hF := of_t hb hF
        refine wp_reg_seq tok (orc := orcL []) (fz := []) (l := [4]) (c := _) (.inr fun i h => h) h (by kernel_rfl) (AllP.nil) ?_
        intro a w h
        cases hF
        exact wp_ret (ret_okR tok h rfl (by kernel_rfl)).1
      · replace hF := of_f hb hF
        refine wp_skip ?_
        refine wp_reg_seq tok (orc := orcL []) (fz := []) (l := [4]) (c := _) (.inr fun i h => h) h (by kernel_rfl) (AllP.nil) ?_
        intro a w h
        cases hF
        exact wp_ret (ret_okR tok h rfl (by kernel_rfl)).1

def f7 (k : Nat) (x0 : ((List (Int × (Int × Int))) × ((List (Int × (Int × (Int × (Int × (Int × ByteArray)))))) × (List (Int × Int))))) (x1 : Int) : Option Bool := (f15 k x0 (1048576 : Int)).bind fun r1 => (if (decide ((r1 : Int) < (0 : Int))) then (some true) else ((f17 k x0).bind fun r2 => ((f31 k r2 x1).bind fun r3 => ((f17 k x0).bind fun r4 => ((f32 k r4 x1).bind fun r5 => (if ((r5 : Int) != r3) then (some false) else ((f17 k x0).bind fun r6 => ((f20 k r4 r6).bind fun r7 => (if (!r7) then (some false) else (some true))))))))))
set_option maxRecDepth 100000 in
/-- 'laws.FnExactAhead'. -/
theorem c7 (k : Nat) (x0 : ((List (Int × (Int × Int))) × ((List (Int × (Int × (Int × (Int × (Int × ByteArray)))))) × (List (Int × Int))))) (x1 : Int) (r : Bool) (hF : f7 k x0 x1 = some r) : PCall Try.prog 7 [⟨sh4, x0⟩, ⟨(.int .i64), x1⟩] [⟨.bool, r⟩] := by
  refine pcall_intro Try.func7 rfl rfl (Nat.le_of_ble_eq_true rfl) ?_
  intro w0 Zi a w h
  rw [f7] at hF
  refine wp_reg_seq tok (orc := orcL []) (fz := []) (l := [1, 2]) (c := _) (.inr fun i h => h) h (by kernel_rfl) (AllP.nil) ?_
  intro a w h
  refine wp_reg_seq tok (orc := orcL []) (fz := []) (l := [1, 2, 5]) (c := _) (.inr fun i h => h) h (by kernel_rfl) (AllP.nil) ?_
  intro a w h
  obtain ⟨r1, hr14, hF⟩ := of_bind hF
  refine wp_reg_seq tok (orc := orcL [(11, [⟨(.int .i64), r1⟩])]) (fz := []) (l := [1, 2, 5]) (c := _) (.inr fun i h => h) h (by kernel_rfl) (AllP.cons (c15 k x0 (1048576 : Int) r1 hr14) AllP.nil) ?_
  intro a w h
  refine wp_seq ?_
  refine wp_reg_seq tok (orc := orcL []) (fz := []) (l := [1, 2, 13]) (c := _) (.inr fun i h => h) h (by kernel_rfl) (AllP.nil) ?_
  intro a w h
  refine wp_if h (b := (decide ((r1 : Int) < (0 : Int)))) (by kernel_rfl) (fun hb => ?_) (fun hb => ?_)
  · replace hF := of_t hb hF
    refine wp_reg_seq tok (orc := orcL []) (fz := []) (l := [4]) (c := _) (.inr fun i h => h) h (by kernel_rfl) (AllP.nil) ?_
    intro a w h
    cases hF
    exact wp_ret (ret_okR tok h rfl (by kernel_rfl)).1
  · replace hF := of_f hb hF
    refine wp_skip ?_
    obtain ⟨r2, hr12, hF⟩ := of_bind hF
    obtain ⟨r3, hr13, hF⟩ := of_bind hF
    refine wp_reg_seq tok (orc := orcL [(15, [⟨sh10, r2⟩]), (17, [⟨(.int .i64), r3⟩])]) (fz := []) (l := [1, 2, 6]) (c := _) (.inr fun i h => h) h (by kernel_rfl) (AllP.cons (c17 k x0 r2 hr12) (AllP.cons (c31 k r2 x1 r3 hr13) AllP.nil)) ?_
    intro a w h
    obtain ⟨r4, hr11, hF⟩ := of_bind hF
    refine wp_reg_seq tok (orc := orcL [(19, [⟨sh10, r4⟩])]) (fz := []) (l := [1, 2, 6, 7]) (c := _) (.inr fun i h => h) h (by kernel_rfl) (AllP.cons (c17 k x0 r4 hr11) AllP.nil) ?_
    intro a w h
    obtain ⟨r5, hr10, hF⟩ := of_bind hF
    refine wp_reg_seq tok (orc := orcL [(22, [⟨(.int .i64), r5⟩])]) (fz := []) (l := [2, 6, 7, 8]) (c := _) (.inr fun i h => h) h (by kernel_rfl) (AllP.cons (c32 k r4 x1 r5 hr10) AllP.nil) ?_
    intro a w h
    refine wp_seq ?_
    refine wp_reg_seq tok (orc := orcL []) (fz := []) (l := [2, 7, 25]) (c := _) (.inr fun i h => h) h (by kernel_rfl) (AllP.nil) ?_
    intro a w h
    refine wp_if h (b := ((r5 : Int) != r3)) (by kernel_rfl) (fun hb => ?_) (fun hb => ?_)
    · replace hF := of_t hb hF
      refine wp_reg_seq tok (orc := orcL []) (fz := []) (l := [4]) (c := _) (.inr fun i h => h) h (by kernel_rfl) (AllP.nil) ?_
      intro a w h
      cases hF
      exact wp_ret (ret_okR tok h rfl (by kernel_rfl)).1
    · replace hF := of_f hb hF
      refine wp_skip ?_
      refine wp_seq ?_
      obtain ⟨r6, hr8, hF⟩ := of_bind hF
      obtain ⟨r7, hr9, hF⟩ := of_bind hF
      refine wp_regy_seq tok (orc := orcL [(28, [⟨sh10, r6⟩]), (29, [⟨.bool, r7⟩])]) (fz := []) (l := [30]) (c := _) [] 5 (.inr fun i h => h) h (by kernel_rfl) (by kernel_rfl) (AllP.cons (c17 k x0 r6 hr8) (AllP.cons (c20 k r4 r6 r7 hr9) AllP.nil)) ?_
      intro a w h
      refine wp_if h (b := (!r7)) (by kernel_rfl) (fun hb => ?_) (fun hb => ?_)
      · replace hF := of_t hb hF
        refine wp_reg_seq tok (orc := orcL []) (fz := []) (l := [4]) (c := _) (.inr fun i h => h) h (by kernel_rfl) (AllP.nil) ?_
        intro a w h
        cases hF
        exact wp_ret (ret_okR tok h rfl (by kernel_rfl)).1
      · replace hF := of_f hb hF
        refine wp_skip ?_
        refine wp_reg_seq tok (orc := orcL []) (fz := []) (l := [4]) (c := _) (.inr fun i h => h) h (by kernel_rfl) (AllP.nil) ?_
        intro a w h
        cases hF
        exact wp_ret (ret_okR tok h rfl (by kernel_rfl)).1
end Go.Proofs.Ytjfledckleeoaaa.V
