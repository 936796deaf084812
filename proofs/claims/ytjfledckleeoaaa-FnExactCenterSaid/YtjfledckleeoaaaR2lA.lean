/-
  THE CONTRACTS OF SOME FUNCTIONS OF THIS SEAT, PRINTED BY A PROGRAM OF THIS PROJECT (wip/gen/vgen.py).
-/
import Derived.Test.YtjfledckleeoaaaProg
import Derived.Test.YtjfledckleeoaaaVmW
import Derived.Test.YtjfledckleeoaaaVmZ
import Derived.KernelRfl
set_option linter.unusedVariables false
open Go Go.Vm Go.Proofs
namespace Go.Proofs.Ytjfledckleeoaaa.V
abbrev sh0 : Sh := (.sl false 114 (.st (.pair (.int .i64) (.st (.pair (.int .i64) (.int .i64))))))
abbrev sh1 : Sh := (.st (.pair (.int .i64) (.pair (.int .i64) (.pair (.int .i64) (.pair (.int .i64) (.pair (.int .i64) .str))))))
abbrev sh2 : Sh := (.sl false 103 (.st (.pair (.int .i64) (.pair (.int .i64) (.pair (.int .i64) (.pair (.int .i64) (.pair (.int .i64) .str)))))))
abbrev sh3 : Sh := (.sl false 117 (.st (.pair (.int .i64) (.int .i64))))
abbrev sh4 : Sh := (.st (.pair (.sl false 114 (.st (.pair (.int .i64) (.st (.pair (.int .i64) (.int .i64)))))) (.pair (.sl false 103 (.st (.pair (.int .i64) (.pair (.int .i64) (.pair (.int .i64) (.pair (.int .i64) (.pair (.int .i64) .str))))))) (.sl false 117 (.st (.pair (.int .i64) (.int .i64)))))))
abbrev sh5 : Sh := (.st (.pair (.int .i64) (.int .i64)))
abbrev sh6 : Sh := (.st (.pair (.int .i64) (.st (.pair (.int .i64) (.int .i64)))))
abbrev sh7 : Sh := (.sl true 107 (.st (.pair (.int .i64) (.st (.pair (.int .i64) (.int .i64))))))
abbrev sh8 : Sh := (.sl true 79 (.st (.pair (.int .i64) (.pair (.int .i64) (.pair (.int .i64) (.pair (.int .i64) (.pair (.int .i64) .str)))))))
abbrev sh9 : Sh := (.sl true 82 (.st (.pair (.int .i64) (.int .i64))))
abbrev sh10 : Sh := (.st (.pair (.sl true 107 (.st (.pair (.int .i64) (.st (.pair (.int .i64) (.int .i64)))))) (.pair (.sl true 79 (.st (.pair (.int .i64) (.pair (.int .i64) (.pair (.int .i64) (.pair (.int .i64) (.pair (.int .i64) .str))))))) (.sl true 82 (.st (.pair (.int .i64) (.int .i64)))))))
abbrev sh11 : Sh := (.pt true 34 (.st (.pair (.sl false 107 (.st (.pair (.int .i64) (.st (.pair (.int .i64) (.int .i64)))))) (.pair (.sl false 79 (.st (.pair (.int .i64) (.pair (.int .i64) (.pair (.int .i64) (.pair (.int .i64) (.pair (.int .i64) .str))))))) (.sl false 82 (.st (.pair (.int .i64) (.int .i64))))))))
abbrev sh12 : Sh := (.st (.pair (.sl false 107 (.st (.pair (.int .i64) (.st (.pair (.int .i64) (.int .i64)))))) (.pair (.sl false 79 (.st (.pair (.int .i64) (.pair (.int .i64) (.pair (.int .i64) (.pair (.int .i64) (.pair (.int .i64) .str))))))) (.sl false 82 (.st (.pair (.int .i64) (.int .i64)))))))
abbrev sh13 : Sh := (.sl true 27 (.sl true 2 (.int .i64)))
abbrev sh14 : Sh := (.pt true 82 (.st (.pair (.int .i64) (.int .i64))))
abbrev sh15 : Sh := (.sl false 107 (.st (.pair (.int .i64) (.st (.pair (.int .i64) (.int .i64))))))
abbrev sh16 : Sh := (.sl false 79 (.st (.pair (.int .i64) (.pair (.int .i64) (.pair (.int .i64) (.pair (.int .i64) (.pair (.int .i64) .str)))))))
abbrev sh17 : Sh := (.sl false 82 (.st (.pair (.int .i64) (.int .i64))))
abbrev sh18 : Sh := (.pt true 120 (.st (.pair (.st (.pair (.sl false 107 (.st (.pair (.int .i64) (.st (.pair (.int .i64) (.int .i64)))))) (.pair (.sl false 79 (.st (.pair (.int .i64) (.pair (.int .i64) (.pair (.int .i64) (.pair (.int .i64) (.pair (.int .i64) .str))))))) (.sl false 82 (.st (.pair (.int .i64) (.int .i64))))))) (.pair (.sl true 27 (.sl true 2 (.int .i64))) (.pair (.sl true 27 (.sl true 2 (.int .i64))) (.mp true (.st (.pair (.int .i64) (.int .i64))) .bool))))))
abbrev sh19 : Sh := (.pt false 0 (.st (.pair (.st (.pair (.sl false 107 (.st (.pair (.int .i64) (.st (.pair (.int .i64) (.int .i64)))))) (.pair (.sl false 79 (.st (.pair (.int .i64) (.pair (.int .i64) (.pair (.int .i64) (.pair (.int .i64) (.pair (.int .i64) .str))))))) (.sl false 82 (.st (.pair (.int .i64) (.int .i64))))))) (.pair (.sl false 27 (.sl false 2 (.int .i64))) (.pair (.sl false 27 (.sl false 2 (.int .i64))) (.mp false (.st (.pair (.int .i64) (.int .i64))) .bool))))))
abbrev sh20 : Sh := (.st (.pair (.int .i64) (.pair (.int .i64) (.int .i64))))
abbrev sh21 : Sh := (.pt true 129 (.st (.pair (.sl true 132 (.st (.pair (.int .i64) (.pair (.int .i64) (.int .i64))))) .unit)))
abbrev sh22 : Sh := (.pt true 132 (.st (.pair (.int .i64) (.pair (.int .i64) (.int .i64)))))
abbrev sh23 : Sh := (.pt true 79 (.st (.pair (.int .i64) (.pair (.int .i64) (.pair (.int .i64) (.pair (.int .i64) (.pair (.int .i64) .str)))))))
def tbl : Tbl := [⟨2, .int .i64, 1, 8, (.int .i64)⟩,
  ⟨3, .int .i64, 1, 8, (.int .i64)⟩,
  ⟨4, .bool, 1, 1, .bool⟩,
  ⟨9, .string, 1, 16, .str⟩,
  ⟨22, .slice 114, 1, 24, (.sl true 114 (.st (.pair (.int .i64) (.st (.pair (.int .i64) (.int .i64))))))⟩,
  ⟨23, .slice 103, 1, 24, (.sl true 103 (.st (.pair (.int .i64) (.pair (.int .i64) (.pair (.int .i64) (.pair (.int .i64) (.pair (.int .i64) .str)))))))⟩,
  ⟨24, .slice 117, 1, 24, (.sl true 117 (.st (.pair (.int .i64) (.int .i64))))⟩,
  ⟨26, .struct [(22, 0), (23, 1), (24, 2)], 3, 72, (.st (.pair (.sl true 114 (.st (.pair (.int .i64) (.st (.pair (.int .i64) (.int .i64)))))) (.pair (.sl true 103 (.st (.pair (.int .i64) (.pair (.int .i64) (.pair (.int .i64) (.pair (.int .i64) (.pair (.int .i64) .str))))))) (.sl true 117 (.st (.pair (.int .i64) (.int .i64)))))))⟩,
  ⟨27, .slice 2, 1, 24, (.sl true 2 (.int .i64))⟩,
  ⟨30, .slice 107, 1, 24, (.sl true 107 (.st (.pair (.int .i64) (.st (.pair (.int .i64) (.int .i64))))))⟩,
  ⟨31, .slice 79, 1, 24, (.sl true 79 (.st (.pair (.int .i64) (.pair (.int .i64) (.pair (.int .i64) (.pair (.int .i64) (.pair (.int .i64) .str)))))))⟩,
  ⟨32, .slice 82, 1, 24, (.sl true 82 (.st (.pair (.int .i64) (.int .i64))))⟩,
  ⟨34, .struct [(30, 0), (31, 1), (32, 2)], 3, 72, (.st (.pair (.sl true 107 (.st (.pair (.int .i64) (.st (.pair (.int .i64) (.int .i64)))))) (.pair (.sl true 79 (.st (.pair (.int .i64) (.pair (.int .i64) (.pair (.int .i64) (.pair (.int .i64) (.pair (.int .i64) .str))))))) (.sl true 82 (.st (.pair (.int .i64) (.int .i64)))))))⟩,
  ⟨54, .slice 27, 1, 24, (.sl true 27 (.sl true 2 (.int .i64)))⟩,
  ⟨70, .ptr 120, 1, 8, (.pt true 120 (.st (.pair (.st (.pair (.sl true 107 (.st (.pair (.int .i64) (.st (.pair (.int .i64) (.int .i64)))))) (.pair (.sl true 79 (.st (.pair (.int .i64) (.pair (.int .i64) (.pair (.int .i64) (.pair (.int .i64) (.pair (.int .i64) .str))))))) (.sl true 82 (.st (.pair (.int .i64) (.int .i64))))))) (.pair (.sl true 27 (.sl true 2 (.int .i64))) (.pair (.sl true 27 (.sl true 2 (.int .i64))) (.mp true (.st (.pair (.int .i64) (.int .i64))) .bool))))))⟩,
  ⟨79, .struct [(2, 0), (2, 1), (2, 2), (2, 3), (2, 4), (9, 5)], 6, 56, (.st (.pair (.int .i64) (.pair (.int .i64) (.pair (.int .i64) (.pair (.int .i64) (.pair (.int .i64) .str))))))⟩,
  ⟨82, .struct [(2, 0), (2, 1)], 2, 16, (.st (.pair (.int .i64) (.int .i64)))⟩,
  ⟨103, .struct [(2, 0), (2, 1), (2, 2), (2, 3), (2, 4), (9, 5)], 6, 56, (.st (.pair (.int .i64) (.pair (.int .i64) (.pair (.int .i64) (.pair (.int .i64) (.pair (.int .i64) .str))))))⟩,
  ⟨105, .struct [(2, 0), (2, 1)], 2, 16, (.st (.pair (.int .i64) (.int .i64)))⟩,
  ⟨107, .struct [(2, 0), (105, 1)], 3, 24, (.st (.pair (.int .i64) (.st (.pair (.int .i64) (.int .i64)))))⟩,
  ⟨110, .slice 4, 1, 24, (.sl true 4 .bool)⟩,
  ⟨112, .struct [(2, 0), (2, 1)], 2, 16, (.st (.pair (.int .i64) (.int .i64)))⟩,
  ⟨114, .struct [(2, 0), (112, 1)], 3, 24, (.st (.pair (.int .i64) (.st (.pair (.int .i64) (.int .i64)))))⟩,
  ⟨117, .struct [(2, 0), (2, 1)], 2, 16, (.st (.pair (.int .i64) (.int .i64)))⟩,
  ⟨118, .map 82 4, 1, 8, (.mp true (.st (.pair (.int .i64) (.int .i64))) .bool)⟩,
  ⟨120, .struct [(34, 0), (54, 3), (54, 4), (118, 5)], 6, 128, (.st (.pair (.st (.pair (.sl true 107 (.st (.pair (.int .i64) (.st (.pair (.int .i64) (.int .i64)))))) (.pair (.sl true 79 (.st (.pair (.int .i64) (.pair (.int .i64) (.pair (.int .i64) (.pair (.int .i64) (.pair (.int .i64) .str))))))) (.sl true 82 (.st (.pair (.int .i64) (.int .i64))))))) (.pair (.sl true 27 (.sl true 2 (.int .i64))) (.pair (.sl true 27 (.sl true 2 (.int .i64))) (.mp true (.st (.pair (.int .i64) (.int .i64))) .bool)))))⟩,
  ⟨126, .ptr 129, 1, 8, (.pt true 129 (.st (.pair (.sl true 132 (.st (.pair (.int .i64) (.pair (.int .i64) (.int .i64))))) .unit)))⟩,
  ⟨127, .slice 132, 1, 24, (.sl true 132 (.st (.pair (.int .i64) (.pair (.int .i64) (.int .i64)))))⟩,
  ⟨129, .struct [(127, 0)], 1, 24, (.st (.pair (.sl true 132 (.st (.pair (.int .i64) (.pair (.int .i64) (.int .i64))))) .unit))⟩,
  ⟨132, .struct [(2, 0), (2, 1), (2, 2)], 3, 24, (.st (.pair (.int .i64) (.pair (.int .i64) (.int .i64))))⟩]
theorem tok : TOk Try.prog tbl := by unfold TOk; kernel_rfl

def f54 (k : Nat) (x0 : (List (Int × (Int × Int)))) (x1 : Int) : Option Int := if (decide (((IntKind.i64.wrap (x1 - (List.length x0 : Int))) : Int) < (0 : Int))) then (some (-1 : Int)) else (some (IntKind.i64.wrap (x1 - (List.length x0 : Int))))
set_option maxRecDepth 100000 in
/-- 'laws.szSpotS'. -/
theorem c54 (k : Nat) (x0 : (List (Int × (Int × Int)))) (x1 : Int) (r : Int) (hF : f54 k x0 x1 = some r) : PCall Try.prog 54 [⟨sh0, x0⟩, ⟨(.int .i64), x1⟩] [⟨(.int .i64), r⟩] := by
  refine pcall_intro Try.func54 rfl rfl (Nat.le_of_ble_eq_true rfl) ?_
  intro w0 Zi a w h
  rw [f54] at hF
  refine wp_reg_seq tok (orc := orcL []) (fz := []) (l := [0, 1]) (c := _) (.inr fun i h => h) h (by kernel_rfl) (AllP.nil) ?_
  intro a w h
  refine wp_reg_seq tok (orc := orcL []) (fz := []) (l := [1]) (c := _) (.inr fun i h => h) h (by kernel_rfl) (AllP.nil) ?_
  intro a w h
  refine wp_seq ?_
  refine wp_reg_seq tok (orc := orcL []) (fz := []) (l := [1, 10]) (c := _) (.inr fun i h => h) h (by kernel_rfl) (AllP.nil) ?_
  intro a w h
  refine wp_if h (b := (decide (((IntKind.i64.wrap (x1 - (List.length x0 : Int))) : Int) < (0 : Int)))) (by kernel_rfl) (fun hb => ?_) (fun hb => ?_)
  · replace hF := of_t hb hF
    refine wp_reg_seq tok (orc := orcL []) (fz := []) (l := [4]) (c := _) (.inr fun i h => h) h (by kernel_rfl) (AllP.nil) ?_
    intro a w h
    cases hF
    exact wp_ret (ret_okR tok h rfl (by kernel_rfl)).1
  · replace hF := of_f hb hF
    refine wp_skip ?_
    refine wp_reg_seq tok (orc := orcL []) (fz := []) (l := [4]) (c := _) (.inr fun i h => h) h (by kernel_rfl) (AllP.nil) ?_
    intro a w h
    cases hF
    exact wp_ret (ret_okR tok h rfl (by kernel_rfl)).1

def f101 (k : Nat) (x0 : (Int × (Int × (Int × (Int × (Int × ByteArray)))))) (x1 : Int) : Option Int := if (decide (((IntKind.i64.wrap (x1 - (ByteArray.size x0.2.2.2.2.2 : Int))) : Int) < (0 : Int))) then (some (-1 : Int)) else (some (IntKind.i64.wrap (x1 - (ByteArray.size x0.2.2.2.2.2 : Int))))
set_option maxRecDepth 100000 in
/-- 'laws.szRoad'. -/
theorem c101 (k : Nat) (x0 : (Int × (Int × (Int × (Int × (Int × ByteArray)))))) (x1 : Int) (r : Int) (hF : f101 k x0 x1 = some r) : PCall Try.prog 101 [⟨sh1, x0⟩, ⟨(.int .i64), x1⟩] [⟨(.int .i64), r⟩] := by
  refine pcall_intro Try.func101 rfl rfl (Nat.le_of_ble_eq_true rfl) ?_
  intro w0 Zi a w h
  rw [f101] at hF
  refine wp_reg_seq tok (orc := orcL []) (fz := []) (l := [1, 2]) (c := _) (.inr fun i h => h) h (by kernel_rfl) (AllP.nil) ?_
  intro a w h
  refine wp_reg_seq tok (orc := orcL []) (fz := []) (l := [1]) (c := _) (.inr fun i h => h) h (by kernel_rfl) (AllP.nil) ?_
  intro a w h
  refine wp_seq ?_
  refine wp_reg_seq tok (orc := orcL []) (fz := []) (l := [1, 11]) (c := _) (.inr fun i h => h) h (by kernel_rfl) (AllP.nil) ?_
  intro a w h
  refine wp_if h (b := (decide (((IntKind.i64.wrap (x1 - (ByteArray.size x0.2.2.2.2.2 : Int))) : Int) < (0 : Int)))) (by kernel_rfl) (fun hb => ?_) (fun hb => ?_)
  · replace hF := of_t hb hF
    refine wp_reg_seq tok (orc := orcL []) (fz := []) (l := [4]) (c := _) (.inr fun i h => h) h (by kernel_rfl) (AllP.nil) ?_
    intro a w h
    cases hF
    exact wp_ret (ret_okR tok h rfl (by kernel_rfl)).1
  · replace hF := of_f hb hF
    refine wp_skip ?_
    refine wp_reg_seq tok (orc := orcL []) (fz := []) (l := [4]) (c := _) (.inr fun i h => h) h (by kernel_rfl) (AllP.nil) ?_
    intro a w h
    cases hF
    exact wp_ret (ret_okR tok h rfl (by kernel_rfl)).1

def f55.l28 (k : Nat) (x0 : (List (Int × (Int × (Int × (Int × (Int × ByteArray))))))) : Nat → (Int × Int) → Option Int
  | 0, _ => none
  | m28 + 1, (v47, v48) => if (decide ((v48 : Int) < (List.length x0 : Int))) then (if (0 ≤ v48 ∧ v48 < (List.length x0 : Int)) then ((f101 k (List.getD x0 (Int.toNat v48) ((0 : Int), ((0 : Int), ((0 : Int), ((0 : Int), ((0 : Int), (⟨#[]⟩ : ByteArray))))))) v47).bind fun r52 => (if (decide ((r52 : Int) < (0 : Int))) then (some (-1 : Int)) else ((f55.l28 k x0) m28 (r52, (IntKind.i64.wrap (v48 + (1 : Int))))))) else none) else (some v47)
def f55 (k : Nat) (x0 : (List (Int × (Int × (Int × (Int × (Int × ByteArray))))))) (x1 : Int) : Option Int := if (decide (((IntKind.i64.wrap (x1 - (List.length x0 : Int))) : Int) < (0 : Int))) then (some (-1 : Int)) else (f55.l28 k x0 k ((IntKind.i64.wrap (x1 - (List.length x0 : Int))), (0 : Int)))
set_option maxRecDepth 100000 in
/-- 'laws.szRoadS'. -/
theorem c55 (k : Nat) (x0 : (List (Int × (Int × (Int × (Int × (Int × ByteArray))))))) (x1 : Int) (r : Int) (hF : f55 k x0 x1 = some r) : PCall Try.prog 55 [⟨sh2, x0⟩, ⟨(.int .i64), x1⟩] [⟨(.int .i64), r⟩] := by
  refine pcall_intro Try.func55 rfl rfl (Nat.le_of_ble_eq_true rfl) ?_
  intro w0 Zi a w h
  rw [f55] at hF
  refine wp_reg_seq tok (orc := orcL []) (fz := []) (l := [0, 1]) (c := _) (.inr fun i h => h) h (by kernel_rfl) (AllP.nil) ?_
  intro a w h
  refine wp_reg_seq tok (orc := orcL []) (fz := []) (l := [0, 1]) (c := _) (.inr fun i h => h) h (by kernel_rfl) (AllP.nil) ?_
  intro a w h
  refine wp_seq ?_
  refine wp_reg_seq tok (orc := orcL []) (fz := []) (l := [0, 1, 11]) (c := _) (.inr fun i h => h) h (by kernel_rfl) (AllP.nil) ?_
  intro a w h
  refine wp_if h (b := (decide (((IntKind.i64.wrap (x1 - (List.length x0 : Int))) : Int) < (0 : Int)))) (by kernel_rfl) (fun hb => ?_) (fun hb => ?_)
  · replace hF := of_t hb hF
    refine wp_reg_seq tok (orc := orcL []) (fz := []) (l := [4]) (c := _) (.inr fun i h => h) h (by kernel_rfl) (AllP.nil) ?_
    intro a w h
    cases hF
    exact wp_ret (ret_okR tok h rfl (by kernel_rfl)).1
  · replace hF := of_f hb hF
    refine wp_skip ?_
    refine wp_seq ?_
    refine wp_reg_seq tok (orc := orcL []) (fz := []) (l := [0, 1, 5]) (c := _) (.inr fun i h => h) h (by kernel_rfl) (AllP.nil) ?_
    intro a w h
    refine wp_block ?_
    refine wp_loop_fuel (f55.l28 k x0) (fun ((v47, v48) : (Int × Int)) => [(0, .val sh2 x0), (1, .val (.int .i64) v47), (5, .val (.int .i64) v48)]) (fun v h => by obtain ⟨v47, v48⟩ := v; rw [f55.l28] at h; cases h) ?_ hF (h.arrive (fz := []) (l := [0, 1, 5]) (.inr fun i h => h) (by kernel_rfl))
    intro m28 v a w hF h
    obtain ⟨v47, v48⟩ := v
    rw [f55.l28] at hF
    refine wp_seq ?_
    refine wp_reg_seq tok (orc := orcL []) (fz := []) (l := [0, 1, 5, 15]) (c := _) (.inr fun i h => h) h (by kernel_rfl) (AllP.nil) ?_
    intro a w h
    refine wp_if h (b := (decide ((v48 : Int) < (List.length x0 : Int)))) (by kernel_rfl) (fun hb => ?_) (fun hb => ?_)
    · replace hF := of_t hb hF
      refine wp_skip ?_
      refine wp_seq <| wp_block ?_
      obtain ⟨hc53, hF⟩ := of_if hF
      obtain ⟨r52, hr54, hF⟩ := of_bind hF
      refine wp_reg_seq tok (orc := orcL [(23, [⟨(.int .i64), r52⟩])]) (fz := []) (l := [0, 1, 5]) (c := _) (.inr fun i h => h) h (by kernel_rfl) (AllP.cons hc53 (AllP.cons (c101 k (List.getD x0 (Int.toNat v48) ((0 : Int), ((0 : Int), ((0 : Int), ((0 : Int), ((0 : Int), (⟨#[]⟩ : ByteArray))))))) v47 r52 hr54) AllP.nil)) ?_
      intro a w h
      refine wp_reg_seq tok (orc := orcL []) (fz := []) (l := [0, 1, 5, 25]) (c := _) (.inr fun i h => h) h (by kernel_rfl) (AllP.nil) ?_
      intro a w h
      refine wp_if h (b := (decide ((r52 : Int) < (0 : Int)))) (by kernel_rfl) (fun hb => ?_) (fun hb => ?_)
      · replace hF := of_t hb hF
        refine wp_reg_seq tok (orc := orcL []) (fz := []) (l := [4]) (c := _) (.inr fun i h => h) h (by kernel_rfl) (AllP.nil) ?_
        intro a w h
        cases hF
        exact wp_ret (ret_okR tok h rfl (by kernel_rfl)).1
      · replace hF := of_f hb hF
        refine wp_skip ?_
        refine wp_reg tok (orc := orcL []) (fz := []) (l := [0, 1, 5]) (c := _) (.inr fun i h => h) h (by kernel_rfl) (AllP.nil) ?_
        intro a w h
        exact ⟨(r52, (IntKind.i64.wrap (v48 + (1 : Int)))), hF, h.arrive (fz := []) (l := [0, 1, 5]) (.inr fun i h => h) (by kernel_rfl)⟩
    · replace hF := of_f hb hF
      refine wp_exit ?_
      refine wp_reg_seq tok (orc := orcL []) (fz := []) (l := [4]) (c := _) (.inr fun i h => h) h (by kernel_rfl) (AllP.nil) ?_
      intro a w h
      cases hF
      exact wp_ret (ret_okR tok h rfl (by kernel_rfl)).1

def f56 (k : Nat) (x0 : (List (Int × Int))) (x1 : Int) : Option Int := if (decide (((IntKind.i64.wrap (x1 - (List.length x0 : Int))) : Int) < (0 : Int))) then (some (-1 : Int)) else (some (IntKind.i64.wrap (x1 - (List.length x0 : Int))))
set_option maxRecDepth 100000 in
/-- 'laws.szBanS'. -/
theorem c56 (k : Nat) (x0 : (List (Int × Int))) (x1 : Int) (r : Int) (hF : f56 k x0 x1 = some r) : PCall Try.prog 56 [⟨sh3, x0⟩, ⟨(.int .i64), x1⟩] [⟨(.int .i64), r⟩] := by
  refine pcall_intro Try.func56 rfl rfl (Nat.le_of_ble_eq_true rfl) ?_
  intro w0 Zi a w h
  rw [f56] at hF
  refine wp_reg_seq tok (orc := orcL []) (fz := []) (l := [0, 1]) (c := _) (.inr fun i h => h) h (by kernel_rfl) (AllP.nil) ?_
  intro a w h
  refine wp_reg_seq tok (orc := orcL []) (fz := []) (l := [1]) (c := _) (.inr fun i h => h) h (by kernel_rfl) (AllP.nil) ?_
  intro a w h
  refine wp_seq ?_
  refine wp_reg_seq tok (orc := orcL []) (fz := []) (l := [1, 10]) (c := _) (.inr fun i h => h) h (by kernel_rfl) (AllP.nil) ?_
  intro a w h
  refine wp_if h (b := (decide (((IntKind.i64.wrap (x1 - (List.length x0 : Int))) : Int) < (0 : Int)))) (by kernel_rfl) (fun hb => ?_) (fun hb => ?_)
  · replace hF := of_t hb hF
    refine wp_reg_seq tok (orc := orcL []) (fz := []) (l := [4]) (c := _) (.inr fun i h => h) h (by kernel_rfl) (AllP.nil) ?_
    intro a w h
    cases hF
    exact wp_ret (ret_okR tok h rfl (by kernel_rfl)).1
  · replace hF := of_f hb hF
    refine wp_skip ?_
    refine wp_reg_seq tok (orc := orcL []) (fz := []) (l := [4]) (c := _) (.inr fun i h => h) h (by kernel_rfl) (AllP.nil) ?_
    intro a w h
    cases hF
    exact wp_ret (ret_okR tok h rfl (by kernel_rfl)).1

def f15 (k : Nat) (x0 : ((List (Int × (Int × Int))) × ((List (Int × (Int × (Int × (Int × (Int × ByteArray)))))) × (List (Int × Int))))) (x1 : Int) : Option Int := (f54 k x0.1 x1).bind fun r1 => (if (decide ((r1 : Int) < (0 : Int))) then (some (-1 : Int)) else ((f55 k x0.2.1 r1).bind fun r2 => (if (decide ((r2 : Int) < (0 : Int))) then (some (-1 : Int)) else ((f56 k x0.2.2 r2).bind fun r3 => (if (decide ((r3 : Int) < (0 : Int))) then (some (-1 : Int)) else (some r3))))))
set_option maxRecDepth 100000 in
/-- 'laws.szGraph'. -/
theorem c15 (k : Nat) (x0 : ((List (Int × (Int × Int))) × ((List (Int × (Int × (Int × (Int × (Int × ByteArray)))))) × (List (Int × Int))))) (x1 : Int) (r : Int) (hF : f15 k x0 x1 = some r) : PCall Try.prog 15 [⟨sh4, x0⟩, ⟨(.int .i64), x1⟩] [⟨(.int .i64), r⟩] := by
  refine pcall_intro Try.func15 rfl rfl (Nat.le_of_ble_eq_true rfl) ?_
  intro w0 Zi a w h
  rw [f15] at hF
  refine wp_reg_seq tok (orc := orcL []) (fz := []) (l := [1, 2]) (c := _) (.inr fun i h => h) h (by kernel_rfl) (AllP.nil) ?_
  intro a w h
  obtain ⟨r1, hr6, hF⟩ := of_bind hF
  refine wp_reg_seq tok (orc := orcL [(8, [⟨(.int .i64), r1⟩])]) (fz := []) (l := [1, 2]) (c := _) (.inr fun i h => h) h (by kernel_rfl) (AllP.cons (c54 k x0.1 x1 r1 hr6) AllP.nil) ?_
  intro a w h
  refine wp_seq ?_
  refine wp_reg_seq tok (orc := orcL []) (fz := []) (l := [1, 2, 10]) (c := _) (.inr fun i h => h) h (by kernel_rfl) (AllP.nil) ?_
  intro a w h
  refine wp_if h (b := (decide ((r1 : Int) < (0 : Int)))) (by kernel_rfl) (fun hb => ?_) (fun hb => ?_)
  · replace hF := of_t hb hF
    refine wp_reg_seq tok (orc := orcL []) (fz := []) (l := [4]) (c := _) (.inr fun i h => h) h (by kernel_rfl) (AllP.nil) ?_
    intro a w h
    cases hF
    exact wp_ret (ret_okR tok h rfl (by kernel_rfl)).1
  · replace hF := of_f hb hF
    refine wp_skip ?_
    obtain ⟨r2, hr5, hF⟩ := of_bind hF
    refine wp_reg_seq tok (orc := orcL [(14, [⟨(.int .i64), r2⟩])]) (fz := []) (l := [1, 2]) (c := _) (.inr fun i h => h) h (by kernel_rfl) (AllP.cons (c55 k x0.2.1 r1 r2 hr5) AllP.nil) ?_
    intro a w h
    refine wp_seq ?_
    refine wp_reg_seq tok (orc := orcL []) (fz := []) (l := [1, 2, 16]) (c := _) (.inr fun i h => h) h (by kernel_rfl) (AllP.nil) ?_
    intro a w h
    refine wp_if h (b := (decide ((r2 : Int) < (0 : Int)))) (by kernel_rfl) (fun hb => ?_) (fun hb => ?_)
    · replace hF := of_t hb hF
      refine wp_reg_seq tok (orc := orcL []) (fz := []) (l := [4]) (c := _) (.inr fun i h => h) h (by kernel_rfl) (AllP.nil) ?_
      intro a w h
      cases hF
      exact wp_ret (ret_okR tok h rfl (by kernel_rfl)).1
    · replace hF := of_f hb hF
      refine wp_skip ?_
      obtain ⟨r3, hr4, hF⟩ := of_bind hF
      refine wp_reg_seq tok (orc := orcL [(20, [⟨(.int .i64), r3⟩])]) (fz := []) (l := [1]) (c := _) (.inr fun i h => h) h (by kernel_rfl) (AllP.cons (c56 k x0.2.2 r2 r3 hr4) AllP.nil) ?_
      intro a w h
      refine wp_seq ?_
      refine wp_reg_seq tok (orc := orcL []) (fz := []) (l := [1, 22]) (c := _) (.inr fun i h => h) h (by kernel_rfl) (AllP.nil) ?_
      intro a w h
      refine wp_if h (b := (decide ((r3 : Int) < (0 : Int)))) (by kernel_rfl) (fun hb => ?_) (fun hb => ?_)
      · replace hF := of_t hb hF
        refine wp_reg_seq tok (orc := orcL []) (fz := []) (l := [4]) (c := _) (.inr fun i h => h) h (by kernel_rfl) (AllP.nil) ?_
        intro a w h
        cases hF
        exact wp_ret (ret_okR tok h rfl (by kernel_rfl)).1
      · replace hF := of_f hb hF
        refine wp_skip ?_
        refine wp_reg_seq tok (orc := orcL []) (fz := []) (l := [4]) (c := _) (.inr fun i h => h) h (by kernel_rfl) (AllP.nil) ?_
        intro a w h
        cases hF
        exact wp_ret (ret_okR tok h rfl (by kernel_rfl)).1

def f127 (k : Nat) (x0 : (Int × Int)) : Option (Int × Int) := some (x0.1, x0.2)
set_option maxRecDepth 100000 in
/-- 'laws.toPoint'. -/
theorem c127 (k : Nat) (x0 : (Int × Int)) (r : (Int × Int)) (hF : f127 k x0 = some r) : PCall Try.prog 127 [⟨sh5, x0⟩] [⟨sh5, r⟩] := by
  refine pcall_intro Try.func127 rfl rfl (Nat.le_of_ble_eq_true rfl) ?_
  intro w0 Zi a w h
  rw [f127] at hF
  refine wp_reg_seq tok (orc := orcL []) (fz := []) (l := [1, 2]) (c := _) (.inr fun i h => h) h (by kernel_rfl) (AllP.nil) ?_
  intro a w h
  refine wp_reg_seq tok (orc := orcL []) (fz := []) (l := [1, 2, 3]) (c := _) (.inr fun i h => h) h (by kernel_rfl) (AllP.nil) ?_
  intro a w h
  refine wp_reg_seq tok (orc := orcL []) (fz := []) (l := [1, 2, 3]) (c := _) (.inr fun i h => h) h (by kernel_rfl) (AllP.nil) ?_
  intro a w h
  refine wp_reg_seq tok (orc := orcL []) (fz := []) (l := [2, 3]) (c := _) (.inr fun i h => h) h (by kernel_rfl) (AllP.nil) ?_
  intro a w h
  refine wp_reg_seq tok (orc := orcL []) (fz := []) (l := [2]) (c := _) (.inr fun i h => h) h (by kernel_rfl) (AllP.nil) ?_
  intro a w h
  cases hF
  exact wp_ret (ret_okR tok h rfl (by kernel_rfl)).1

def f105 (k : Nat) (x0 : (Int × (Int × Int))) : Option (Int × (Int × Int)) := (f127 k x0.2).bind fun r1 => (some (x0.1, r1))
set_option maxRecDepth 100000 in
/-- 'laws.toSpot'. -/
theorem c105 (k : Nat) (x0 : (Int × (Int × Int))) (r : (Int × (Int × Int))) (hF : f105 k x0 = some r) : PCall Try.prog 105 [⟨sh6, x0⟩] [⟨sh6, r⟩] := by
  refine pcall_intro Try.func105 rfl rfl (Nat.le_of_ble_eq_true rfl) ?_
  intro w0 Zi a w h
  rw [f105] at hF
  refine wp_reg_seq tok (orc := orcL []) (fz := []) (l := [1, 2]) (c := _) (.inr fun i h => h) h (by kernel_rfl) (AllP.nil) ?_
  intro a w h
  refine wp_reg_seq tok (orc := orcL []) (fz := []) (l := [1, 2, 3]) (c := _) (.inr fun i h => h) h (by kernel_rfl) (AllP.nil) ?_
  intro a w h
  refine wp_reg_seq tok (orc := orcL []) (fz := []) (l := [1, 2, 3]) (c := _) (.inr fun i h => h) h (by kernel_rfl) (AllP.nil) ?_
  intro a w h
  obtain ⟨r1, hr2, hF⟩ := of_bind hF
  refine wp_reg_seq tok (orc := orcL [(9, [⟨sh5, r1⟩])]) (fz := []) (l := [2, 3]) (c := _) (.inr fun i h => h) h (by kernel_rfl) (AllP.cons (c127 k x0.2 r1 hr2) AllP.nil) ?_
  intro a w h
  refine wp_reg_seq tok (orc := orcL []) (fz := []) (l := [2]) (c := _) (.inr fun i h => h) h (by kernel_rfl) (AllP.nil) ?_
  intro a w h
  cases hF
  exact wp_ret (ret_okR tok h rfl (by kernel_rfl)).1

def f60.l34 (k : Nat) (x0 : (List (Int × (Int × Int)))) : Nat → ((List (Int × (Int × Int))) × Int) → Option (List (Int × (Int × Int)))
  | 0, _ => none
  | m34 + 1, (v57, v58) => if (decide ((v58 : Int) < (List.length x0 : Int))) then (if (0 ≤ v58 ∧ v58 < (List.length x0 : Int)) then ((f105 k (List.getD x0 (Int.toNat v58) ((0 : Int), ((0 : Int), (0 : Int))))).bind fun r63 => (if (0 ≤ v58 ∧ v58 < (List.length v57 : Int)) then ((f60.l34 k x0) m34 ((List.set v57 (Int.toNat v58) r63), (IntKind.i64.wrap (v58 + (1 : Int))))) else none)) else none) else (some v57)
def f60 (k : Nat) (x0 : (List (Int × (Int × Int)))) : Option (List (Int × (Int × Int))) := if (0 ≤ (List.length x0 : Int) ∧ Int.toNat (List.length x0 : Int) * 24 ≤ 140737488355328) then (f60.l34 k x0 k ((List.replicate (Int.toNat (List.length x0 : Int)) ((0 : Int), ((0 : Int), (0 : Int)))), (0 : Int))) else none
set_option maxRecDepth 100000 in
/-- 'laws.toSpotS'. -/
theorem c60 (k : Nat) (x0 : (List (Int × (Int × Int)))) (r : (List (Int × (Int × Int)))) (hF : f60 k x0 = some r) : PCall Try.prog 60 [⟨sh0, x0⟩] [⟨sh7, r⟩] := by
  refine pcall_intro Try.func60 rfl rfl (Nat.le_of_ble_eq_true rfl) ?_
  intro w0 Zi a w h
  rw [f60] at hF
  refine wp_reg_seq tok (orc := orcL []) (fz := []) (l := [0]) (c := _) (.inr fun i h => h) h (by kernel_rfl) (AllP.nil) ?_
  intro a w h
  obtain ⟨hc67, hF⟩ := of_if hF
  refine wp_reg_seq tok (orc := orcL []) (fz := []) (l := [0, 3]) (c := _) (.inr fun i h => h) h (by kernel_rfl) (AllP.cons hc67 AllP.nil) ?_
  intro a w h
  refine wp_seq ?_
  refine wp_reg_seq tok (orc := orcL []) (fz := []) (l := [0, 3, 4]) (c := _) (.inr fun i h => h) h (by kernel_rfl) (AllP.nil) ?_
  intro a w h
  refine wp_block ?_
  refine wp_loop_fuel (f60.l34 k x0) (fun ((v57, v58) : ((List (Int × (Int × Int))) × Int)) => [(0, .val sh0 x0), (3, .val sh7 v57), (4, .val (.int .i64) v58)]) (fun v h => by obtain ⟨v57, v58⟩ := v; rw [f60.l34] at h; cases h) ?_ hF (h.arrive (fz := []) (l := [0, 3, 4]) (.inr fun i h => h) (by kernel_rfl))
  intro m34 v a w hF h
  obtain ⟨v57, v58⟩ := v
  rw [f60.l34] at hF
  refine wp_seq ?_
  refine wp_reg_seq tok (orc := orcL []) (fz := []) (l := [0, 3, 4, 11]) (c := _) (.inr fun i h => h) h (by kernel_rfl) (AllP.nil) ?_
  intro a w h
  refine wp_if h (b := (decide ((v58 : Int) < (List.length x0 : Int)))) (by kernel_rfl) (fun hb => ?_) (fun hb => ?_)
  · replace hF := of_t hb hF
    refine wp_skip ?_
    refine wp_seq <| wp_block ?_
    obtain ⟨hc64, hF⟩ := of_if hF
    obtain ⟨r63, hr65, hF⟩ := of_bind hF
    obtain ⟨hc66, hF⟩ := of_if hF
    refine wp_reg tok (orc := orcL [(20, [⟨sh6, r63⟩])]) (fz := []) (l := [0, 3, 4]) (c := _) (.inr fun i h => h) h (by kernel_rfl) (AllP.cons hc64 (AllP.cons (c105 k (List.getD x0 (Int.toNat v58) ((0 : Int), ((0 : Int), (0 : Int)))) r63 hr65) (AllP.cons hc66 AllP.nil))) ?_
    intro a w h
    refine wp_reg tok (orc := orcL []) (fz := []) (l := [0, 3, 4]) (c := _) (.inr fun i h => h) h (by kernel_rfl) (AllP.nil) ?_
    intro a w h
    exact ⟨((List.set v57 (Int.toNat v58) r63), (IntKind.i64.wrap (v58 + (1 : Int)))), hF, h.arrive (fz := []) (l := [0, 3, 4]) (.inr fun i h => h) (by kernel_rfl)⟩
  · replace hF := of_f hb hF
    refine wp_exit ?_
    refine wp_reg_seq tok (orc := orcL []) (fz := []) (l := [2, 3]) (c := _) (.inr fun i h => h) h (by kernel_rfl) (AllP.nil) ?_
    intro a w h
    cases hF
    exact wp_ret (ret_okR tok h rfl (by kernel_rfl)).1

def f106 (k : Nat) (x0 : (Int × (Int × (Int × (Int × (Int × ByteArray)))))) : Option (Int × (Int × (Int × (Int × (Int × ByteArray))))) := some (x0.1, (x0.2.1, (x0.2.2.1, (x0.2.2.2.1, (x0.2.2.2.2.1, x0.2.2.2.2.2)))))
set_option maxRecDepth 100000 in
/-- 'laws.toRoad'. -/
theorem c106 (k : Nat) (x0 : (Int × (Int × (Int × (Int × (Int × ByteArray)))))) (r : (Int × (Int × (Int × (Int × (Int × ByteArray)))))) (hF : f106 k x0 = some r) : PCall Try.prog 106 [⟨sh1, x0⟩] [⟨sh1, r⟩] := by
  refine pcall_intro Try.func106 rfl rfl (Nat.le_of_ble_eq_true rfl) ?_
  intro w0 Zi a w h
  rw [f106] at hF
  refine wp_reg_seq tok (orc := orcL []) (fz := []) (l := [1, 2]) (c := _) (.inr fun i h => h) h (by kernel_rfl) (AllP.nil) ?_
  intro a w h
  refine wp_reg_seq tok (orc := orcL []) (fz := []) (l := [1, 2, 3]) (c := _) (.inr fun i h => h) h (by kernel_rfl) (AllP.nil) ?_
  intro a w h
  refine wp_reg_seq tok (orc := orcL []) (fz := []) (l := [1, 2, 3]) (c := _) (.inr fun i h => h) h (by kernel_rfl) (AllP.nil) ?_
  intro a w h
  refine wp_reg_seq tok (orc := orcL []) (fz := []) (l := [1, 2, 3]) (c := _) (.inr fun i h => h) h (by kernel_rfl) (AllP.nil) ?_
  intro a w h
  refine wp_reg_seq tok (orc := orcL []) (fz := []) (l := [1, 2, 3]) (c := _) (.inr fun i h => h) h (by kernel_rfl) (AllP.nil) ?_
  intro a w h
  refine wp_reg_seq tok (orc := orcL []) (fz := []) (l := [1, 2, 3]) (c := _) (.inr fun i h => h) h (by kernel_rfl) (AllP.nil) ?_
  intro a w h
  refine wp_reg_seq tok (orc := orcL []) (fz := []) (l := [1, 2, 3]) (c := _) (.inr fun i h => h) h (by kernel_rfl) (AllP.nil) ?_
  intro a w h
  refine wp_reg_seq tok (orc := orcL []) (fz := []) (l := [2, 3]) (c := _) (.inr fun i h => h) h (by kernel_rfl) (AllP.nil) ?_
  intro a w h
  refine wp_reg_seq tok (orc := orcL []) (fz := []) (l := [2]) (c := _) (.inr fun i h => h) h (by kernel_rfl) (AllP.nil) ?_
  intro a w h
  cases hF
  exact wp_ret (ret_okR tok h rfl (by kernel_rfl)).1

def f61.l34 (k : Nat) (x0 : (List (Int × (Int × (Int × (Int × (Int × ByteArray))))))) : Nat → ((List (Int × (Int × (Int × (Int × (Int × ByteArray)))))) × Int) → Option (List (Int × (Int × (Int × (Int × (Int × ByteArray))))))
  | 0, _ => none
  | m34 + 1, (v57, v58) => if (decide ((v58 : Int) < (List.length x0 : Int))) then (if (0 ≤ v58 ∧ v58 < (List.length x0 : Int)) then ((f106 k (List.getD x0 (Int.toNat v58) ((0 : Int), ((0 : Int), ((0 : Int), ((0 : Int), ((0 : Int), (⟨#[]⟩ : ByteArray)))))))).bind fun r63 => (if (0 ≤ v58 ∧ v58 < (List.length v57 : Int)) then ((f61.l34 k x0) m34 ((List.set v57 (Int.toNat v58) r63), (IntKind.i64.wrap (v58 + (1 : Int))))) else none)) else none) else (some v57)
def f61 (k : Nat) (x0 : (List (Int × (Int × (Int × (Int × (Int × ByteArray))))))) : Option (List (Int × (Int × (Int × (Int × (Int × ByteArray)))))) := if (0 ≤ (List.length x0 : Int) ∧ Int.toNat (List.length x0 : Int) * 56 ≤ 140737488355328) then (f61.l34 k x0 k ((List.replicate (Int.toNat (List.length x0 : Int)) ((0 : Int), ((0 : Int), ((0 : Int), ((0 : Int), ((0 : Int), (⟨#[]⟩ : ByteArray))))))), (0 : Int))) else none
set_option maxRecDepth 100000 in
/-- 'laws.toRoadS'. -/
theorem c61 (k : Nat) (x0 : (List (Int × (Int × (Int × (Int × (Int × ByteArray))))))) (r : (List (Int × (Int × (Int × (Int × (Int × ByteArray))))))) (hF : f61 k x0 = some r) : PCall Try.prog 61 [⟨sh2, x0⟩] [⟨sh8, r⟩] := by
  refine pcall_intro Try.func61 rfl rfl (Nat.le_of_ble_eq_true rfl) ?_
  intro w0 Zi a w h
  rw [f61] at hF
  refine wp_reg_seq tok (orc := orcL []) (fz := []) (l := [0]) (c := _) (.inr fun i h => h) h (by kernel_rfl) (AllP.nil) ?_
  intro a w h
  obtain ⟨hc67, hF⟩ := of_if hF
  refine wp_reg_seq tok (orc := orcL []) (fz := []) (l := [0, 3]) (c := _) (.inr fun i h => h) h (by kernel_rfl) (AllP.cons hc67 AllP.nil) ?_
  intro a w h
  refine wp_seq ?_
  refine wp_reg_seq tok (orc := orcL []) (fz := []) (l := [0, 3, 4]) (c := _) (.inr fun i h => h) h (by kernel_rfl) (AllP.nil) ?_
  intro a w h
  refine wp_block ?_
  refine wp_loop_fuel (f61.l34 k x0) (fun ((v57, v58) : ((List (Int × (Int × (Int × (Int × (Int × ByteArray)))))) × Int)) => [(0, .val sh2 x0), (3, .val sh8 v57), (4, .val (.int .i64) v58)]) (fun v h => by obtain ⟨v57, v58⟩ := v; rw [f61.l34] at h; cases h) ?_ hF (h.arrive (fz := []) (l := [0, 3, 4]) (.inr fun i h => h) (by kernel_rfl))
  intro m34 v a w hF h
  obtain ⟨v57, v58⟩ := v
  rw [f61.l34] at hF
  refine wp_seq ?_
  refine wp_reg_seq tok (orc := orcL []) (fz := []) (l := [0, 3, 4, 11]) (c := _) (.inr fun i h => h) h (by kernel_rfl) (AllP.nil) ?_
  intro a w h
  refine wp_if h (b := (decide ((v58 : Int) < (List.length x0 : Int)))) (by kernel_rfl) (fun hb => ?_) (fun hb => ?_)
  · replace hF := of_t hb hF
    refine wp_skip ?_
    refine wp_seq <| wp_block ?_
    obtain ⟨hc64, hF⟩ := of_if hF
    obtain ⟨r63, hr65, hF⟩ := of_bind hF
    obtain ⟨hc66, hF⟩ := of_if hF
    refine wp_reg tok (orc := orcL [(20, [⟨sh1, r63⟩])]) (fz := []) (l := [0, 3, 4]) (c := _) (.inr fun i h => h) h (by kernel_rfl) (AllP.cons hc64 (AllP.cons (c106 k (List.getD x0 (Int.toNat v58) ((0 : Int), ((0 : Int), ((0 : Int), ((0 : Int), ((0 : Int), (⟨#[]⟩ : ByteArray))))))) r63 hr65) (AllP.cons hc66 AllP.nil))) ?_
    intro a w h
    refine wp_reg tok (orc := orcL []) (fz := []) (l := [0, 3, 4]) (c := _) (.inr fun i h => h) h (by kernel_rfl) (AllP.nil) ?_
    intro a w h
    exact ⟨((List.set v57 (Int.toNat v58) r63), (IntKind.i64.wrap (v58 + (1 : Int)))), hF, h.arrive (fz := []) (l := [0, 3, 4]) (.inr fun i h => h) (by kernel_rfl)⟩
  · replace hF := of_f hb hF
    refine wp_exit ?_
    refine wp_reg_seq tok (orc := orcL []) (fz := []) (l := [2, 3]) (c := _) (.inr fun i h => h) h (by kernel_rfl) (AllP.nil) ?_
    intro a w h
    cases hF
    exact wp_ret (ret_okR tok h rfl (by kernel_rfl)).1

def f107 (k : Nat) (x0 : (Int × Int)) : Option (Int × Int) := some (x0.1, x0.2)
set_option maxRecDepth 100000 in
/-- 'laws.toBan'. -/
theorem c107 (k : Nat) (x0 : (Int × Int)) (r : (Int × Int)) (hF : f107 k x0 = some r) : PCall Try.prog 107 [⟨sh5, x0⟩] [⟨sh5, r⟩] := by
  refine pcall_intro Try.func107 rfl rfl (Nat.le_of_ble_eq_true rfl) ?_
  intro w0 Zi a w h
  rw [f107] at hF
  refine wp_reg_seq tok (orc := orcL []) (fz := []) (l := [1, 2]) (c := _) (.inr fun i h => h) h (by kernel_rfl) (AllP.nil) ?_
  intro a w h
  refine wp_reg_seq tok (orc := orcL []) (fz := []) (l := [1, 2, 3]) (c := _) (.inr fun i h => h) h (by kernel_rfl) (AllP.nil) ?_
  intro a w h
  refine wp_reg_seq tok (orc := orcL []) (fz := []) (l := [1, 2, 3]) (c := _) (.inr fun i h => h) h (by kernel_rfl) (AllP.nil) ?_
  intro a w h
  refine wp_reg_seq tok (orc := orcL []) (fz := []) (l := [2, 3]) (c := _) (.inr fun i h => h) h (by kernel_rfl) (AllP.nil) ?_
  intro a w h
  refine wp_reg_seq tok (orc := orcL []) (fz := []) (l := [2]) (c := _) (.inr fun i h => h) h (by kernel_rfl) (AllP.nil) ?_
  intro a w h
  cases hF
  exact wp_ret (ret_okR tok h rfl (by kernel_rfl)).1

def f62.l34 (k : Nat) (x0 : (List (Int × Int))) : Nat → ((List (Int × Int)) × Int) → Option (List (Int × Int))
  | 0, _ => none
  | m34 + 1, (v57, v58) => if (decide ((v58 : Int) < (List.length x0 : Int))) then (if (0 ≤ v58 ∧ v58 < (List.length x0 : Int)) then ((f107 k (List.getD x0 (Int.toNat v58) ((0 : Int), (0 : Int)))).bind fun r63 => (if (0 ≤ v58 ∧ v58 < (List.length v57 : Int)) then ((f62.l34 k x0) m34 ((List.set v57 (Int.toNat v58) r63), (IntKind.i64.wrap (v58 + (1 : Int))))) else none)) else none) else (some v57)
def f62 (k : Nat) (x0 : (List (Int × Int))) : Option (List (Int × Int)) := if (0 ≤ (List.length x0 : Int) ∧ Int.toNat (List.length x0 : Int) * 16 ≤ 140737488355328) then (f62.l34 k x0 k ((List.replicate (Int.toNat (List.length x0 : Int)) ((0 : Int), (0 : Int))), (0 : Int))) else none
set_option maxRecDepth 100000 in
/-- 'laws.toBanS'. -/
theorem c62 (k : Nat) (x0 : (List (Int × Int))) (r : (List (Int × Int))) (hF : f62 k x0 = some r) : PCall Try.prog 62 [⟨sh3, x0⟩] [⟨sh9, r⟩] := by
  refine pcall_intro Try.func62 rfl rfl (Nat.le_of_ble_eq_true rfl) ?_
  intro w0 Zi a w h
  rw [f62] at hF
  refine wp_reg_seq tok (orc := orcL []) (fz := []) (l := [0]) (c := _) (.inr fun i h => h) h (by kernel_rfl) (AllP.nil) ?_
  intro a w h
  obtain ⟨hc67, hF⟩ := of_if hF
  refine wp_reg_seq tok (orc := orcL []) (fz := []) (l := [0, 3]) (c := _) (.inr fun i h => h) h (by kernel_rfl) (AllP.cons hc67 AllP.nil) ?_
  intro a w h
  refine wp_seq ?_
  refine wp_reg_seq tok (orc := orcL []) (fz := []) (l := [0, 3, 4]) (c := _) (.inr fun i h => h) h (by kernel_rfl) (AllP.nil) ?_
  intro a w h
  refine wp_block ?_
  refine wp_loop_fuel (f62.l34 k x0) (fun ((v57, v58) : ((List (Int × Int)) × Int)) => [(0, .val sh3 x0), (3, .val sh9 v57), (4, .val (.int .i64) v58)]) (fun v h => by obtain ⟨v57, v58⟩ := v; rw [f62.l34] at h; cases h) ?_ hF (h.arrive (fz := []) (l := [0, 3, 4]) (.inr fun i h => h) (by kernel_rfl))
  intro m34 v a w hF h
  obtain ⟨v57, v58⟩ := v
  rw [f62.l34] at hF
  refine wp_seq ?_
  refine wp_reg_seq tok (orc := orcL []) (fz := []) (l := [0, 3, 4, 11]) (c := _) (.inr fun i h => h) h (by kernel_rfl) (AllP.nil) ?_
  intro a w h
  refine wp_if h (b := (decide ((v58 : Int) < (List.length x0 : Int)))) (by kernel_rfl) (fun hb => ?_) (fun hb => ?_)
  · replace hF := of_t hb hF
    refine wp_skip ?_
    refine wp_seq <| wp_block ?_
    obtain ⟨hc64, hF⟩ := of_if hF
    obtain ⟨r63, hr65, hF⟩ := of_bind hF
    obtain ⟨hc66, hF⟩ := of_if hF
    refine wp_reg tok (orc := orcL [(20, [⟨sh5, r63⟩])]) (fz := []) (l := [0, 3, 4]) (c := _) (.inr fun i h => h) h (by kernel_rfl) (AllP.cons hc64 (AllP.cons (c107 k (List.getD x0 (Int.toNat v58) ((0 : Int), (0 : Int))) r63 hr65) (AllP.cons hc66 AllP.nil))) ?_
    intro a w h
    refine wp_reg tok (orc := orcL []) (fz := []) (l := [0, 3, 4]) (c := _) (.inr fun i h => h) h (by kernel_rfl) (AllP.nil) ?_
    intro a w h
    exact ⟨((List.set v57 (Int.toNat v58) r63), (IntKind.i64.wrap (v58 + (1 : Int)))), hF, h.arrive (fz := []) (l := [0, 3, 4]) (.inr fun i h => h) (by kernel_rfl)⟩
  · replace hF := of_f hb hF
    refine wp_exit ?_
    refine wp_reg_seq tok (orc := orcL []) (fz := []) (l := [2, 3]) (c := _) (.inr fun i h => h) h (by kernel_rfl) (AllP.nil) ?_
    intro a w h
    cases hF
    exact wp_ret (ret_okR tok h rfl (by kernel_rfl)).1

def f17 (k : Nat) (x0 : ((List (Int × (Int × Int))) × ((List (Int × (Int × (Int × (Int × (Int × ByteArray)))))) × (List (Int × Int))))) : Option ((List (Int × (Int × Int))) × ((List (Int × (Int × (Int × (Int × (Int × ByteArray)))))) × (List (Int × Int)))) := (f60 k x0.1).bind fun r1 => ((f61 k x0.2.1).bind fun r2 => ((f62 k x0.2.2).bind fun r3 => (some (r1, (r2, r3)))))
set_option maxRecDepth 100000 in
/-- 'laws.toGraph'. -/
theorem c17 (k : Nat) (x0 : ((List (Int × (Int × Int))) × ((List (Int × (Int × (Int × (Int × (Int × ByteArray)))))) × (List (Int × Int))))) (r : ((List (Int × (Int × Int))) × ((List (Int × (Int × (Int × (Int × (Int × ByteArray)))))) × (List (Int × Int))))) (hF : f17 k x0 = some r) : PCall Try.prog 17 [⟨sh4, x0⟩] [⟨sh10, r⟩] := by
  refine pcall_intro Try.func17 rfl rfl (Nat.le_of_ble_eq_true rfl) ?_
  intro w0 Zi a w h
  rw [f17] at hF
  refine wp_reg_seq tok (orc := orcL []) (fz := []) (l := [1, 2]) (c := _) (.inr fun i h => h) h (by kernel_rfl) (AllP.nil) ?_
  intro a w h
  refine wp_reg_seq tok (orc := orcL []) (fz := []) (l := [1, 2, 3]) (c := _) (.inr fun i h => h) h (by kernel_rfl) (AllP.nil) ?_
  intro a w h
  obtain ⟨r1, hr6, hF⟩ := of_bind hF
  refine wp_reg_seq tok (orc := orcL [(6, [⟨sh7, r1⟩])]) (fz := []) (l := [1, 2, 3]) (c := _) (.inr fun i h => h) h (by kernel_rfl) (AllP.cons (c60 k x0.1 r1 hr6) AllP.nil) ?_
  intro a w h
  obtain ⟨r2, hr5, hF⟩ := of_bind hF
  refine wp_reg_seq tok (orc := orcL [(10, [⟨sh8, r2⟩])]) (fz := []) (l := [1, 2, 3]) (c := _) (.inr fun i h => h) h (by kernel_rfl) (AllP.cons (c61 k x0.2.1 r2 hr5) AllP.nil) ?_
  intro a w h
  obtain ⟨r3, hr4, hF⟩ := of_bind hF
  refine wp_reg_seq tok (orc := orcL [(14, [⟨sh9, r3⟩])]) (fz := []) (l := [2, 3]) (c := _) (.inr fun i h => h) h (by kernel_rfl) (AllP.cons (c62 k x0.2.2 r3 hr4) AllP.nil) ?_
  intro a w h
  refine wp_reg_seq tok (orc := orcL []) (fz := []) (l := [2]) (c := _) (.inr fun i h => h) h (by kernel_rfl) (AllP.nil) ?_
  intro a w h
  cases hF
  exact wp_ret (ret_okR tok h rfl (by kernel_rfl)).1

def f18.l22 (k : Nat) (x0 : (List Int)) : Nat → ((List Int) × Int) → Option (List Int)
  | 0, _ => none
  | m22 + 1, (v37, v38) => if (decide ((v38 : Int) < (List.length x0 : Int))) then (if (0 ≤ v38 ∧ v38 < (List.length x0 : Int)) then (if (0 ≤ v38 ∧ v38 < (List.length v37 : Int)) then ((f18.l22 k x0) m22 ((List.set v37 (Int.toNat v38) (List.getD x0 (Int.toNat v38) (0 : Int))), (IntKind.i64.wrap (v38 + (1 : Int))))) else none) else none) else (some v37)
def f18 (k : Nat) (x0 : (List Int)) : Option (List Int) := if (0 ≤ (List.length x0 : Int) ∧ Int.toNat (List.length x0 : Int) * 8 ≤ 140737488355328) then (f18.l22 k x0 k ((List.replicate (Int.toNat (List.length x0 : Int)) (0 : Int)), (0 : Int))) else none
set_option maxRecDepth 100000 in
/-- 'laws.toInt64S'. -/
theorem c18 (k : Nat) (x0 : (List Int)) (r : (List Int)) (hF : f18 k x0 = some r) : PCall Try.prog 18 [⟨(.sl false 2 (.int .i64)), x0⟩] [⟨(.sl true 2 (.int .i64)), r⟩] := by
  refine pcall_intro Try.func18 rfl rfl (Nat.le_of_ble_eq_true rfl) ?_
  intro w0 Zi a w h
  rw [f18] at hF
  refine wp_reg_seq tok (orc := orcL []) (fz := []) (l := [0]) (c := _) (.inr fun i h => h) h (by kernel_rfl) (AllP.nil) ?_
  intro a w h
  obtain ⟨hc43, hF⟩ := of_if hF
  refine wp_reg_seq tok (orc := orcL []) (fz := []) (l := [0, 3]) (c := _) (.inr fun i h => h) h (by kernel_rfl) (AllP.cons hc43 AllP.nil) ?_
  intro a w h
  refine wp_seq ?_
  refine wp_reg_seq tok (orc := orcL []) (fz := []) (l := [0, 3, 4]) (c := _) (.inr fun i h => h) h (by kernel_rfl) (AllP.nil) ?_
  intro a w h
  refine wp_block ?_
  refine wp_loop_fuel (f18.l22 k x0) (fun ((v37, v38) : ((List Int) × Int)) => [(0, .val (.sl false 2 (.int .i64)) x0), (3, .val (.sl true 2 (.int .i64)) v37), (4, .val (.int .i64) v38)]) (fun v h => by obtain ⟨v37, v38⟩ := v; rw [f18.l22] at h; cases h) ?_ hF (h.arrive (fz := []) (l := [0, 3, 4]) (.inr fun i h => h) (by kernel_rfl))
  intro m22 v a w hF h
  obtain ⟨v37, v38⟩ := v
  rw [f18.l22] at hF
  refine wp_seq ?_
  refine wp_reg_seq tok (orc := orcL []) (fz := []) (l := [0, 3, 4, 11]) (c := _) (.inr fun i h => h) h (by kernel_rfl) (AllP.nil) ?_
  intro a w h
  refine wp_if h (b := (decide ((v38 : Int) < (List.length x0 : Int)))) (by kernel_rfl) (fun hb => ?_) (fun hb => ?_)
  · replace hF := of_t hb hF
    refine wp_skip ?_
    refine wp_seq <| wp_block ?_
    obtain ⟨hc41, hF⟩ := of_if hF
    obtain ⟨hc42, hF⟩ := of_if hF
    refine wp_reg tok (orc := orcL []) (fz := []) (l := [0, 3, 4]) (c := _) (.inr fun i h => h) h (by kernel_rfl) (AllP.cons hc41 (AllP.cons hc42 AllP.nil)) ?_
    intro a w h
    refine wp_reg tok (orc := orcL []) (fz := []) (l := [0, 3, 4]) (c := _) (.inr fun i h => h) h (by kernel_rfl) (AllP.nil) ?_
    intro a w h
    exact ⟨((List.set v37 (Int.toNat v38) (List.getD x0 (Int.toNat v38) (0 : Int))), (IntKind.i64.wrap (v38 + (1 : Int)))), hF, h.arrive (fz := []) (l := [0, 3, 4]) (.inr fun i h => h) (by kernel_rfl)⟩
  · replace hF := of_f hb hF
    refine wp_exit ?_
    refine wp_reg_seq tok (orc := orcL []) (fz := []) (l := [2, 3]) (c := _) (.inr fun i h => h) h (by kernel_rfl) (AllP.nil) ?_
    intro a w h
    cases hF
    exact wp_ret (ret_okR tok h rfl (by kernel_rfl)).1

def f102 (k : Nat) (x0 : Int) : Option Bool := some (bif (decide ((x0 : Int) ≥ (1 : Int))) then (decide ((x0 : Int) ≤ (1000000000 : Int))) else false)
set_option maxRecDepth 100000 in
/-- 'spec.l2IdOk'. -/
theorem c102 (k : Nat) (x0 : Int) (r : Bool) (hF : f102 k x0 = some r) : PCall Try.prog 102 [⟨(.int .i64), x0⟩] [⟨.bool, r⟩] := by
  refine pcall_intro Try.func102 rfl rfl (Nat.le_of_ble_eq_true rfl) ?_
  intro w0 Zi a w h
  rw [f102] at hF
  refine wp_reg_seq tok (orc := orcL []) (fz := []) (l := [0]) (c := _) (.inr fun i h => h) h (by kernel_rfl) (AllP.nil) ?_
  intro a w h
  refine wp_reg_seq tok (orc := orcL []) (fz := []) (l := [2]) (c := _) (.inr fun i h => h) h (by kernel_rfl) (AllP.nil) ?_
  intro a w h
  cases hF
  exact wp_ret (ret_okR tok h rfl (by kernel_rfl)).1

def f103 (k : Nat) (x0 : (Int × Int)) : Option Bool := some (bif (bif (bif (decide ((x0.1 : Int) ≥ (-10000000 : Int))) then (decide ((x0.1 : Int) ≤ (10000000 : Int))) else false) then (decide ((x0.2 : Int) ≥ (-10000000 : Int))) else false) then (decide ((x0.2 : Int) ≤ (10000000 : Int))) else false)
set_option maxRecDepth 100000 in
/-- 'spec.PointOk'. -/
theorem c103 (k : Nat) (x0 : (Int × Int)) (r : Bool) (hF : f103 k x0 = some r) : PCall Try.prog 103 [⟨sh5, x0⟩] [⟨.bool, r⟩] := by
  refine pcall_intro Try.func103 rfl rfl (Nat.le_of_ble_eq_true rfl) ?_
  intro w0 Zi a w h
  rw [f103] at hF
  refine wp_reg_seq tok (orc := orcL []) (fz := []) (l := [1]) (c := _) (.inr fun i h => h) h (by kernel_rfl) (AllP.nil) ?_
  intro a w h
  refine wp_reg_seq tok (orc := orcL []) (fz := []) (l := [2]) (c := _) (.inr fun i h => h) h (by kernel_rfl) (AllP.nil) ?_
  intro a w h
  cases hF
  exact wp_ret (ret_okR tok h rfl (by kernel_rfl)).1

def f104 (k : Nat) (x0 : (Int × Int)) (x1 : (Int × Int)) : Option Bool := some (bif (decide ((x0.1 : Int) < x1.1)) then true else (bif ((x0.1 : Int) == x1.1) then (decide ((x0.2 : Int) < x1.2)) else false))
set_option maxRecDepth 100000 in
/-- 'spec.l9BanLess'. -/
theorem c104 (k : Nat) (x0 : (Int × Int)) (x1 : (Int × Int)) (r : Bool) (hF : f104 k x0 x1 = some r) : PCall Try.prog 104 [⟨sh5, x0⟩, ⟨sh5, x1⟩] [⟨.bool, r⟩] := by
  refine pcall_intro Try.func104 rfl rfl (Nat.le_of_ble_eq_true rfl) ?_
  intro w0 Zi a w h
  rw [f104] at hF
  refine wp_reg_seq tok (orc := orcL []) (fz := []) (l := [2, 3]) (c := _) (.inr fun i h => h) h (by kernel_rfl) (AllP.nil) ?_
  intro a w h
  refine wp_reg_seq tok (orc := orcL []) (fz := []) (l := [4]) (c := _) (.inr fun i h => h) h (by kernel_rfl) (AllP.nil) ?_
  intro a w h
  cases hF
  exact wp_ret (ret_okR tok h rfl (by kernel_rfl)).1

def f57.l206 (k : Nat) (x0 : ((List (Int × (Int × Int))) × ((List (Int × (Int × (Int × (Int × (Int × ByteArray)))))) × (List (Int × Int))))) : Nat → Int → Option Bool
  | 0, _ => none
  | m206 + 1, v242 => if (decide ((v242 : Int) < (List.length x0.2.2 : Int))) then (if (0 ≤ v242 ∧ v242 < (List.length x0.2.2 : Int)) then (if (((bif (bif (bif (decide (((List.getD x0.2.2 (Int.toNat v242) ((0 : Int), (0 : Int))).1 : Int) < (0 : Int))) then true else (decide (((List.getD x0.2.2 (Int.toNat v242) ((0 : Int), (0 : Int))).1 : Int) ≥ (List.length x0.2.1 : Int)))) then true else (decide (((List.getD x0.2.2 (Int.toNat v242) ((0 : Int), (0 : Int))).2 : Int) < (0 : Int)))) then true else (decide (((List.getD x0.2.2 (Int.toNat v242) ((0 : Int), (0 : Int))).2 : Int) ≥ (List.length x0.2.1 : Int)))) = false) → (0 ≤ (List.getD x0.2.2 (Int.toNat v242) ((0 : Int), (0 : Int))).1 ∧ (List.getD x0.2.2 (Int.toNat v242) ((0 : Int), (0 : Int))).1 < (List.length x0.2.1 : Int))) then (if (((bif (bif (bif (decide (((List.getD x0.2.2 (Int.toNat v242) ((0 : Int), (0 : Int))).1 : Int) < (0 : Int))) then true else (decide (((List.getD x0.2.2 (Int.toNat v242) ((0 : Int), (0 : Int))).1 : Int) ≥ (List.length x0.2.1 : Int)))) then true else (decide (((List.getD x0.2.2 (Int.toNat v242) ((0 : Int), (0 : Int))).2 : Int) < (0 : Int)))) then true else (decide (((List.getD x0.2.2 (Int.toNat v242) ((0 : Int), (0 : Int))).2 : Int) ≥ (List.length x0.2.1 : Int)))) = false) → (0 ≤ (List.getD x0.2.2 (Int.toNat v242) ((0 : Int), (0 : Int))).2 ∧ (List.getD x0.2.2 (Int.toNat v242) ((0 : Int), (0 : Int))).2 < (List.length x0.2.1 : Int))) then (if ((((bif (bif (bif (bif (decide (((List.getD x0.2.2 (Int.toNat v242) ((0 : Int), (0 : Int))).1 : Int) < (0 : Int))) then true else (decide (((List.getD x0.2.2 (Int.toNat v242) ((0 : Int), (0 : Int))).1 : Int) ≥ (List.length x0.2.1 : Int)))) then true else (decide (((List.getD x0.2.2 (Int.toNat v242) ((0 : Int), (0 : Int))).2 : Int) < (0 : Int)))) then true else (decide (((List.getD x0.2.2 (Int.toNat v242) ((0 : Int), (0 : Int))).2 : Int) ≥ (List.length x0.2.1 : Int)))) then true else (((List.getD x0.2.1 (Int.toNat (List.getD x0.2.2 (Int.toNat v242) ((0 : Int), (0 : Int))).1) ((0 : Int), ((0 : Int), ((0 : Int), ((0 : Int), ((0 : Int), (⟨#[]⟩ : ByteArray))))))).2.1 : Int) != (List.getD x0.2.1 (Int.toNat (List.getD x0.2.2 (Int.toNat v242) ((0 : Int), (0 : Int))).2) ((0 : Int), ((0 : Int), ((0 : Int), ((0 : Int), ((0 : Int), (⟨#[]⟩ : ByteArray))))))).1)) = false) ∧ ((decide ((v242 : Int) > (0 : Int))) = true)) → (0 ≤ (IntKind.i64.wrap (v242 - (1 : Int))) ∧ (IntKind.i64.wrap (v242 - (1 : Int))) < (List.length x0.2.2 : Int))) then ((if (((bif (bif (bif (bif (decide (((List.getD x0.2.2 (Int.toNat v242) ((0 : Int), (0 : Int))).1 : Int) < (0 : Int))) then true else (decide (((List.getD x0.2.2 (Int.toNat v242) ((0 : Int), (0 : Int))).1 : Int) ≥ (List.length x0.2.1 : Int)))) then true else (decide (((List.getD x0.2.2 (Int.toNat v242) ((0 : Int), (0 : Int))).2 : Int) < (0 : Int)))) then true else (decide (((List.getD x0.2.2 (Int.toNat v242) ((0 : Int), (0 : Int))).2 : Int) ≥ (List.length x0.2.1 : Int)))) then true else (((List.getD x0.2.1 (Int.toNat (List.getD x0.2.2 (Int.toNat v242) ((0 : Int), (0 : Int))).1) ((0 : Int), ((0 : Int), ((0 : Int), ((0 : Int), ((0 : Int), (⟨#[]⟩ : ByteArray))))))).2.1 : Int) != (List.getD x0.2.1 (Int.toNat (List.getD x0.2.2 (Int.toNat v242) ((0 : Int), (0 : Int))).2) ((0 : Int), ((0 : Int), ((0 : Int), ((0 : Int), ((0 : Int), (⟨#[]⟩ : ByteArray))))))).1)) = false) ∧ ((decide ((v242 : Int) > (0 : Int))) = true)) then f104 k (List.getD x0.2.2 (Int.toNat (IntKind.i64.wrap (v242 - (1 : Int)))) ((0 : Int), (0 : Int))) (List.getD x0.2.2 (Int.toNat v242) ((0 : Int), (0 : Int))) else some default).bind fun r251 => ((some ((bif (bif (bif (bif (bif (decide (((List.getD x0.2.2 (Int.toNat v242) ((0 : Int), (0 : Int))).1 : Int) < (0 : Int))) then true else (decide (((List.getD x0.2.2 (Int.toNat v242) ((0 : Int), (0 : Int))).1 : Int) ≥ (List.length x0.2.1 : Int)))) then true else (decide (((List.getD x0.2.2 (Int.toNat v242) ((0 : Int), (0 : Int))).2 : Int) < (0 : Int)))) then true else (decide (((List.getD x0.2.2 (Int.toNat v242) ((0 : Int), (0 : Int))).2 : Int) ≥ (List.length x0.2.1 : Int)))) then true else (((List.getD x0.2.1 (Int.toNat (List.getD x0.2.2 (Int.toNat v242) ((0 : Int), (0 : Int))).1) ((0 : Int), ((0 : Int), ((0 : Int), ((0 : Int), ((0 : Int), (⟨#[]⟩ : ByteArray))))))).2.1 : Int) != (List.getD x0.2.1 (Int.toNat (List.getD x0.2.2 (Int.toNat v242) ((0 : Int), (0 : Int))).2) ((0 : Int), ((0 : Int), ((0 : Int), ((0 : Int), ((0 : Int), (⟨#[]⟩ : ByteArray))))))).1)) then true else (bif (decide ((v242 : Int) > (0 : Int))) then (!r251) else false)) : Bool)).bind fun v252 => (if v252 then (some false) else ((f57.l206 k x0) m206 (IntKind.i64.wrap (v242 + (1 : Int))))))) else none) else none) else none) else none) else (some true)
def f57.l118 (k : Nat) (x0 : ((List (Int × (Int × Int))) × ((List (Int × (Int × (Int × (Int × (Int × ByteArray)))))) × (List (Int × Int))))) : Nat → Int → Option Bool
  | 0, _ => none
  | m118 + 1, v142 => if (decide ((v142 : Int) < (List.length x0.2.1 : Int))) then (if (0 ≤ v142 ∧ v142 < (List.length x0.2.1 : Int)) then ((if ((bif (bif (bif (decide (((List.getD x0.2.1 (Int.toNat v142) ((0 : Int), ((0 : Int), ((0 : Int), ((0 : Int), ((0 : Int), (⟨#[]⟩ : ByteArray))))))).1 : Int) < (0 : Int))) then true else (decide (((List.getD x0.2.1 (Int.toNat v142) ((0 : Int), ((0 : Int), ((0 : Int), ((0 : Int), ((0 : Int), (⟨#[]⟩ : ByteArray))))))).1 : Int) ≥ (List.length x0.1 : Int)))) then true else (decide (((List.getD x0.2.1 (Int.toNat v142) ((0 : Int), ((0 : Int), ((0 : Int), ((0 : Int), ((0 : Int), (⟨#[]⟩ : ByteArray))))))).2.1 : Int) < (0 : Int)))) then true else (decide (((List.getD x0.2.1 (Int.toNat v142) ((0 : Int), ((0 : Int), ((0 : Int), ((0 : Int), ((0 : Int), (⟨#[]⟩ : ByteArray))))))).2.1 : Int) ≥ (List.length x0.1 : Int)))) = false) then f102 k (List.getD x0.2.1 (Int.toNat v142) ((0 : Int), ((0 : Int), ((0 : Int), ((0 : Int), ((0 : Int), (⟨#[]⟩ : ByteArray))))))).2.2.1 else some default).bind fun r148 => ((some ((bif (bif (bif (bif (bif (bif (bif (bif (decide (((List.getD x0.2.1 (Int.toNat v142) ((0 : Int), ((0 : Int), ((0 : Int), ((0 : Int), ((0 : Int), (⟨#[]⟩ : ByteArray))))))).1 : Int) < (0 : Int))) then true else (decide (((List.getD x0.2.1 (Int.toNat v142) ((0 : Int), ((0 : Int), ((0 : Int), ((0 : Int), ((0 : Int), (⟨#[]⟩ : ByteArray))))))).1 : Int) ≥ (List.length x0.1 : Int)))) then true else (decide (((List.getD x0.2.1 (Int.toNat v142) ((0 : Int), ((0 : Int), ((0 : Int), ((0 : Int), ((0 : Int), (⟨#[]⟩ : ByteArray))))))).2.1 : Int) < (0 : Int)))) then true else (decide (((List.getD x0.2.1 (Int.toNat v142) ((0 : Int), ((0 : Int), ((0 : Int), ((0 : Int), ((0 : Int), (⟨#[]⟩ : ByteArray))))))).2.1 : Int) ≥ (List.length x0.1 : Int)))) then true else (!r148)) then true else (decide (((List.getD x0.2.1 (Int.toNat v142) ((0 : Int), ((0 : Int), ((0 : Int), ((0 : Int), ((0 : Int), (⟨#[]⟩ : ByteArray))))))).2.2.2.1 : Int) < (1 : Int)))) then true else (decide (((List.getD x0.2.1 (Int.toNat v142) ((0 : Int), ((0 : Int), ((0 : Int), ((0 : Int), ((0 : Int), (⟨#[]⟩ : ByteArray))))))).2.2.2.1 : Int) > (1000000 : Int)))) then true else (decide (((List.getD x0.2.1 (Int.toNat v142) ((0 : Int), ((0 : Int), ((0 : Int), ((0 : Int), ((0 : Int), (⟨#[]⟩ : ByteArray))))))).2.2.2.2.1 : Int) < (0 : Int)))) then true else (decide (((List.getD x0.2.1 (Int.toNat v142) ((0 : Int), ((0 : Int), ((0 : Int), ((0 : Int), ((0 : Int), (⟨#[]⟩ : ByteArray))))))).2.2.2.2.1 : Int) > (1000000000 : Int)))) : Bool)).bind fun v149 => (if v149 then (some false) else ((f57.l118 k x0) m118 (IntKind.i64.wrap (v142 + (1 : Int))))))) else none) else (f57.l206 k x0 k (0 : Int))
def f57.l42 (k : Nat) (x0 : ((List (Int × (Int × Int))) × ((List (Int × (Int × (Int × (Int × (Int × ByteArray)))))) × (List (Int × Int))))) : Nat → Int → Option Bool
  | 0, _ => none
  | m42 + 1, v70 => if (decide ((v70 : Int) < (List.length x0.1 : Int))) then (if (0 ≤ v70 ∧ v70 < (List.length x0.1 : Int)) then ((f102 k (List.getD x0.1 (Int.toNat v70) ((0 : Int), ((0 : Int), (0 : Int)))).1).bind fun r77 => ((if ((!r77) = false) then f103 k (List.getD x0.1 (Int.toNat v70) ((0 : Int), ((0 : Int), (0 : Int)))).2 else some default).bind fun r78 => (if ((((bif (!r77) then true else (!r78)) = false) ∧ ((decide ((v70 : Int) > (0 : Int))) = true)) → (0 ≤ (IntKind.i64.wrap (v70 - (1 : Int))) ∧ (IntKind.i64.wrap (v70 - (1 : Int))) < (List.length x0.1 : Int))) then (if (bif (bif (!r77) then true else (!r78)) then true else (bif (decide ((v70 : Int) > (0 : Int))) then (decide (((List.getD x0.1 (Int.toNat (IntKind.i64.wrap (v70 - (1 : Int)))) ((0 : Int), ((0 : Int), (0 : Int)))).1 : Int) ≥ (List.getD x0.1 (Int.toNat v70) ((0 : Int), ((0 : Int), (0 : Int)))).1)) else false)) then (some false) else ((f57.l42 k x0) m42 (IntKind.i64.wrap (v70 + (1 : Int))))) else none))) else none) else (f57.l118 k x0 k (0 : Int))
def f57 (k : Nat) (x0 : ((List (Int × (Int × Int))) × ((List (Int × (Int × (Int × (Int × (Int × ByteArray)))))) × (List (Int × Int))))) : Option Bool := if (bif (bif (decide (((List.length x0.1 : Int) : Int) > (5000 : Int))) then true else (decide (((List.length x0.2.1 : Int) : Int) > (8000 : Int)))) then true else (decide (((List.length x0.2.2 : Int) : Int) > (2000 : Int)))) then (some false) else (f57.l42 k x0 k (0 : Int))
set_option maxRecDepth 100000 in
/-- 'spec.GraphOk'. -/
theorem c57 (k : Nat) (x0 : ((List (Int × (Int × Int))) × ((List (Int × (Int × (Int × (Int × (Int × ByteArray)))))) × (List (Int × Int))))) (r : Bool) (hF : f57 k x0 = some r) : PCall Try.prog 57 [⟨sh12, x0⟩] [⟨.bool, r⟩] := by
  refine pcall_intro Try.func57 rfl rfl (Nat.le_of_ble_eq_true rfl) ?_
  intro w0 Zi a w h
  rw [f57] at hF
  refine wp_reg_seq tok (orc := orcL []) (fz := []) (l := [1]) (c := _) (.inr fun i h => h) h (by kernel_rfl) (AllP.nil) ?_
  intro a w h
  refine wp_seq ?_
  refine wp_reg_seq tok (orc := orcL []) (fz := []) (l := [1, 26]) (c := _) (.inr fun i h => h) h (by kernel_rfl) (AllP.nil) ?_
  intro a w h
  refine wp_if h (b := (bif (bif (decide (((List.length x0.1 : Int) : Int) > (5000 : Int))) then true else (decide (((List.length x0.2.1 : Int) : Int) > (8000 : Int)))) then true else (decide (((List.length x0.2.2 : Int) : Int) > (2000 : Int))))) (by kernel_rfl) (fun hb => ?_) (fun hb => ?_)
  · replace hF := of_t hb hF
    refine wp_reg_seq tok (orc := orcL []) (fz := []) (l := [2]) (c := _) (.inr fun i h => h) h (by kernel_rfl) (AllP.nil) ?_
    intro a w h
    cases hF
    exact wp_ret (ret_okR tok h rfl (by kernel_rfl)).1
  · replace hF := of_f hb hF
    refine wp_skip ?_
    refine wp_seq ?_
    refine wp_reg_seq tok (orc := orcL []) (fz := []) (l := [1, 3]) (c := _) (.inr fun i h => h) h (by kernel_rfl) (AllP.nil) ?_
    intro a w h
    refine wp_block ?_
    refine wp_loop_fuel (f57.l42 k x0) (fun (v70 : Int) => [(1, .val sh11 (some x0)), (3, .val (.int .i64) v70)]) (fun v h => by rw [f57.l42] at h; cases h) ?_ hF (h.arrive (fz := []) (l := [1, 3]) (.inr fun i h => h) (by kernel_rfl))
    intro m42 v70 a w hF h
    rw [f57.l42] at hF
    refine wp_seq ?_
    refine wp_reg_seq tok (orc := orcL []) (fz := []) (l := [1, 3, 31]) (c := _) (.inr fun i h => h) h (by kernel_rfl) (AllP.nil) ?_
    intro a w h
    refine wp_if h (b := (decide ((v70 : Int) < (List.length x0.1 : Int)))) (by kernel_rfl) (fun hb => ?_) (fun hb => ?_)
    · replace hF := of_t hb hF
      refine wp_skip ?_
      refine wp_seq <| wp_block ?_
      obtain ⟨hc82, hF⟩ := of_if hF
      refine wp_reg_seq tok (orc := orcL []) (fz := []) (l := [1, 3, 4]) (c := _) (.inr fun i h => h) h (by kernel_rfl) (AllP.cons hc82 AllP.nil) ?_
      intro a w h
      obtain ⟨r77, hr79, hF⟩ := of_bind hF
      obtain ⟨r78, hr80, hF⟩ := of_bind hF
      obtain ⟨hc81, hF⟩ := of_if hF
      refine wp_regy_seq tok (orc := orcL [(41, [⟨.bool, r77⟩]), (46, [⟨.bool, r78⟩])]) (fz := []) (l := [1, 3, 64]) (c := _) ([], [], [], []) 26 (.inr fun i h => h) h (by kernel_rfl) (by kernel_rfl) (AllP.cons (c102 k (List.getD x0.1 (Int.toNat v70) ((0 : Int), ((0 : Int), (0 : Int)))).1 r77 hr79) (AllP.cons (fun (hg : ((!r77) = false)) => c103 k (List.getD x0.1 (Int.toNat v70) ((0 : Int), ((0 : Int), (0 : Int)))).2 r78 (of_g hg hr80)) (AllP.cons hc81 AllP.nil))) ?_
      intro a w h
      refine wp_if h (b := (bif (bif (!r77) then true else (!r78)) then true else (bif (decide ((v70 : Int) > (0 : Int))) then (decide (((List.getD x0.1 (Int.toNat (IntKind.i64.wrap (v70 - (1 : Int)))) ((0 : Int), ((0 : Int), (0 : Int)))).1 : Int) ≥ (List.getD x0.1 (Int.toNat v70) ((0 : Int), ((0 : Int), (0 : Int)))).1)) else false))) (by kernel_rfl) (fun hb => ?_) (fun hb => ?_)
      · replace hF := of_t hb hF
        refine wp_reg_seq tok (orc := orcL []) (fz := []) (l := [2]) (c := _) (.inr fun i h => h) h (by kernel_rfl) (AllP.nil) ?_
        intro a w h
        cases hF
        exact wp_ret (ret_okR tok h rfl (by kernel_rfl)).1
      · replace hF := of_f hb hF
        refine wp_skip ?_
        refine wp_reg tok (orc := orcL []) (fz := []) (l := [1, 3]) (c := _) (.inr fun i h => h) h (by kernel_rfl) (AllP.nil) ?_
        intro a w h
        exact ⟨(IntKind.i64.wrap (v70 + (1 : Int))), hF, h.arrive (fz := []) (l := [1, 3]) (.inr fun i h => h) (by kernel_rfl)⟩
    · replace hF := of_f hb hF
      refine wp_exit ?_
      refine wp_reg_seq tok (orc := orcL []) (fz := []) (l := [1, 5]) (c := _) (.inr fun i h => h) h (by kernel_rfl) (AllP.nil) ?_
      intro a w h
      refine wp_seq ?_
      refine wp_reg_seq tok (orc := orcL []) (fz := []) (l := [1, 5, 6]) (c := _) (.inr fun i h => h) h (by kernel_rfl) (AllP.nil) ?_
      intro a w h
      refine wp_block ?_
      refine wp_loop_fuel (f57.l118 k x0) (fun (v142 : Int) => [(1, .val sh11 (some x0)), (5, .val (.int .i64) (List.length x0.1 : Int)), (6, .val (.int .i64) v142)]) (fun v h => by rw [f57.l118] at h; cases h) ?_ hF (h.arrive (fz := []) (l := [1, 5, 6]) (.inr fun i h => h) (by kernel_rfl))
      intro m118 v142 a w hF h
      rw [f57.l118] at hF
      refine wp_seq ?_
      refine wp_reg_seq tok (orc := orcL []) (fz := []) (l := [1, 5, 6, 72]) (c := _) (.inr fun i h => h) h (by kernel_rfl) (AllP.nil) ?_
      intro a w h
      refine wp_if h (b := (decide ((v142 : Int) < (List.length x0.2.1 : Int)))) (by kernel_rfl) (fun hb => ?_) (fun hb => ?_)
      · replace hF := of_t hb hF
        refine wp_skip ?_
        refine wp_seq <| wp_block ?_
        obtain ⟨hc152, hF⟩ := of_if hF
        refine wp_reg_seq tok (orc := orcL []) (fz := []) (l := [1, 5, 6, 7]) (c := _) (.inr fun i h => h) h (by kernel_rfl) (AllP.cons hc152 AllP.nil) ?_
        intro a w h
        obtain ⟨r148, hr151, hF⟩ := of_bind hF
        refine wp_reg_seq tok (orc := orcL [(103, [⟨.bool, r148⟩])]) (fz := []) (l := [1, 5, 6, 125]) (c := _) (.inr fun i h => h) h (by kernel_rfl) (AllP.cons (fun (hg : ((bif (bif (bif (decide (((List.getD x0.2.1 (Int.toNat v142) ((0 : Int), ((0 : Int), ((0 : Int), ((0 : Int), ((0 : Int), (⟨#[]⟩ : ByteArray))))))).1 : Int) < (0 : Int))) then true else (decide (((List.getD x0.2.1 (Int.toNat v142) ((0 : Int), ((0 : Int), ((0 : Int), ((0 : Int), ((0 : Int), (⟨#[]⟩ : ByteArray))))))).1 : Int) ≥ (List.length x0.1 : Int)))) then true else (decide (((List.getD x0.2.1 (Int.toNat v142) ((0 : Int), ((0 : Int), ((0 : Int), ((0 : Int), ((0 : Int), (⟨#[]⟩ : ByteArray))))))).2.1 : Int) < (0 : Int)))) then true else (decide (((List.getD x0.2.1 (Int.toNat v142) ((0 : Int), ((0 : Int), ((0 : Int), ((0 : Int), ((0 : Int), (⟨#[]⟩ : ByteArray))))))).2.1 : Int) ≥ (List.length x0.1 : Int)))) = false)) => c102 k (List.getD x0.2.1 (Int.toNat v142) ((0 : Int), ((0 : Int), ((0 : Int), ((0 : Int), ((0 : Int), (⟨#[]⟩ : ByteArray))))))).2.2.1 r148 (of_g hg hr151)) AllP.nil) ?_
        intro a w h
        obtain ⟨v149, hv150, hF⟩ := of_bind hF
        replace h := h.cast (S' := [(1, .val sh11 (some x0)), (5, .val (.int .i64) (List.length x0.1 : Int)), (6, .val (.int .i64) v142), (125, .val .bool v149)]) (by cases hv150; kernel_rfl)
        refine wp_if h (b := v149) (by kernel_rfl) (fun hb => ?_) (fun hb => ?_)
        · replace hF := of_t hb hF
          refine wp_reg_seq tok (orc := orcL []) (fz := []) (l := [2]) (c := _) (.inr fun i h => h) h (by kernel_rfl) (AllP.nil) ?_
          intro a w h
          cases hF
          exact wp_ret (ret_okR tok h rfl (by kernel_rfl)).1
        · replace hF := of_f hb hF
          refine wp_skip ?_
          refine wp_reg tok (orc := orcL []) (fz := []) (l := [1, 5, 6]) (c := _) (.inr fun i h => h) h (by kernel_rfl) (AllP.nil) ?_
          intro a w h
          exact ⟨(IntKind.i64.wrap (v142 + (1 : Int))), hF, h.arrive (fz := []) (l := [1, 5, 6]) (.inr fun i h => h) (by kernel_rfl)⟩
      · replace hF := of_f hb hF
        refine wp_exit ?_
        refine wp_reg_seq tok (orc := orcL []) (fz := []) (l := [1, 8]) (c := _) (.inr fun i h => h) h (by kernel_rfl) (AllP.nil) ?_
        intro a w h
        refine wp_seq ?_
        refine wp_reg_seq tok (orc := orcL []) (fz := []) (l := [1, 8, 9]) (c := _) (.inr fun i h => h) h (by kernel_rfl) (AllP.nil) ?_
        intro a w h
        refine wp_block ?_
        refine wp_loop_fuel (f57.l206 k x0) (fun (v242 : Int) => [(1, .val sh11 (some x0)), (8, .val (.int .i64) (List.length x0.2.1 : Int)), (9, .val (.int .i64) v242)]) (fun v h => by rw [f57.l206] at h; cases h) ?_ hF (h.arrive (fz := []) (l := [1, 8, 9]) (.inr fun i h => h) (by kernel_rfl))
        intro m206 v242 a w hF h
        rw [f57.l206] at hF
        refine wp_seq ?_
        refine wp_reg_seq tok (orc := orcL []) (fz := []) (l := [1, 8, 9, 133]) (c := _) (.inr fun i h => h) h (by kernel_rfl) (AllP.nil) ?_
        intro a w h
        refine wp_if h (b := (decide ((v242 : Int) < (List.length x0.2.2 : Int)))) (by kernel_rfl) (fun hb => ?_) (fun hb => ?_)
        · replace hF := of_t hb hF
          refine wp_skip ?_
          refine wp_seq <| wp_block ?_
          obtain ⟨hc258, hF⟩ := of_if hF
          refine wp_reg_seq tok (orc := orcL []) (fz := []) (l := [1, 8, 9, 10]) (c := _) (.inr fun i h => h) h (by kernel_rfl) (AllP.cons hc258 AllP.nil) ?_
          intro a w h
          obtain ⟨hc254, hF⟩ := of_if hF
          obtain ⟨hc255, hF⟩ := of_if hF
          obtain ⟨hc256, hF⟩ := of_if hF
          obtain ⟨r251, hr257, hF⟩ := of_bind hF
          refine wp_regy_seq tok (orc := orcL [(189, [⟨.bool, r251⟩])]) (fz := []) (l := [1, 8, 9, 192]) (c := _) ([], [], [], []) 52 (.inr fun i h => h) h (by kernel_rfl) (by kernel_rfl) (AllP.cons hc254 (AllP.cons hc255 (AllP.cons hc256 (AllP.cons (fun (hg : (((bif (bif (bif (bif (decide (((List.getD x0.2.2 (Int.toNat v242) ((0 : Int), (0 : Int))).1 : Int) < (0 : Int))) then true else (decide (((List.getD x0.2.2 (Int.toNat v242) ((0 : Int), (0 : Int))).1 : Int) ≥ (List.length x0.2.1 : Int)))) then true else (decide (((List.getD x0.2.2 (Int.toNat v242) ((0 : Int), (0 : Int))).2 : Int) < (0 : Int)))) then true else (decide (((List.getD x0.2.2 (Int.toNat v242) ((0 : Int), (0 : Int))).2 : Int) ≥ (List.length x0.2.1 : Int)))) then true else (((List.getD x0.2.1 (Int.toNat (List.getD x0.2.2 (Int.toNat v242) ((0 : Int), (0 : Int))).1) ((0 : Int), ((0 : Int), ((0 : Int), ((0 : Int), ((0 : Int), (⟨#[]⟩ : ByteArray))))))).2.1 : Int) != (List.getD x0.2.1 (Int.toNat (List.getD x0.2.2 (Int.toNat v242) ((0 : Int), (0 : Int))).2) ((0 : Int), ((0 : Int), ((0 : Int), ((0 : Int), ((0 : Int), (⟨#[]⟩ : ByteArray))))))).1)) = false) ∧ ((decide ((v242 : Int) > (0 : Int))) = true))) => c104 k (List.getD x0.2.2 (Int.toNat (IntKind.i64.wrap (v242 - (1 : Int)))) ((0 : Int), (0 : Int))) (List.getD x0.2.2 (Int.toNat v242) ((0 : Int), (0 : Int))) r251 (of_g hg hr257)) AllP.nil)))) ?_
          intro a w h
          obtain ⟨v252, hv253, hF⟩ := of_bind hF
          replace h := h.cast (S' := [(1, .val sh11 (some x0)), (8, .val (.int .i64) (List.length x0.2.1 : Int)), (9, .val (.int .i64) v242), (192, .val .bool v252)]) (by cases hv253; kernel_rfl)
          refine wp_if h (b := v252) (by kernel_rfl) (fun hb => ?_) (fun hb => ?_)
          · replace hF := of_t hb hF
            refine wp_reg_seq tok (orc := orcL []) (fz := []) (l := [2]) (c := _) (.inr fun i h => h) h (by kernel_rfl) (AllP.nil) ?_
            intro a w h
            cases hF
            exact wp_ret (ret_okR tok h rfl (by kernel_rfl)).1
          · replace hF := of_f hb hF
            refine wp_skip ?_
            refine wp_reg tok (orc := orcL []) (fz := []) (l := [1, 8, 9]) (c := _) (.inr fun i h => h) h (by kernel_rfl) (AllP.nil) ?_
            intro a w h
            exact ⟨(IntKind.i64.wrap (v242 + (1 : Int))), hF, h.arrive (fz := []) (l := [1, 8, 9]) (.inr fun i h => h) (by kernel_rfl)⟩
        · replace hF := of_f hb hF
          refine wp_exit ?_
          refine wp_reg_seq tok (orc := orcL []) (fz := []) (l := [2]) (c := _) (.inr fun i h => h) h (by kernel_rfl) (AllP.nil) ?_
          intro a w h
          cases hF
          exact wp_ret (ret_okR tok h rfl (by kernel_rfl)).1

def f89 (k : Nat) (x0 : ((List (Int × (Int × Int))) × ((List (Int × (Int × (Int × (Int × (Int × ByteArray)))))) × (List (Int × Int))))) (x1 : Int) : Option Bool := some (bif (decide ((x1 : Int) ≥ (0 : Int))) then (decide ((x1 : Int) < (List.length x0.1 : Int))) else false)
set_option maxRecDepth 100000 in
/-- 'spec.l10SpotIs'. -/
theorem c89 (k : Nat) (x0 : ((List (Int × (Int × Int))) × ((List (Int × (Int × (Int × (Int × (Int × ByteArray)))))) × (List (Int × Int))))) (x1 : Int) (r : Bool) (hF : f89 k x0 x1 = some r) : PCall Try.prog 89 [⟨sh12, x0⟩, ⟨(.int .i64), x1⟩] [⟨.bool, r⟩] := by
  refine pcall_intro Try.func89 rfl rfl (Nat.le_of_ble_eq_true rfl) ?_
  intro w0 Zi a w h
  rw [f89] at hF
  refine wp_reg_seq tok (orc := orcL []) (fz := []) (l := [1, 2]) (c := _) (.inr fun i h => h) h (by kernel_rfl) (AllP.nil) ?_
  intro a w h
  refine wp_reg_seq tok (orc := orcL []) (fz := []) (l := [4]) (c := _) (.inr fun i h => h) h (by kernel_rfl) (AllP.nil) ?_
  intro a w h
  cases hF
  exact wp_ret (ret_okR tok h rfl (by kernel_rfl)).1

def f93.l24 (k : Nat) (x1 : (List Int)) (x0 : ((List (Int × (Int × Int))) × ((List (Int × (Int × (Int × (Int × (Int × ByteArray)))))) × (List (Int × Int))))) : Nat → Int → Option Bool
  | 0, _ => none
  | m24 + 1, v40 => if (bif (decide ((v40 : Int) < (List.length x1 : Int))) then (decide (((List.length x1 : Int) : Int) ≤ (100 : Int))) else false) then (if (0 ≤ v40 ∧ v40 < (List.length x1 : Int)) then ((f89 k x0 (List.getD x1 (Int.toNat v40) (0 : Int))).bind fun r44 => (if (!r44) then (some false) else ((f93.l24 k x1 x0) m24 (IntKind.i64.wrap (v40 + (1 : Int)))))) else none) else (some (decide (((List.length x1 : Int) : Int) ≤ (100 : Int))))
def f93 (k : Nat) (x0 : ((List (Int × (Int × Int))) × ((List (Int × (Int × (Int × (Int × (Int × ByteArray)))))) × (List (Int × Int))))) (x1 : (List Int)) : Option Bool := f93.l24 k x1 x0 k (0 : Int)
set_option maxRecDepth 100000 in
/-- 'spec.l11Spots'. -/
theorem c93 (k : Nat) (x0 : ((List (Int × (Int × Int))) × ((List (Int × (Int × (Int × (Int × (Int × ByteArray)))))) × (List (Int × Int))))) (x1 : (List Int)) (r : Bool) (hF : f93 k x0 x1 = some r) : PCall Try.prog 93 [⟨sh12, x0⟩, ⟨(.sl false 2 (.int .i64)), x1⟩] [⟨.bool, r⟩] := by
  refine pcall_intro Try.func93 rfl rfl (Nat.le_of_ble_eq_true rfl) ?_
  intro w0 Zi a w h
  rw [f93] at hF
  refine wp_reg_seq tok (orc := orcL []) (fz := []) (l := [1, 2]) (c := _) (.inr fun i h => h) h (by kernel_rfl) (AllP.nil) ?_
  intro a w h
  refine wp_seq ?_
  refine wp_reg_seq tok (orc := orcL []) (fz := []) (l := [1, 2, 5]) (c := _) (.inr fun i h => h) h (by kernel_rfl) (AllP.nil) ?_
  intro a w h
  refine wp_block ?_
  refine wp_loop_fuel (f93.l24 k x1 x0) (fun (v40 : Int) => [(1, .val (.sl false 2 (.int .i64)) x1), (2, .val sh11 (some x0)), (5, .val (.int .i64) v40)]) (fun v h => by rw [f93.l24] at h; cases h) ?_ hF (h.arrive (fz := []) (l := [1, 2, 5]) (.inr fun i h => h) (by kernel_rfl))
  intro m24 v40 a w hF h
  rw [f93.l24] at hF
  refine wp_seq ?_
  refine wp_reg_seq tok (orc := orcL []) (fz := []) (l := [1, 2, 5, 14]) (c := _) (.inr fun i h => h) h (by kernel_rfl) (AllP.nil) ?_
  intro a w h
  refine wp_if h (b := (bif (decide ((v40 : Int) < (List.length x1 : Int))) then (decide (((List.length x1 : Int) : Int) ≤ (100 : Int))) else false)) (by kernel_rfl) (fun hb => ?_) (fun hb => ?_)
  · replace hF := of_t hb hF
    refine wp_skip ?_
    refine wp_seq <| wp_block ?_
    obtain ⟨hc45, hF⟩ := of_if hF
    obtain ⟨r44, hr46, hF⟩ := of_bind hF
    refine wp_regy_seq tok (orc := orcL [(22, [⟨.bool, r44⟩])]) (fz := []) (l := [1, 2, 5, 23]) (c := _) ([], [], [], []) 7 (.inr fun i h => h) h (by kernel_rfl) (by kernel_rfl) (AllP.cons hc45 (AllP.cons (c89 k x0 (List.getD x1 (Int.toNat v40) (0 : Int)) r44 hr46) AllP.nil)) ?_
    intro a w h
    refine wp_if h (b := (!r44)) (by kernel_rfl) (fun hb => ?_) (fun hb => ?_)
    · replace hF := of_t hb hF
      refine wp_reg_seq tok (orc := orcL []) (fz := []) (l := [4]) (c := _) (.inr fun i h => h) h (by kernel_rfl) (AllP.nil) ?_
      intro a w h
      cases hF
      exact wp_ret (ret_okR tok h rfl (by kernel_rfl)).1
    · replace hF := of_f hb hF
      refine wp_skip ?_
      refine wp_reg tok (orc := orcL []) (fz := []) (l := [1, 2, 5]) (c := _) (.inr fun i h => h) h (by kernel_rfl) (AllP.nil) ?_
      intro a w h
      exact ⟨(IntKind.i64.wrap (v40 + (1 : Int))), hF, h.arrive (fz := []) (l := [1, 2, 5]) (.inr fun i h => h) (by kernel_rfl)⟩
  · replace hF := of_f hb hF
    refine wp_exit ?_
    refine wp_reg_seq tok (orc := orcL []) (fz := []) (l := [4]) (c := _) (.inr fun i h => h) h (by kernel_rfl) (AllP.nil) ?_
    intro a w h
    cases hF
    exact wp_ret (ret_okR tok h rfl (by kernel_rfl)).1

def f79.j109 (k : Nat) (v97 : (List (List Int))) (v98 : Int) (q58 : ((List (List Int)) × Int) → Option (List (List Int))) : Int → Option (List (List Int))
  | v108 => if (0 ≤ v108 ∧ v108 < (List.length v97 : Int)) then (if ((List.length (List.getD v97 (Int.toNat v108) ([] : (List Int))) + List.length [v98]) * 8 ≤ 140737488355328) then (if (0 ≤ v108 ∧ v108 < (List.length v97 : Int)) then (q58 ((List.set v97 (Int.toNat v108) (List.append (List.getD v97 (Int.toNat v108) ([] : (List Int))) [v98])), (IntKind.i64.wrap (v98 + (1 : Int))))) else none) else none) else none
def f79.l58 (k : Nat) (x0 : ((List (Int × (Int × Int))) × ((List (Int × (Int × (Int × (Int × (Int × ByteArray)))))) × (List (Int × Int))))) (x1 : Bool) : Nat → ((List (List Int)) × Int) → Option (List (List Int))
  | 0, _ => none
  | m58 + 1, (v97, v98) => if (decide ((v98 : Int) < (List.length x0.2.1 : Int))) then (if (0 ≤ v98 ∧ v98 < (List.length x0.2.1 : Int)) then (if x1 then (if (0 ≤ v98 ∧ v98 < (List.length x0.2.1 : Int)) then (f79.j109 k v97 v98 ((f79.l58 k x0 x1) m58) (List.getD x0.2.1 (Int.toNat v98) ((0 : Int), ((0 : Int), ((0 : Int), ((0 : Int), ((0 : Int), (⟨#[]⟩ : ByteArray))))))).2.1) else none) else (f79.j109 k v97 v98 ((f79.l58 k x0 x1) m58) (List.getD x0.2.1 (Int.toNat v98) ((0 : Int), ((0 : Int), ((0 : Int), ((0 : Int), ((0 : Int), (⟨#[]⟩ : ByteArray))))))).1)) else none) else (some v97)
def f79 (k : Nat) (x0 : ((List (Int × (Int × Int))) × ((List (Int × (Int × (Int × (Int × (Int × ByteArray)))))) × (List (Int × Int))))) (x1 : Bool) : Option (List (List Int)) := if (0 ≤ (List.length x0.1 : Int) ∧ Int.toNat (List.length x0.1 : Int) * 24 ≤ 140737488355328) then (f79.l58 k x0 x1 k ((List.replicate (Int.toNat (List.length x0.1 : Int)) ([] : (List Int))), (0 : Int))) else none
set_option maxRecDepth 100000 in
/-- 'spec.l10At'. -/
theorem c79 (k : Nat) (x0 : ((List (Int × (Int × Int))) × ((List (Int × (Int × (Int × (Int × (Int × ByteArray)))))) × (List (Int × Int))))) (x1 : Bool) (r : (List (List Int))) (hF : f79 k x0 x1 = some r) : PCall Try.prog 79 [⟨sh12, x0⟩, ⟨.bool, x1⟩] [⟨sh13, r⟩] := by
  refine pcall_intro Try.func79 rfl rfl (Nat.le_of_ble_eq_true rfl) ?_
  intro w0 Zi a w h
  rw [f79] at hF
  refine wp_reg_seq tok (orc := orcL []) (fz := []) (l := [1, 2]) (c := _) (.inr fun i h => h) h (by kernel_rfl) (AllP.nil) ?_
  intro a w h
  obtain ⟨hc115, hF⟩ := of_if hF
  refine wp_reg_seq tok (orc := orcL []) (fz := []) (l := [1, 2, 5]) (c := _) (.inr fun i h => h) h (by kernel_rfl) (AllP.cons hc115 AllP.nil) ?_
  intro a w h
  refine wp_seq ?_
  refine wp_reg_seq tok (orc := orcL []) (fz := []) (l := [1, 2, 5, 6]) (c := _) (.inr fun i h => h) h (by kernel_rfl) (AllP.nil) ?_
  intro a w h
  refine wp_block ?_
  refine wp_loop_fuel (f79.l58 k x0 x1) (fun ((v97, v98) : ((List (List Int)) × Int)) => [(1, .val .bool x1), (2, .val sh11 (some x0)), (5, .val sh13 v97), (6, .val (.int .i64) v98)]) (fun v h => by obtain ⟨v97, v98⟩ := v; rw [f79.l58] at h; cases h) ?_ hF (h.arrive (fz := []) (l := [1, 2, 5, 6]) (.inr fun i h => h) (by kernel_rfl))
  intro m58 v a w hF h
  obtain ⟨v97, v98⟩ := v
  rw [f79.l58] at hF
  refine wp_seq ?_
  refine wp_reg_seq tok (orc := orcL []) (fz := []) (l := [1, 2, 5, 6, 16]) (c := _) (.inr fun i h => h) h (by kernel_rfl) (AllP.nil) ?_
  intro a w h
  refine wp_if h (b := (decide ((v98 : Int) < (List.length x0.2.1 : Int)))) (by kernel_rfl) (fun hb => ?_) (fun hb => ?_)
  · replace hF := of_t hb hF
    refine wp_skip ?_
    refine wp_seq <| wp_block ?_
    obtain ⟨hc114, hF⟩ := of_if hF
    refine wp_reg_seq tok (orc := orcL []) (fz := []) (l := [1, 2, 5, 6, 7]) (c := _) (.inr fun i h => h) h (by kernel_rfl) (AllP.cons hc114 AllP.nil) ?_
    intro a w h
    refine wp_seq ?_
    refine wp_reg_seq tok (orc := orcL []) (fz := []) (l := [1, 2, 5, 6, 7, 25]) (c := _) (.inr fun i h => h) h (by kernel_rfl) (AllP.nil) ?_
    intro a w h
    refine wp_midT (fun a w => ∃ v : Int, f79.j109 k v97 v98 ((f79.l58 k x0 x1) m58) v = some r ∧ Rel w0 (fun _ => False) Zi Try.f79.ntmps ((fun (v108 : Int) => ([(1, .val .bool x1), (2, .val sh11 (some x0)), (5, .val sh13 v97), (6, .val (.int .i64) v98), (7, .val (.int .i64) v108)] : SS)) v) a w) ?_ ?_
    ·
      refine wp_if h (b := x1) (by kernel_rfl) (fun hb => ?_) (fun hb => ?_)
      · replace hF := of_t hb hF
        obtain ⟨hc113, hF⟩ := of_if hF
        refine wp_reg tok (orc := orcL []) (fz := []) (l := [1, 2, 5, 6, 7]) (c := _) (.inr fun i h => h) h (by kernel_rfl) (AllP.cons hc113 AllP.nil) ?_
        intro a w h
        exact ⟨(List.getD x0.2.1 (Int.toNat v98) ((0 : Int), ((0 : Int), ((0 : Int), ((0 : Int), ((0 : Int), (⟨#[]⟩ : ByteArray))))))).2.1, hF, h.arrive (fz := []) (l := [1, 2, 5, 6, 7]) (.inr fun i h => h) (by kernel_rfl)⟩
      · replace hF := of_f hb hF
        refine wp_skip ?_
        exact ⟨(List.getD x0.2.1 (Int.toNat v98) ((0 : Int), ((0 : Int), ((0 : Int), ((0 : Int), ((0 : Int), (⟨#[]⟩ : ByteArray))))))).1, hF, h.arrive (fz := []) (l := [1, 2, 5, 6, 7]) (.inr fun i h => h) (by kernel_rfl)⟩
    · rintro a w ⟨v108, hF, h⟩
      rw [f79.j109] at hF
      obtain ⟨hc110, hF⟩ := of_if hF
      obtain ⟨hc111, hF⟩ := of_if hF
      obtain ⟨hc112, hF⟩ := of_if hF
      refine wp_reg tok (orc := orcL [(40, [⟨.pt false 4294967293 .unit, some ()⟩])]) (fz := []) (l := [1, 2, 5, 6]) (c := _) (.inr fun i h => h) h (by kernel_rfl) (AllP.cons hc110 (AllP.cons (PrefL.mk (l := [[], [], [.idx (Int.toNat v108)], [.idx (Int.toNat v108)]]) (p := [.idx (Int.toNat v108)]) rfl) (AllP.cons hc111 (AllP.cons hc112 (AllP.cons (show ([.idx (Int.toNat v108)] : Path) = [.idx (Int.toNat v108)] from rfl) AllP.nil))))) ?_
      intro a w h
      refine wp_reg tok (orc := orcL []) (fz := []) (l := [1, 2, 5, 6]) (c := _) (.inr fun i h => h) h (by kernel_rfl) (AllP.nil) ?_
      intro a w h
      exact ⟨((List.set v97 (Int.toNat v108) (List.append (List.getD v97 (Int.toNat v108) ([] : (List Int))) [v98])), (IntKind.i64.wrap (v98 + (1 : Int)))), hF, h.arrive (fz := []) (l := [1, 2, 5, 6]) (.inr fun i h => h) (by kernel_rfl)⟩
  · replace hF := of_f hb hF
    refine wp_exit ?_
    refine wp_reg_seq tok (orc := orcL []) (fz := []) (l := [4, 5]) (c := _) (.inr fun i h => h) h (by kernel_rfl) (AllP.nil) ?_
    intro a w h
    cases hF
    exact wp_ret (ret_okR tok h rfl (by kernel_rfl)).1

def f71.l22 (k : Nat) (x0 : ((List (Int × (Int × Int))) × ((List (Int × (Int × (Int × (Int × (Int × ByteArray)))))) × (List (Int × Int))))) (x1 : Int) (x2 : Int) : Nat → (Int × Int) → Option Bool
  | 0, _ => none
  | m22 + 1, (v37, v38) => if (decide ((v37 : Int) < v38)) then (if (((2 : Int) : Int) ≠ 0) then (if (0 ≤ (IntKind.i64.wrap (Int.tdiv (IntKind.i64.wrap (v37 + v38)) (2 : Int))) ∧ (IntKind.i64.wrap (Int.tdiv (IntKind.i64.wrap (v37 + v38)) (2 : Int))) < (List.length x0.2.2 : Int)) then ((f104 k (List.getD x0.2.2 (Int.toNat (IntKind.i64.wrap (Int.tdiv (IntKind.i64.wrap (v37 + v38)) (2 : Int)))) ((0 : Int), (0 : Int))) (x1, x2)).bind fun r39 => (if r39 then ((f71.l22 k x0 x1 x2) m22 ((IntKind.i64.wrap ((IntKind.i64.wrap (Int.tdiv (IntKind.i64.wrap (v37 + v38)) (2 : Int))) + (1 : Int))), v38)) else ((f71.l22 k x0 x1 x2) m22 (v37, (IntKind.i64.wrap (Int.tdiv (IntKind.i64.wrap (v37 + v38)) (2 : Int))))))) else none) else none) else (if (((decide ((v37 : Int) < (List.length x0.2.2 : Int))) = true) → (0 ≤ v37 ∧ v37 < (List.length x0.2.2 : Int))) then (some (bif (decide ((v37 : Int) < (List.length x0.2.2 : Int))) then (Sh.beq sh5 (List.getD x0.2.2 (Int.toNat v37) ((0 : Int), (0 : Int))) (x1, x2)) else false)) else none)
def f71 (k : Nat) (x0 : ((List (Int × (Int × Int))) × ((List (Int × (Int × (Int × (Int × (Int × ByteArray)))))) × (List (Int × Int))))) (x1 : Int) (x2 : Int) : Option Bool := f71.l22 k x0 x1 x2 k ((0 : Int), (List.length x0.2.2 : Int))
set_option maxRecDepth 100000 in
/-- 'spec.l9Banned'. -/
theorem c71 (k : Nat) (x0 : ((List (Int × (Int × Int))) × ((List (Int × (Int × (Int × (Int × (Int × ByteArray)))))) × (List (Int × Int))))) (x1 : Int) (x2 : Int) (r : Bool) (hF : f71 k x0 x1 x2 = some r) : PCall Try.prog 71 [⟨sh12, x0⟩, ⟨(.int .i64), x1⟩, ⟨(.int .i64), x2⟩] [⟨.bool, r⟩] := by
  refine pcall_intro Try.func71 rfl rfl (Nat.le_of_ble_eq_true rfl) ?_
  intro w0 Zi a w h
  rw [f71] at hF
  refine wp_reg_seq tok (orc := orcL []) (fz := []) (l := [1, 2, 3]) (c := _) (.inr fun i h => h) h (by kernel_rfl) (AllP.nil) ?_
  intro a w h
  refine wp_reg_seq tok (orc := orcL []) (fz := []) (l := [3, 7]) (c := _) (.inr fun i h => h) h (by kernel_rfl) (AllP.nil) ?_
  intro a w h
  refine wp_reg_seq tok (orc := orcL []) (fz := []) (l := [3, 7, 8]) (c := _) (.inr fun i h => h) h (by kernel_rfl) (AllP.nil) ?_
  intro a w h
  refine wp_reg_seq tok (orc := orcL []) (fz := []) (l := [3, 7, 8, 9]) (c := _) (.inr fun i h => h) h (by kernel_rfl) (AllP.nil) ?_
  intro a w h
  refine wp_seq <| wp_block ?_
  refine wp_loop_fuel (f71.l22 k x0 x1 x2) (fun ((v37, v38) : (Int × Int)) => [(3, .val sh11 (some x0)), (7, .val sh14 (some (x1, x2))), (8, .val (.int .i64) v37), (9, .val (.int .i64) v38)]) (fun v h => by obtain ⟨v37, v38⟩ := v; rw [f71.l22] at h; cases h) ?_ hF (h.arrive (fz := []) (l := [3, 7, 8, 9]) (.inr fun i h => h) (by kernel_rfl))
  intro m22 v a w hF h
  obtain ⟨v37, v38⟩ := v
  rw [f71.l22] at hF
  refine wp_seq ?_
  refine wp_reg_seq tok (orc := orcL []) (fz := []) (l := [3, 7, 8, 9, 19]) (c := _) (.inr fun i h => h) h (by kernel_rfl) (AllP.nil) ?_
  intro a w h
  refine wp_if h (b := (decide ((v37 : Int) < v38))) (by kernel_rfl) (fun hb => ?_) (fun hb => ?_)
  · replace hF := of_t hb hF
    refine wp_skip ?_
    refine wp_block ?_
    obtain ⟨hc42, hF⟩ := of_if hF
    refine wp_reg_seq tok (orc := orcL []) (fz := []) (l := [3, 7, 8, 9, 10]) (c := _) (.inr fun i h => h) h (by kernel_rfl) (AllP.cons hc42 AllP.nil) ?_
    intro a w h
    obtain ⟨hc40, hF⟩ := of_if hF
    obtain ⟨r39, hr41, hF⟩ := of_bind hF
    refine wp_regy_seq tok (orc := orcL [(30, [⟨.bool, r39⟩])]) (fz := []) (l := [3, 7, 8, 9, 10, 30]) (c := _) ([], [], [], []) 7 (.inr fun i h => h) h (by kernel_rfl) (by kernel_rfl) (AllP.cons hc40 (AllP.cons (c104 k (List.getD x0.2.2 (Int.toNat (IntKind.i64.wrap (Int.tdiv (IntKind.i64.wrap (v37 + v38)) (2 : Int)))) ((0 : Int), (0 : Int))) (x1, x2) r39 hr41) AllP.nil)) ?_
    intro a w h
    refine wp_if h (b := r39) (by kernel_rfl) (fun hb => ?_) (fun hb => ?_)
    · replace hF := of_t hb hF
      refine wp_reg tok (orc := orcL []) (fz := []) (l := [3, 7, 8, 9]) (c := _) (.inr fun i h => h) h (by kernel_rfl) (AllP.nil) ?_
      intro a w h
      exact ⟨((IntKind.i64.wrap ((IntKind.i64.wrap (Int.tdiv (IntKind.i64.wrap (v37 + v38)) (2 : Int))) + (1 : Int))), v38), hF, h.arrive (fz := []) (l := [3, 7, 8, 9]) (.inr fun i h => h) (by kernel_rfl)⟩
    · replace hF := of_f hb hF
      refine wp_reg tok (orc := orcL []) (fz := []) (l := [3, 7, 8, 9]) (c := _) (.inr fun i h => h) h (by kernel_rfl) (AllP.nil) ?_
      intro a w h
      exact ⟨(v37, (IntKind.i64.wrap (Int.tdiv (IntKind.i64.wrap (v37 + v38)) (2 : Int)))), hF, h.arrive (fz := []) (l := [3, 7, 8, 9]) (.inr fun i h => h) (by kernel_rfl)⟩
  · replace hF := of_f hb hF
    refine wp_exit ?_
    obtain ⟨hc43, hF⟩ := of_if hF
    refine wp_regy_seq tok (orc := orcL []) (fz := []) (l := [6]) (c := _) ([], [], [], []) 15 (.inr fun i h => h) h (by kernel_rfl) (by kernel_rfl) (AllP.cons hc43 (AllP.cons (fun (_ : ((decide ((v37 : Int) < (List.length x0.2.2 : Int))) = true)) => (And.intro (show eqTy Try.prog 9 82 (.st (.pair (.int .i64) (.int .i64))) = true from by kernel_rfl) (show Try.prog.eqGuardType Try.prog.depth 82 = false from by kernel_rfl))) AllP.nil)) ?_
    intro a w h
    cases hF
    exact wp_ret (ret_okR tok h rfl (by kernel_rfl)).1

def f129 (k : Nat) (x0 : Int) : Option Int := if (decide ((x0 : Int) < (0 : Int))) then (some (IntKind.i64.wrap (0 - x0))) else (some x0)
set_option maxRecDepth 100000 in
/-- 'spec.l1Abs'. -/
theorem c129 (k : Nat) (x0 : Int) (r : Int) (hF : f129 k x0 = some r) : PCall Try.prog 129 [⟨(.int .i64), x0⟩] [⟨(.int .i64), r⟩] := by
  refine pcall_intro Try.func129 rfl rfl (Nat.le_of_ble_eq_true rfl) ?_
  intro w0 Zi a w h
  rw [f129] at hF
  refine wp_reg_seq tok (orc := orcL []) (fz := []) (l := [0]) (c := _) (.inr fun i h => h) h (by kernel_rfl) (AllP.nil) ?_
  intro a w h
  refine wp_seq ?_
  refine wp_reg_seq tok (orc := orcL []) (fz := []) (l := [0, 4]) (c := _) (.inr fun i h => h) h (by kernel_rfl) (AllP.nil) ?_
  intro a w h
  refine wp_if h (b := (decide ((x0 : Int) < (0 : Int)))) (by kernel_rfl) (fun hb => ?_) (fun hb => ?_)
  · replace hF := of_t hb hF
    refine wp_reg_seq tok (orc := orcL []) (fz := []) (l := [2]) (c := _) (.inr fun i h => h) h (by kernel_rfl) (AllP.nil) ?_
    intro a w h
    cases hF
    exact wp_ret (ret_okR tok h rfl (by kernel_rfl)).1
  · replace hF := of_f hb hF
    refine wp_skip ?_
    refine wp_reg_seq tok (orc := orcL []) (fz := []) (l := [2]) (c := _) (.inr fun i h => h) h (by kernel_rfl) (AllP.nil) ?_
    intro a w h
    cases hF
    exact wp_ret (ret_okR tok h rfl (by kernel_rfl)).1

def f114 (k : Nat) (x0 : (Int × Int)) (x1 : (Int × Int)) : Option Int := (f103 k x0).bind fun r1 => ((if ((!r1) = false) then f103 k x1 else some default).bind fun r2 => (if (bif (bif (!r1) then true else (!r2)) then true else (Sh.beq sh5 x0 x1)) then (some (-1 : Int)) else ((f129 k (IntKind.i64.wrap (x1.1 - x0.1))).bind fun r3 => ((f129 k (IntKind.i64.wrap (x1.2 - x0.2))).bind fun r4 => (if (bif (decide (((IntKind.i64.wrap ((5 : Int) * r4)) : Int) < (IntKind.i64.wrap ((2 : Int) * r3)))) then (decide (((IntKind.i64.wrap (x1.1 - x0.1)) : Int) > (0 : Int))) else false) then (some (0 : Int)) else (if (decide (((IntKind.i64.wrap ((5 : Int) * r4)) : Int) < (IntKind.i64.wrap ((2 : Int) * r3)))) then (some (4 : Int)) else (if (bif (decide (((IntKind.i64.wrap ((5 : Int) * r3)) : Int) < (IntKind.i64.wrap ((2 : Int) * r4)))) then (decide (((IntKind.i64.wrap (x1.2 - x0.2)) : Int) > (0 : Int))) else false) then (some (2 : Int)) else (if (decide (((IntKind.i64.wrap ((5 : Int) * r3)) : Int) < (IntKind.i64.wrap ((2 : Int) * r4)))) then (some (6 : Int)) else (if (bif (decide (((IntKind.i64.wrap (x1.1 - x0.1)) : Int) > (0 : Int))) then (decide (((IntKind.i64.wrap (x1.2 - x0.2)) : Int) > (0 : Int))) else false) then (some (1 : Int)) else (if (bif (decide (((IntKind.i64.wrap (x1.1 - x0.1)) : Int) < (0 : Int))) then (decide (((IntKind.i64.wrap (x1.2 - x0.2)) : Int) > (0 : Int))) else false) then (some (3 : Int)) else (if (decide (((IntKind.i64.wrap (x1.1 - x0.1)) : Int) < (0 : Int))) then (some (5 : Int)) else (some (7 : Int)))))))))))))
set_option maxRecDepth 100000 in
/-- 'spec.Heading'. -/
theorem c114 (k : Nat) (x0 : (Int × Int)) (x1 : (Int × Int)) (r : Int) (hF : f114 k x0 x1 = some r) : PCall Try.prog 114 [⟨sh5, x0⟩, ⟨sh5, x1⟩] [⟨(.int .i64), r⟩] := by
  refine pcall_intro Try.func114 rfl rfl (Nat.le_of_ble_eq_true rfl) ?_
  intro w0 Zi a w h
  rw [f114] at hF
  refine wp_reg_seq tok (orc := orcL []) (fz := []) (l := [2, 3]) (c := _) (.inr fun i h => h) h (by kernel_rfl) (AllP.nil) ?_
  intro a w h
  refine wp_seq ?_
  obtain ⟨r1, hr7, hF⟩ := of_bind hF
  obtain ⟨r2, hr8, hF⟩ := of_bind hF
  refine wp_reg_seq tok (orc := orcL [(10, [⟨.bool, r1⟩]), (14, [⟨.bool, r2⟩])]) (fz := []) (l := [2, 3, 21]) (c := _) (.inr fun i h => h) h (by kernel_rfl) (AllP.cons (c103 k x0 r1 hr7) (AllP.cons (fun (hg : ((!r1) = false)) => c103 k x1 r2 (of_g hg hr8)) (AllP.cons (fun (_ : ((bif (!r1) then true else (!r2)) = false)) => (And.intro (show eqTy Try.prog 9 105 (.st (.pair (.int .i64) (.int .i64))) = true from by kernel_rfl) (show Try.prog.eqGuardType Try.prog.depth 105 = false from by kernel_rfl))) AllP.nil))) ?_
  intro a w h
  refine wp_if h (b := (bif (bif (!r1) then true else (!r2)) then true else (Sh.beq sh5 x0 x1))) (by kernel_rfl) (fun hb => ?_) (fun hb => ?_)
  · replace hF := of_t hb hF
    refine wp_reg_seq tok (orc := orcL []) (fz := []) (l := [4]) (c := _) (.inr fun i h => h) h (by kernel_rfl) (AllP.nil) ?_
    intro a w h
    cases hF
    exact wp_ret (ret_okR tok h rfl (by kernel_rfl)).1
  · replace hF := of_f hb hF
    refine wp_skip ?_
    refine wp_reg_seq tok (orc := orcL []) (fz := []) (l := [2, 3, 5]) (c := _) (.inr fun i h => h) h (by kernel_rfl) (AllP.nil) ?_
    intro a w h
    refine wp_reg_seq tok (orc := orcL []) (fz := []) (l := [5, 6]) (c := _) (.inr fun i h => h) h (by kernel_rfl) (AllP.nil) ?_
    intro a w h
    obtain ⟨r3, hr6, hF⟩ := of_bind hF
    refine wp_reg_seq tok (orc := orcL [(33, [⟨(.int .i64), r3⟩])]) (fz := []) (l := [5, 6, 7]) (c := _) (.inr fun i h => h) h (by kernel_rfl) (AllP.cons (c129 k (IntKind.i64.wrap (x1.1 - x0.1)) r3 hr6) AllP.nil) ?_
    intro a w h
    obtain ⟨r4, hr5, hF⟩ := of_bind hF
    refine wp_reg_seq tok (orc := orcL [(35, [⟨(.int .i64), r4⟩])]) (fz := []) (l := [5, 6, 7, 8]) (c := _) (.inr fun i h => h) h (by kernel_rfl) (AllP.cons (c129 k (IntKind.i64.wrap (x1.2 - x0.2)) r4 hr5) AllP.nil) ?_
    intro a w h
    refine wp_seq <| wp_block ?_
    refine wp_reg_seq tok (orc := orcL []) (fz := []) (l := [5, 6, 7, 8, 36]) (c := _) (.inr fun i h => h) h (by kernel_rfl) (AllP.nil) ?_
    intro a w h
    refine wp_if h (b := (bif (decide (((IntKind.i64.wrap ((5 : Int) * r4)) : Int) < (IntKind.i64.wrap ((2 : Int) * r3)))) then (decide (((IntKind.i64.wrap (x1.1 - x0.1)) : Int) > (0 : Int))) else false)) (by kernel_rfl) (fun hb => ?_) (fun hb => ?_)
    · replace hF := of_t hb hF
      refine wp_reg_seq tok (orc := orcL []) (fz := []) (l := [4]) (c := _) (.inr fun i h => h) h (by kernel_rfl) (AllP.nil) ?_
      intro a w h
      cases hF
      exact wp_ret (ret_okR tok h rfl (by kernel_rfl)).1
    · replace hF := of_f hb hF
      refine wp_reg_seq tok (orc := orcL []) (fz := []) (l := [5, 6, 7, 8, 46]) (c := _) (.inr fun i h => h) h (by kernel_rfl) (AllP.nil) ?_
      intro a w h
      refine wp_if h (b := (decide (((IntKind.i64.wrap ((5 : Int) * r4)) : Int) < (IntKind.i64.wrap ((2 : Int) * r3))))) (by kernel_rfl) (fun hb => ?_) (fun hb => ?_)
      · replace hF := of_t hb hF
        refine wp_reg_seq tok (orc := orcL []) (fz := []) (l := [4]) (c := _) (.inr fun i h => h) h (by kernel_rfl) (AllP.nil) ?_
        intro a w h
        cases hF
        exact wp_ret (ret_okR tok h rfl (by kernel_rfl)).1
      · replace hF := of_f hb hF
        refine wp_reg_seq tok (orc := orcL []) (fz := []) (l := [5, 6, 7, 8, 52]) (c := _) (.inr fun i h => h) h (by kernel_rfl) (AllP.nil) ?_
        intro a w h
        refine wp_if h (b := (bif (decide (((IntKind.i64.wrap ((5 : Int) * r3)) : Int) < (IntKind.i64.wrap ((2 : Int) * r4)))) then (decide (((IntKind.i64.wrap (x1.2 - x0.2)) : Int) > (0 : Int))) else false)) (by kernel_rfl) (fun hb => ?_) (fun hb => ?_)
        · replace hF := of_t hb hF
          refine wp_reg_seq tok (orc := orcL []) (fz := []) (l := [4]) (c := _) (.inr fun i h => h) h (by kernel_rfl) (AllP.nil) ?_
          intro a w h
          cases hF
          exact wp_ret (ret_okR tok h rfl (by kernel_rfl)).1
        · replace hF := of_f hb hF
          refine wp_reg_seq tok (orc := orcL []) (fz := []) (l := [5, 6, 62]) (c := _) (.inr fun i h => h) h (by kernel_rfl) (AllP.nil) ?_
          intro a w h
          refine wp_if h (b := (decide (((IntKind.i64.wrap ((5 : Int) * r3)) : Int) < (IntKind.i64.wrap ((2 : Int) * r4))))) (by kernel_rfl) (fun hb => ?_) (fun hb => ?_)
          · replace hF := of_t hb hF
            refine wp_reg_seq tok (orc := orcL []) (fz := []) (l := [4]) (c := _) (.inr fun i h => h) h (by kernel_rfl) (AllP.nil) ?_
            intro a w h
            cases hF
            exact wp_ret (ret_okR tok h rfl (by kernel_rfl)).1
          · replace hF := of_f hb hF
            refine wp_reg_seq tok (orc := orcL []) (fz := []) (l := [5, 6, 68]) (c := _) (.inr fun i h => h) h (by kernel_rfl) (AllP.nil) ?_
            intro a w h
            refine wp_if h (b := (bif (decide (((IntKind.i64.wrap (x1.1 - x0.1)) : Int) > (0 : Int))) then (decide (((IntKind.i64.wrap (x1.2 - x0.2)) : Int) > (0 : Int))) else false)) (by kernel_rfl) (fun hb => ?_) (fun hb => ?_)
            · replace hF := of_t hb hF
              refine wp_reg_seq tok (orc := orcL []) (fz := []) (l := [4]) (c := _) (.inr fun i h => h) h (by kernel_rfl) (AllP.nil) ?_
              intro a w h
              cases hF
              exact wp_ret (ret_okR tok h rfl (by kernel_rfl)).1
            · replace hF := of_f hb hF
              refine wp_reg_seq tok (orc := orcL []) (fz := []) (l := [5, 75]) (c := _) (.inr fun i h => h) h (by kernel_rfl) (AllP.nil) ?_
              intro a w h
              refine wp_if h (b := (bif (decide (((IntKind.i64.wrap (x1.1 - x0.1)) : Int) < (0 : Int))) then (decide (((IntKind.i64.wrap (x1.2 - x0.2)) : Int) > (0 : Int))) else false)) (by kernel_rfl) (fun hb => ?_) (fun hb => ?_)
              · replace hF := of_t hb hF
                refine wp_reg_seq tok (orc := orcL []) (fz := []) (l := [4]) (c := _) (.inr fun i h => h) h (by kernel_rfl) (AllP.nil) ?_
                intro a w h
                cases hF
                exact wp_ret (ret_okR tok h rfl (by kernel_rfl)).1
              · replace hF := of_f hb hF
                refine wp_reg_seq tok (orc := orcL []) (fz := []) (l := [82]) (c := _) (.inr fun i h => h) h (by kernel_rfl) (AllP.nil) ?_
                intro a w h
                refine wp_if h (b := (decide (((IntKind.i64.wrap (x1.1 - x0.1)) : Int) < (0 : Int)))) (by kernel_rfl) (fun hb => ?_) (fun hb => ?_)
                · replace hF := of_t hb hF
                  refine wp_reg_seq tok (orc := orcL []) (fz := []) (l := [4]) (c := _) (.inr fun i h => h) h (by kernel_rfl) (AllP.nil) ?_
                  intro a w h
                  cases hF
                  exact wp_ret (ret_okR tok h rfl (by kernel_rfl)).1
                · replace hF := of_f hb hF
                  refine wp_skip ?_
                  refine wp_reg_seq tok (orc := orcL []) (fz := []) (l := [4]) (c := _) (.inr fun i h => h) h (by kernel_rfl) (AllP.nil) ?_
                  intro a w h
                  cases hF
                  exact wp_ret (ret_okR tok h rfl (by kernel_rfl)).1

def f76.j11 (k : Nat) : Bool → Option Int
  | v10 => if v10 then (some (3 : Int)) else (some (0 : Int))
def f76.j9 (k : Nat) (r3 : Int) (r2 : Int) : Bool → Option Int
  | v8 => if v8 then (some (5 : Int)) else (if (((Int.tmod (IntKind.i64.wrap ((IntKind.i64.wrap (r3 - r2)) + (8 : Int))) (8 : Int)) : Int) == (5 : Int)) then (f76.j11 k (((Int.tmod (IntKind.i64.wrap ((IntKind.i64.wrap (r3 - r2)) + (8 : Int))) (8 : Int)) : Int) == (5 : Int))) else (f76.j11 k (((Int.tmod (IntKind.i64.wrap ((IntKind.i64.wrap (r3 - r2)) + (8 : Int))) (8 : Int)) : Int) == (6 : Int))))
def f76 (k : Nat) (x0 : ((List (Int × (Int × Int))) × ((List (Int × (Int × (Int × (Int × (Int × ByteArray)))))) × (List (Int × Int))))) (x1 : Int) (x2 : Int) : Option Int := (f71 k x0 x1 x2).bind fun r1 => (if r1 then (some (-1 : Int)) else (if (0 ≤ x1 ∧ x1 < (List.length x0.2.1 : Int)) then (if (0 ≤ x2 ∧ x2 < (List.length x0.2.1 : Int)) then (if (((List.getD x0.2.1 (Int.toNat x2) ((0 : Int), ((0 : Int), ((0 : Int), ((0 : Int), ((0 : Int), (⟨#[]⟩ : ByteArray))))))).2.1 : Int) == (List.getD x0.2.1 (Int.toNat x1) ((0 : Int), ((0 : Int), ((0 : Int), ((0 : Int), ((0 : Int), (⟨#[]⟩ : ByteArray))))))).1) then (some (20 : Int)) else (if (0 ≤ (List.getD x0.2.1 (Int.toNat x1) ((0 : Int), ((0 : Int), ((0 : Int), ((0 : Int), ((0 : Int), (⟨#[]⟩ : ByteArray))))))).1 ∧ (List.getD x0.2.1 (Int.toNat x1) ((0 : Int), ((0 : Int), ((0 : Int), ((0 : Int), ((0 : Int), (⟨#[]⟩ : ByteArray))))))).1 < (List.length x0.1 : Int)) then (if (0 ≤ (List.getD x0.2.1 (Int.toNat x1) ((0 : Int), ((0 : Int), ((0 : Int), ((0 : Int), ((0 : Int), (⟨#[]⟩ : ByteArray))))))).2.1 ∧ (List.getD x0.2.1 (Int.toNat x1) ((0 : Int), ((0 : Int), ((0 : Int), ((0 : Int), ((0 : Int), (⟨#[]⟩ : ByteArray))))))).2.1 < (List.length x0.1 : Int)) then ((f114 k (List.getD x0.1 (Int.toNat (List.getD x0.2.1 (Int.toNat x1) ((0 : Int), ((0 : Int), ((0 : Int), ((0 : Int), ((0 : Int), (⟨#[]⟩ : ByteArray))))))).1) ((0 : Int), ((0 : Int), (0 : Int)))).2 (List.getD x0.1 (Int.toNat (List.getD x0.2.1 (Int.toNat x1) ((0 : Int), ((0 : Int), ((0 : Int), ((0 : Int), ((0 : Int), (⟨#[]⟩ : ByteArray))))))).2.1) ((0 : Int), ((0 : Int), (0 : Int)))).2).bind fun r2 => (if (0 ≤ (List.getD x0.2.1 (Int.toNat x2) ((0 : Int), ((0 : Int), ((0 : Int), ((0 : Int), ((0 : Int), (⟨#[]⟩ : ByteArray))))))).1 ∧ (List.getD x0.2.1 (Int.toNat x2) ((0 : Int), ((0 : Int), ((0 : Int), ((0 : Int), ((0 : Int), (⟨#[]⟩ : ByteArray))))))).1 < (List.length x0.1 : Int)) then (if (0 ≤ (List.getD x0.2.1 (Int.toNat x2) ((0 : Int), ((0 : Int), ((0 : Int), ((0 : Int), ((0 : Int), (⟨#[]⟩ : ByteArray))))))).2.1 ∧ (List.getD x0.2.1 (Int.toNat x2) ((0 : Int), ((0 : Int), ((0 : Int), ((0 : Int), ((0 : Int), (⟨#[]⟩ : ByteArray))))))).2.1 < (List.length x0.1 : Int)) then ((f114 k (List.getD x0.1 (Int.toNat (List.getD x0.2.1 (Int.toNat x2) ((0 : Int), ((0 : Int), ((0 : Int), ((0 : Int), ((0 : Int), (⟨#[]⟩ : ByteArray))))))).1) ((0 : Int), ((0 : Int), (0 : Int)))).2 (List.getD x0.1 (Int.toNat (List.getD x0.2.1 (Int.toNat x2) ((0 : Int), ((0 : Int), ((0 : Int), ((0 : Int), ((0 : Int), (⟨#[]⟩ : ByteArray))))))).2.1) ((0 : Int), ((0 : Int), (0 : Int)))).2).bind fun r3 => (if (bif (decide ((r2 : Int) < (0 : Int))) then true else (decide ((r3 : Int) < (0 : Int)))) then (some (0 : Int)) else (if (((8 : Int) : Int) ≠ 0) then (if (((Int.tmod (IntKind.i64.wrap ((IntKind.i64.wrap (r3 - r2)) + (8 : Int))) (8 : Int)) : Int) == (2 : Int)) then (f76.j9 k r3 r2 (((Int.tmod (IntKind.i64.wrap ((IntKind.i64.wrap (r3 - r2)) + (8 : Int))) (8 : Int)) : Int) == (2 : Int))) else (if (((Int.tmod (IntKind.i64.wrap ((IntKind.i64.wrap (r3 - r2)) + (8 : Int))) (8 : Int)) : Int) == (3 : Int)) then (f76.j9 k r3 r2 (((Int.tmod (IntKind.i64.wrap ((IntKind.i64.wrap (r3 - r2)) + (8 : Int))) (8 : Int)) : Int) == (3 : Int))) else (f76.j9 k r3 r2 (((Int.tmod (IntKind.i64.wrap ((IntKind.i64.wrap (r3 - r2)) + (8 : Int))) (8 : Int)) : Int) == (4 : Int))))) else none))) else none) else none)) else none) else none)) else none) else none))
set_option maxRecDepth 100000 in
/-- 'spec.l10Turn'. -/
theorem c76 (k : Nat) (x0 : ((List (Int × (Int × Int))) × ((List (Int × (Int × (Int × (Int × (Int × ByteArray)))))) × (List (Int × Int))))) (x1 : Int) (x2 : Int) (r : Int) (hF : f76 k x0 x1 x2 = some r) : PCall Try.prog 76 [⟨sh12, x0⟩, ⟨(.int .i64), x1⟩, ⟨(.int .i64), x2⟩] [⟨(.int .i64), r⟩] := by
  refine pcall_intro Try.func76 rfl rfl (Nat.le_of_ble_eq_true rfl) ?_
  intro w0 Zi a w h
  rw [f76] at hF
  refine wp_reg_seq tok (orc := orcL []) (fz := []) (l := [1, 2, 3]) (c := _) (.inr fun i h => h) h (by kernel_rfl) (AllP.nil) ?_
  intro a w h
  refine wp_seq ?_
  obtain ⟨r1, hr21, hF⟩ := of_bind hF
  refine wp_reg_seq tok (orc := orcL [(14, [⟨.bool, r1⟩])]) (fz := []) (l := [1, 2, 3, 14]) (c := _) (.inr fun i h => h) h (by kernel_rfl) (AllP.cons (c71 k x0 x1 x2 r1 hr21) AllP.nil) ?_
  intro a w h
  refine wp_if h (b := r1) (by kernel_rfl) (fun hb => ?_) (fun hb => ?_)
  · replace hF := of_t hb hF
    refine wp_reg_seq tok (orc := orcL []) (fz := []) (l := [6]) (c := _) (.inr fun i h => h) h (by kernel_rfl) (AllP.nil) ?_
    intro a w h
    cases hF
    exact wp_ret (ret_okR tok h rfl (by kernel_rfl)).1
  · replace hF := of_f hb hF
    refine wp_skip ?_
    obtain ⟨hc20, hF⟩ := of_if hF
    refine wp_reg_seq tok (orc := orcL []) (fz := []) (l := [2, 3, 7]) (c := _) (.inr fun i h => h) h (by kernel_rfl) (AllP.cons hc20 AllP.nil) ?_
    intro a w h
    obtain ⟨hc19, hF⟩ := of_if hF
    refine wp_reg_seq tok (orc := orcL []) (fz := []) (l := [3, 7, 8]) (c := _) (.inr fun i h => h) h (by kernel_rfl) (AllP.cons hc19 AllP.nil) ?_
    intro a w h
    refine wp_seq ?_
    refine wp_reg_seq tok (orc := orcL []) (fz := []) (l := [3, 7, 8, 29]) (c := _) (.inr fun i h => h) h (by kernel_rfl) (AllP.nil) ?_
    intro a w h
    refine wp_if h (b := (((List.getD x0.2.1 (Int.toNat x2) ((0 : Int), ((0 : Int), ((0 : Int), ((0 : Int), ((0 : Int), (⟨#[]⟩ : ByteArray))))))).2.1 : Int) == (List.getD x0.2.1 (Int.toNat x1) ((0 : Int), ((0 : Int), ((0 : Int), ((0 : Int), ((0 : Int), (⟨#[]⟩ : ByteArray))))))).1)) (by kernel_rfl) (fun hb => ?_) (fun hb => ?_)
    · replace hF := of_t hb hF
      refine wp_reg_seq tok (orc := orcL []) (fz := []) (l := [6]) (c := _) (.inr fun i h => h) h (by kernel_rfl) (AllP.nil) ?_
      intro a w h
      cases hF
      exact wp_ret (ret_okR tok h rfl (by kernel_rfl)).1
    · replace hF := of_f hb hF
      refine wp_skip ?_
      obtain ⟨hc16, hF⟩ := of_if hF
      obtain ⟨hc17, hF⟩ := of_if hF
      obtain ⟨r2, hr18, hF⟩ := of_bind hF
      refine wp_regy_seq tok (orc := orcL [(44, [⟨(.int .i64), r2⟩])]) (fz := []) (l := [3, 8, 9]) (c := _) ([], [], [], []) 16 (.inr fun i h => h) h (by kernel_rfl) (by kernel_rfl) (AllP.cons hc16 (AllP.cons hc17 (AllP.cons (c114 k (List.getD x0.1 (Int.toNat (List.getD x0.2.1 (Int.toNat x1) ((0 : Int), ((0 : Int), ((0 : Int), ((0 : Int), ((0 : Int), (⟨#[]⟩ : ByteArray))))))).1) ((0 : Int), ((0 : Int), (0 : Int)))).2 (List.getD x0.1 (Int.toNat (List.getD x0.2.1 (Int.toNat x1) ((0 : Int), ((0 : Int), ((0 : Int), ((0 : Int), ((0 : Int), (⟨#[]⟩ : ByteArray))))))).2.1) ((0 : Int), ((0 : Int), (0 : Int)))).2 r2 hr18) AllP.nil))) ?_
      intro a w h
      obtain ⟨hc13, hF⟩ := of_if hF
      obtain ⟨hc14, hF⟩ := of_if hF
      obtain ⟨r3, hr15, hF⟩ := of_bind hF
      refine wp_regy_seq tok (orc := orcL [(59, [⟨(.int .i64), r3⟩])]) (fz := []) (l := [9, 10]) (c := _) ([], [], [], []) 16 (.inr fun i h => h) h (by kernel_rfl) (by kernel_rfl) (AllP.cons hc13 (AllP.cons hc14 (AllP.cons (c114 k (List.getD x0.1 (Int.toNat (List.getD x0.2.1 (Int.toNat x2) ((0 : Int), ((0 : Int), ((0 : Int), ((0 : Int), ((0 : Int), (⟨#[]⟩ : ByteArray))))))).1) ((0 : Int), ((0 : Int), (0 : Int)))).2 (List.getD x0.1 (Int.toNat (List.getD x0.2.1 (Int.toNat x2) ((0 : Int), ((0 : Int), ((0 : Int), ((0 : Int), ((0 : Int), (⟨#[]⟩ : ByteArray))))))).2.1) ((0 : Int), ((0 : Int), (0 : Int)))).2 r3 hr15) AllP.nil))) ?_
      intro a w h
      refine wp_seq ?_
      refine wp_reg_seq tok (orc := orcL []) (fz := []) (l := [9, 10, 65]) (c := _) (.inr fun i h => h) h (by kernel_rfl) (AllP.nil) ?_
      intro a w h
      refine wp_if h (b := (bif (decide ((r2 : Int) < (0 : Int))) then true else (decide ((r3 : Int) < (0 : Int))))) (by kernel_rfl) (fun hb => ?_) (fun hb => ?_)
      · replace hF := of_t hb hF
        refine wp_reg_seq tok (orc := orcL []) (fz := []) (l := [6]) (c := _) (.inr fun i h => h) h (by kernel_rfl) (AllP.nil) ?_
        intro a w h
        cases hF
        exact wp_ret (ret_okR tok h rfl (by kernel_rfl)).1
      · replace hF := of_f hb hF
        refine wp_skip ?_
        refine wp_seq ?_
        obtain ⟨hc12, hF⟩ := of_if hF
        refine wp_reg_seq tok (orc := orcL []) (fz := []) (l := [70]) (c := _) (.inr fun i h => h) h (by kernel_rfl) (AllP.cons hc12 AllP.nil) ?_
        intro a w h
        refine wp_block ?_
        refine wp_seq ?_
        refine wp_reg_seq tok (orc := orcL []) (fz := []) (l := [70, 71]) (c := _) (.inr fun i h => h) h (by kernel_rfl) (AllP.nil) ?_
        intro a w h
        refine wp_midT (fun a w => ∃ v : Bool, f76.j9 k r3 r2 v = some r ∧ Rel w0 (fun _ => False) Zi Try.f76.ntmps ((fun (v8 : Bool) => ([(70, .val (.int .i64) (Int.tmod (IntKind.i64.wrap ((IntKind.i64.wrap (r3 - r2)) + (8 : Int))) (8 : Int))), (71, .val .bool v8)] : SS)) v) a w) ?_ ?_
        ·
          refine wp_if h (b := (((Int.tmod (IntKind.i64.wrap ((IntKind.i64.wrap (r3 - r2)) + (8 : Int))) (8 : Int)) : Int) == (2 : Int))) (by kernel_rfl) (fun hb => ?_) (fun hb => ?_)
          · replace hF := of_t hb hF
            refine wp_skip ?_
            exact ⟨(((Int.tmod (IntKind.i64.wrap ((IntKind.i64.wrap (r3 - r2)) + (8 : Int))) (8 : Int)) : Int) == (2 : Int)), hF, h.arrive (fz := []) (l := [70, 71]) (.inr fun i h => h) (by kernel_rfl)⟩
          · replace hF := of_f hb hF
            refine wp_reg_seq tok (orc := orcL []) (fz := []) (l := [70, 71]) (c := _) (.inr fun i h => h) h (by kernel_rfl) (AllP.nil) ?_
            intro a w h
            refine wp_if h (b := (((Int.tmod (IntKind.i64.wrap ((IntKind.i64.wrap (r3 - r2)) + (8 : Int))) (8 : Int)) : Int) == (3 : Int))) (by kernel_rfl) (fun hb => ?_) (fun hb => ?_)
            · replace hF := of_t hb hF
              refine wp_skip ?_
              exact ⟨(((Int.tmod (IntKind.i64.wrap ((IntKind.i64.wrap (r3 - r2)) + (8 : Int))) (8 : Int)) : Int) == (3 : Int)), hF, h.arrive (fz := []) (l := [70, 71]) (.inr fun i h => h) (by kernel_rfl)⟩
            · replace hF := of_f hb hF
              refine wp_reg tok (orc := orcL []) (fz := []) (l := [70, 71]) (c := _) (.inr fun i h => h) h (by kernel_rfl) (AllP.nil) ?_
              intro a w h
              exact ⟨(((Int.tmod (IntKind.i64.wrap ((IntKind.i64.wrap (r3 - r2)) + (8 : Int))) (8 : Int)) : Int) == (4 : Int)), hF, h.arrive (fz := []) (l := [70, 71]) (.inr fun i h => h) (by kernel_rfl)⟩
        · rintro a w ⟨v8, hF, h⟩
          rw [f76.j9] at hF
          refine wp_if h (b := v8) (by kernel_rfl) (fun hb => ?_) (fun hb => ?_)
          · replace hF := of_t hb hF
            refine wp_reg_seq tok (orc := orcL []) (fz := []) (l := [6]) (c := _) (.inr fun i h => h) h (by kernel_rfl) (AllP.nil) ?_
            intro a w h
            cases hF
            exact wp_ret (ret_okR tok h rfl (by kernel_rfl)).1
          · replace hF := of_f hb hF
            refine wp_seq ?_
            refine wp_reg_seq tok (orc := orcL []) (fz := []) (l := [70, 75]) (c := _) (.inr fun i h => h) h (by kernel_rfl) (AllP.nil) ?_
            intro a w h
            refine wp_midT (fun a w => ∃ v : Bool, f76.j11 k v = some r ∧ Rel w0 (fun _ => False) Zi Try.f76.ntmps ((fun (v10 : Bool) => ([(75, .val .bool v10)] : SS)) v) a w) ?_ ?_
            ·
              refine wp_if h (b := (((Int.tmod (IntKind.i64.wrap ((IntKind.i64.wrap (r3 - r2)) + (8 : Int))) (8 : Int)) : Int) == (5 : Int))) (by kernel_rfl) (fun hb => ?_) (fun hb => ?_)
              · replace hF := of_t hb hF
                refine wp_skip ?_
                exact ⟨(((Int.tmod (IntKind.i64.wrap ((IntKind.i64.wrap (r3 - r2)) + (8 : Int))) (8 : Int)) : Int) == (5 : Int)), hF, h.arrive (fz := []) (l := [75]) (.inr fun i h => h) (by kernel_rfl)⟩
              · replace hF := of_f hb hF
                refine wp_reg tok (orc := orcL []) (fz := []) (l := [75]) (c := _) (.inr fun i h => h) h (by kernel_rfl) (AllP.nil) ?_
                intro a w h
                exact ⟨(((Int.tmod (IntKind.i64.wrap ((IntKind.i64.wrap (r3 - r2)) + (8 : Int))) (8 : Int)) : Int) == (6 : Int)), hF, h.arrive (fz := []) (l := [75]) (.inr fun i h => h) (by kernel_rfl)⟩
            · rintro a w ⟨v10, hF, h⟩
              rw [f76.j11] at hF
              refine wp_if h (b := v10) (by kernel_rfl) (fun hb => ?_) (fun hb => ?_)
              · replace hF := of_t hb hF
                refine wp_reg_seq tok (orc := orcL []) (fz := []) (l := [6]) (c := _) (.inr fun i h => h) h (by kernel_rfl) (AllP.nil) ?_
                intro a w h
                cases hF
                exact wp_ret (ret_okR tok h rfl (by kernel_rfl)).1
              · replace hF := of_f hb hF
                refine wp_skip ?_
                refine wp_reg_seq tok (orc := orcL []) (fz := []) (l := [6]) (c := _) (.inr fun i h => h) h (by kernel_rfl) (AllP.nil) ?_
                intro a w h
                cases hF
                exact wp_ret (ret_okR tok h rfl (by kernel_rfl)).1

def f94.j1658 (k : Nat) (v1652 : Int) (q1624 : (Int × Int) → Option (List Int)) : Int → Option (List Int)
  | v1657 => q1624 (v1657, (IntKind.i64.wrap (v1652 + (1 : Int))))
def f94.j1817 (k : Nat) (v1790 : Int) (q1668 : ((List Int) × (List Int) × Int) → Option (List Int)) : ((List Int) × (List Int)) → Option (List Int)
  | (v1815, v1816) => q1668 (v1815, v1816, (IntKind.i64.wrap (v1790 + (1 : Int))))
def f94.j1825 (k : Nat) (v1790 : Int) (r31 : (List (List Int))) (x0 : ((List (Int × (Int × Int))) × ((List (Int × (Int × (Int × (Int × (Int × ByteArray)))))) × (List (Int × Int))))) (v1584 : (List Int)) (v1651 : Int) (v1788 : (List Int)) (v1819 : Int) (q1817 : ((List Int) × (List Int)) → Option (List Int)) : (List Int) → Option (List Int)
  | v1824 => if (0 ≤ v1790 ∧ v1790 < (List.length (List.getD r31 (Int.toNat (List.getD x0.2.1 (Int.toNat (List.getD v1584 (Int.toNat v1651) (0 : Int))) ((0 : Int), ((0 : Int), ((0 : Int), ((0 : Int), ((0 : Int), (⟨#[]⟩ : ByteArray))))))).2.1) ([] : (List Int))) : Int)) then (if (0 ≤ (List.getD (List.getD r31 (Int.toNat (List.getD x0.2.1 (Int.toNat (List.getD v1584 (Int.toNat v1651) (0 : Int))) ((0 : Int), ((0 : Int), ((0 : Int), ((0 : Int), ((0 : Int), (⟨#[]⟩ : ByteArray))))))).2.1) ([] : (List Int))) (Int.toNat v1790) (0 : Int)) ∧ (List.getD (List.getD r31 (Int.toNat (List.getD x0.2.1 (Int.toNat (List.getD v1584 (Int.toNat v1651) (0 : Int))) ((0 : Int), ((0 : Int), ((0 : Int), ((0 : Int), ((0 : Int), (⟨#[]⟩ : ByteArray))))))).2.1) ([] : (List Int))) (Int.toNat v1790) (0 : Int)) < (List.length v1788 : Int)) then (q1817 ((List.set v1788 (Int.toNat (List.getD (List.getD r31 (Int.toNat (List.getD x0.2.1 (Int.toNat (List.getD v1584 (Int.toNat v1651) (0 : Int))) ((0 : Int), ((0 : Int), ((0 : Int), ((0 : Int), ((0 : Int), (⟨#[]⟩ : ByteArray))))))).2.1) ([] : (List Int))) (Int.toNat v1790) (0 : Int))) v1819), v1824)) else none) else none
def f94.l1668 (k : Nat) (r31 : (List (List Int))) (x0 : ((List (Int × (Int × Int))) × ((List (Int × (Int × (Int × (Int × (Int × ByteArray)))))) × (List (Int × Int))))) (v1584 : (List Int)) (v1651 : Int) (v1583 : (List Bool)) (v1666 : (List Int)) (q1028 : ((List Int) × (List Int) × (List Bool) × (List Int)) → Option (List Int)) : Nat → ((List Int) × (List Int) × Int) → Option (List Int)
  | 0, _ => none
  | m1668 + 1, (v1788, v1789, v1790) => if (decide ((v1790 : Int) < (List.length (List.getD r31 (Int.toNat (List.getD x0.2.1 (Int.toNat (List.getD v1584 (Int.toNat v1651) (0 : Int))) ((0 : Int), ((0 : Int), ((0 : Int), ((0 : Int), ((0 : Int), (⟨#[]⟩ : ByteArray))))))).2.1) ([] : (List Int))) : Int))) then (if (0 ≤ v1790 ∧ v1790 < (List.length (List.getD r31 (Int.toNat (List.getD x0.2.1 (Int.toNat (List.getD v1584 (Int.toNat v1651) (0 : Int))) ((0 : Int), ((0 : Int), ((0 : Int), ((0 : Int), ((0 : Int), (⟨#[]⟩ : ByteArray))))))).2.1) ([] : (List Int))) : Int)) then ((f76 k x0 (List.getD v1584 (Int.toNat v1651) (0 : Int)) (List.getD (List.getD r31 (Int.toNat (List.getD x0.2.1 (Int.toNat (List.getD v1584 (Int.toNat v1651) (0 : Int))) ((0 : Int), ((0 : Int), ((0 : Int), ((0 : Int), ((0 : Int), (⟨#[]⟩ : ByteArray))))))).2.1) ([] : (List Int))) (Int.toNat v1790) (0 : Int))).bind fun r1818 => (if (0 ≤ v1790 ∧ v1790 < (List.length (List.getD r31 (Int.toNat (List.getD x0.2.1 (Int.toNat (List.getD v1584 (Int.toNat v1651) (0 : Int))) ((0 : Int), ((0 : Int), ((0 : Int), ((0 : Int), ((0 : Int), (⟨#[]⟩ : ByteArray))))))).2.1) ([] : (List Int))) : Int)) then (if (0 ≤ (List.getD (List.getD r31 (Int.toNat (List.getD x0.2.1 (Int.toNat (List.getD v1584 (Int.toNat v1651) (0 : Int))) ((0 : Int), ((0 : Int), ((0 : Int), ((0 : Int), ((0 : Int), (⟨#[]⟩ : ByteArray))))))).2.1) ([] : (List Int))) (Int.toNat v1790) (0 : Int)) ∧ (List.getD (List.getD r31 (Int.toNat (List.getD x0.2.1 (Int.toNat (List.getD v1584 (Int.toNat v1651) (0 : Int))) ((0 : Int), ((0 : Int), ((0 : Int), ((0 : Int), ((0 : Int), (⟨#[]⟩ : ByteArray))))))).2.1) ([] : (List Int))) (Int.toNat v1790) (0 : Int)) < (List.length (List.set v1583 (Int.toNat (List.getD v1584 (Int.toNat v1651) (0 : Int))) true) : Int)) then (if (bif (List.getD (List.set v1583 (Int.toNat (List.getD v1584 (Int.toNat v1651) (0 : Int))) true) (Int.toNat (List.getD (List.getD r31 (Int.toNat (List.getD x0.2.1 (Int.toNat (List.getD v1584 (Int.toNat v1651) (0 : Int))) ((0 : Int), ((0 : Int), ((0 : Int), ((0 : Int), ((0 : Int), (⟨#[]⟩ : ByteArray))))))).2.1) ([] : (List Int))) (Int.toNat v1790) (0 : Int))) false) then true else (decide ((r1818 : Int) < (0 : Int)))) then (f94.j1817 k v1790 ((f94.l1668 k r31 x0 v1584 v1651 v1583 v1666 q1028) m1668) (v1788, v1789)) else (if (0 ≤ (List.getD v1584 (Int.toNat v1651) (0 : Int)) ∧ (List.getD v1584 (Int.toNat v1651) (0 : Int)) < (List.length v1788 : Int)) then (if (0 ≤ v1790 ∧ v1790 < (List.length (List.getD r31 (Int.toNat (List.getD x0.2.1 (Int.toNat (List.getD v1584 (Int.toNat v1651) (0 : Int))) ((0 : Int), ((0 : Int), ((0 : Int), ((0 : Int), ((0 : Int), (⟨#[]⟩ : ByteArray))))))).2.1) ([] : (List Int))) : Int)) then (if (0 ≤ (List.getD (List.getD r31 (Int.toNat (List.getD x0.2.1 (Int.toNat (List.getD v1584 (Int.toNat v1651) (0 : Int))) ((0 : Int), ((0 : Int), ((0 : Int), ((0 : Int), ((0 : Int), (⟨#[]⟩ : ByteArray))))))).2.1) ([] : (List Int))) (Int.toNat v1790) (0 : Int)) ∧ (List.getD (List.getD r31 (Int.toNat (List.getD x0.2.1 (Int.toNat (List.getD v1584 (Int.toNat v1651) (0 : Int))) ((0 : Int), ((0 : Int), ((0 : Int), ((0 : Int), ((0 : Int), (⟨#[]⟩ : ByteArray))))))).2.1) ([] : (List Int))) (Int.toNat v1790) (0 : Int)) < (List.length x0.2.1 : Int)) then ((some ((IntKind.i64.wrap ((IntKind.i64.wrap ((List.getD v1788 (Int.toNat (List.getD v1584 (Int.toNat v1651) (0 : Int))) (0 : Int)) + r1818)) + (List.getD x0.2.1 (Int.toNat (List.getD (List.getD r31 (Int.toNat (List.getD x0.2.1 (Int.toNat (List.getD v1584 (Int.toNat v1651) (0 : Int))) ((0 : Int), ((0 : Int), ((0 : Int), ((0 : Int), ((0 : Int), (⟨#[]⟩ : ByteArray))))))).2.1) ([] : (List Int))) (Int.toNat v1790) (0 : Int))) ((0 : Int), ((0 : Int), ((0 : Int), ((0 : Int), ((0 : Int), (⟨#[]⟩ : ByteArray))))))).2.2.2.1)) : Int)).bind fun v1819 => (if (0 ≤ v1790 ∧ v1790 < (List.length (List.getD r31 (Int.toNat (List.getD x0.2.1 (Int.toNat (List.getD v1584 (Int.toNat v1651) (0 : Int))) ((0 : Int), ((0 : Int), ((0 : Int), ((0 : Int), ((0 : Int), (⟨#[]⟩ : ByteArray))))))).2.1) ([] : (List Int))) : Int)) then (if (0 ≤ (List.getD (List.getD r31 (Int.toNat (List.getD x0.2.1 (Int.toNat (List.getD v1584 (Int.toNat v1651) (0 : Int))) ((0 : Int), ((0 : Int), ((0 : Int), ((0 : Int), ((0 : Int), (⟨#[]⟩ : ByteArray))))))).2.1) ([] : (List Int))) (Int.toNat v1790) (0 : Int)) ∧ (List.getD (List.getD r31 (Int.toNat (List.getD x0.2.1 (Int.toNat (List.getD v1584 (Int.toNat v1651) (0 : Int))) ((0 : Int), ((0 : Int), ((0 : Int), ((0 : Int), ((0 : Int), (⟨#[]⟩ : ByteArray))))))).2.1) ([] : (List Int))) (Int.toNat v1790) (0 : Int)) < (List.length v1788 : Int)) then (if (decide (((List.getD v1788 (Int.toNat (List.getD (List.getD r31 (Int.toNat (List.getD x0.2.1 (Int.toNat (List.getD v1584 (Int.toNat v1651) (0 : Int))) ((0 : Int), ((0 : Int), ((0 : Int), ((0 : Int), ((0 : Int), (⟨#[]⟩ : ByteArray))))))).2.1) ([] : (List Int))) (Int.toNat v1790) (0 : Int))) (0 : Int)) : Int) < (0 : Int))) then (if (0 ≤ v1790 ∧ v1790 < (List.length (List.getD r31 (Int.toNat (List.getD x0.2.1 (Int.toNat (List.getD v1584 (Int.toNat v1651) (0 : Int))) ((0 : Int), ((0 : Int), ((0 : Int), ((0 : Int), ((0 : Int), (⟨#[]⟩ : ByteArray))))))).2.1) ([] : (List Int))) : Int)) then (if ((List.length v1789 + List.length [(List.getD (List.getD r31 (Int.toNat (List.getD x0.2.1 (Int.toNat (List.getD v1584 (Int.toNat v1651) (0 : Int))) ((0 : Int), ((0 : Int), ((0 : Int), ((0 : Int), ((0 : Int), (⟨#[]⟩ : ByteArray))))))).2.1) ([] : (List Int))) (Int.toNat v1790) (0 : Int))]) * 8 ≤ 140737488355328) then (f94.j1825 k v1790 r31 x0 v1584 v1651 v1788 v1819 (f94.j1817 k v1790 ((f94.l1668 k r31 x0 v1584 v1651 v1583 v1666 q1028) m1668)) (v1789 ++ [(List.getD (List.getD r31 (Int.toNat (List.getD x0.2.1 (Int.toNat (List.getD v1584 (Int.toNat v1651) (0 : Int))) ((0 : Int), ((0 : Int), ((0 : Int), ((0 : Int), ((0 : Int), (⟨#[]⟩ : ByteArray))))))).2.1) ([] : (List Int))) (Int.toNat v1790) (0 : Int))])) else none) else none) else (if (0 ≤ v1790 ∧ v1790 < (List.length (List.getD r31 (Int.toNat (List.getD x0.2.1 (Int.toNat (List.getD v1584 (Int.toNat v1651) (0 : Int))) ((0 : Int), ((0 : Int), ((0 : Int), ((0 : Int), ((0 : Int), (⟨#[]⟩ : ByteArray))))))).2.1) ([] : (List Int))) : Int)) then (if (0 ≤ (List.getD (List.getD r31 (Int.toNat (List.getD x0.2.1 (Int.toNat (List.getD v1584 (Int.toNat v1651) (0 : Int))) ((0 : Int), ((0 : Int), ((0 : Int), ((0 : Int), ((0 : Int), (⟨#[]⟩ : ByteArray))))))).2.1) ([] : (List Int))) (Int.toNat v1790) (0 : Int)) ∧ (List.getD (List.getD r31 (Int.toNat (List.getD x0.2.1 (Int.toNat (List.getD v1584 (Int.toNat v1651) (0 : Int))) ((0 : Int), ((0 : Int), ((0 : Int), ((0 : Int), ((0 : Int), (⟨#[]⟩ : ByteArray))))))).2.1) ([] : (List Int))) (Int.toNat v1790) (0 : Int)) < (List.length v1788 : Int)) then (if (decide ((v1819 : Int) ≥ (List.getD v1788 (Int.toNat (List.getD (List.getD r31 (Int.toNat (List.getD x0.2.1 (Int.toNat (List.getD v1584 (Int.toNat v1651) (0 : Int))) ((0 : Int), ((0 : Int), ((0 : Int), ((0 : Int), ((0 : Int), (⟨#[]⟩ : ByteArray))))))).2.1) ([] : (List Int))) (Int.toNat v1790) (0 : Int))) (0 : Int)))) then (f94.j1817 k v1790 ((f94.l1668 k r31 x0 v1584 v1651 v1583 v1666 q1028) m1668) (v1788, v1789)) else (f94.j1825 k v1790 r31 x0 v1584 v1651 v1788 v1819 (f94.j1817 k v1790 ((f94.l1668 k r31 x0 v1584 v1651 v1583 v1666 q1028) m1668)) v1789)) else none) else none)) else none) else none)) else none) else none) else none)) else none) else none)) else none) else (q1028 (v1666, v1788, (List.set v1583 (Int.toNat (List.getD v1584 (Int.toNat v1651) (0 : Int))) true), v1789))
def f94.j1667 (k : Nat) (x0 : ((List (Int × (Int × Int))) × ((List (Int × (Int × (Int × (Int × (Int × ByteArray)))))) × (List (Int × Int))))) (v1584 : (List Int)) (v1651 : Int) (r31 : (List (List Int))) (v1583 : (List Bool)) (v1582 : (List Int)) (q1028 : ((List Int) × (List Int) × (List Bool) × (List Int)) → Option (List Int)) : (List Int) → Option (List Int)
  | v1666 => if (0 ≤ (List.getD x0.2.1 (Int.toNat (List.getD v1584 (Int.toNat v1651) (0 : Int))) ((0 : Int), ((0 : Int), ((0 : Int), ((0 : Int), ((0 : Int), (⟨#[]⟩ : ByteArray))))))).2.1 ∧ (List.getD x0.2.1 (Int.toNat (List.getD v1584 (Int.toNat v1651) (0 : Int))) ((0 : Int), ((0 : Int), ((0 : Int), ((0 : Int), ((0 : Int), (⟨#[]⟩ : ByteArray))))))).2.1 < (List.length r31 : Int)) then (f94.l1668 k r31 x0 v1584 v1651 v1583 v1666 (q1028) k (v1582, (List.take (Int.toNat (IntKind.i64.wrap ((List.length (List.set v1584 (Int.toNat v1651) (List.getD v1584 (Int.toNat (IntKind.i64.wrap ((List.length v1584 : Int) - (1 : Int)))) (0 : Int))) : Int) - (1 : Int)))) (List.set v1584 (Int.toNat v1651) (List.getD v1584 (Int.toNat (IntKind.i64.wrap ((List.length v1584 : Int) - (1 : Int)))) (0 : Int)))), (0 : Int))) else none
def f94.l1624 (k : Nat) (v1584 : (List Int)) (v1582 : (List Int)) (v1583 : (List Bool)) (x0 : ((List (Int × (Int × Int))) × ((List (Int × (Int × (Int × (Int × (Int × ByteArray)))))) × (List (Int × Int))))) (v1581 : (List Int)) (r31 : (List (List Int))) (q1028 : ((List Int) × (List Int) × (List Bool) × (List Int)) → Option (List Int)) : Nat → (Int × Int) → Option (List Int)
  | 0, _ => none
  | m1624 + 1, (v1651, v1652) => if (decide ((v1652 : Int) < (List.length v1584 : Int))) then (if (0 ≤ v1652 ∧ v1652 < (List.length v1584 : Int)) then (if (0 ≤ (List.getD v1584 (Int.toNat v1652) (0 : Int)) ∧ (List.getD v1584 (Int.toNat v1652) (0 : Int)) < (List.length v1582 : Int)) then (if (0 ≤ v1651 ∧ v1651 < (List.length v1584 : Int)) then (if (0 ≤ (List.getD v1584 (Int.toNat v1651) (0 : Int)) ∧ (List.getD v1584 (Int.toNat v1651) (0 : Int)) < (List.length v1582 : Int)) then (if (decide (((List.getD v1582 (Int.toNat (List.getD v1584 (Int.toNat v1652) (0 : Int))) (0 : Int)) : Int) < (List.getD v1582 (Int.toNat (List.getD v1584 (Int.toNat v1651) (0 : Int))) (0 : Int)))) then (f94.j1658 k v1652 ((f94.l1624 k v1584 v1582 v1583 x0 v1581 r31 q1028) m1624) v1652) else (f94.j1658 k v1652 ((f94.l1624 k v1584 v1582 v1583 x0 v1581 r31 q1028) m1624) v1651)) else none) else none) else none) else none) else (if (0 ≤ v1651 ∧ v1651 < (List.length v1584 : Int)) then (if (0 ≤ (IntKind.i64.wrap ((List.length v1584 : Int) - (1 : Int))) ∧ (IntKind.i64.wrap ((List.length v1584 : Int) - (1 : Int))) < (List.length v1584 : Int)) then (if (0 ≤ v1651 ∧ v1651 < (List.length v1584 : Int)) then (if ((0 : Int) ≤ (IntKind.i64.wrap ((List.length (List.set v1584 (Int.toNat v1651) (List.getD v1584 (Int.toNat (IntKind.i64.wrap ((List.length v1584 : Int) - (1 : Int)))) (0 : Int))) : Int) - (1 : Int))) ∧ ((IntKind.i64.wrap ((List.length (List.set v1584 (Int.toNat v1651) (List.getD v1584 (Int.toNat (IntKind.i64.wrap ((List.length v1584 : Int) - (1 : Int)))) (0 : Int))) : Int) - (1 : Int))) : Int) ≤ (List.length (List.set v1584 (Int.toNat v1651) (List.getD v1584 (Int.toNat (IntKind.i64.wrap ((List.length v1584 : Int) - (1 : Int)))) (0 : Int))) : Int)) then (if (0 ≤ (List.getD v1584 (Int.toNat v1651) (0 : Int)) ∧ (List.getD v1584 (Int.toNat v1651) (0 : Int)) < (List.length v1583 : Int)) then (if (0 ≤ (List.getD v1584 (Int.toNat v1651) (0 : Int)) ∧ (List.getD v1584 (Int.toNat v1651) (0 : Int)) < (List.length x0.2.1 : Int)) then (if (0 ≤ (List.getD x0.2.1 (Int.toNat (List.getD v1584 (Int.toNat v1651) (0 : Int))) ((0 : Int), ((0 : Int), ((0 : Int), ((0 : Int), ((0 : Int), (⟨#[]⟩ : ByteArray))))))).2.1 ∧ (List.getD x0.2.1 (Int.toNat (List.getD v1584 (Int.toNat v1651) (0 : Int))) ((0 : Int), ((0 : Int), ((0 : Int), ((0 : Int), ((0 : Int), (⟨#[]⟩ : ByteArray))))))).2.1 < (List.length v1581 : Int)) then (if (((decide (((List.getD v1581 (Int.toNat (List.getD x0.2.1 (Int.toNat (List.getD v1584 (Int.toNat v1651) (0 : Int))) ((0 : Int), ((0 : Int), ((0 : Int), ((0 : Int), ((0 : Int), (⟨#[]⟩ : ByteArray))))))).2.1) (0 : Int)) : Int) < (0 : Int))) = false) → (0 ≤ (List.getD v1584 (Int.toNat v1651) (0 : Int)) ∧ (List.getD v1584 (Int.toNat v1651) (0 : Int)) < (List.length v1582 : Int))) then (if (((decide (((List.getD v1581 (Int.toNat (List.getD x0.2.1 (Int.toNat (List.getD v1584 (Int.toNat v1651) (0 : Int))) ((0 : Int), ((0 : Int), ((0 : Int), ((0 : Int), ((0 : Int), (⟨#[]⟩ : ByteArray))))))).2.1) (0 : Int)) : Int) < (0 : Int))) = false) → (0 ≤ (List.getD x0.2.1 (Int.toNat (List.getD v1584 (Int.toNat v1651) (0 : Int))) ((0 : Int), ((0 : Int), ((0 : Int), ((0 : Int), ((0 : Int), (⟨#[]⟩ : ByteArray))))))).2.1 ∧ (List.getD x0.2.1 (Int.toNat (List.getD v1584 (Int.toNat v1651) (0 : Int))) ((0 : Int), ((0 : Int), ((0 : Int), ((0 : Int), ((0 : Int), (⟨#[]⟩ : ByteArray))))))).2.1 < (List.length v1581 : Int))) then ((some ((bif (decide (((List.getD v1581 (Int.toNat (List.getD x0.2.1 (Int.toNat (List.getD v1584 (Int.toNat v1651) (0 : Int))) ((0 : Int), ((0 : Int), ((0 : Int), ((0 : Int), ((0 : Int), (⟨#[]⟩ : ByteArray))))))).2.1) (0 : Int)) : Int) < (0 : Int))) then true else (decide (((List.getD v1582 (Int.toNat (List.getD v1584 (Int.toNat v1651) (0 : Int))) (0 : Int)) : Int) < (List.getD v1581 (Int.toNat (List.getD x0.2.1 (Int.toNat (List.getD v1584 (Int.toNat v1651) (0 : Int))) ((0 : Int), ((0 : Int), ((0 : Int), ((0 : Int), ((0 : Int), (⟨#[]⟩ : ByteArray))))))).2.1) (0 : Int))))) : Bool)).bind fun v1663 => (if v1663 then (if (0 ≤ (List.getD v1584 (Int.toNat v1651) (0 : Int)) ∧ (List.getD v1584 (Int.toNat v1651) (0 : Int)) < (List.length v1582 : Int)) then (if (0 ≤ (List.getD x0.2.1 (Int.toNat (List.getD v1584 (Int.toNat v1651) (0 : Int))) ((0 : Int), ((0 : Int), ((0 : Int), ((0 : Int), ((0 : Int), (⟨#[]⟩ : ByteArray))))))).2.1 ∧ (List.getD x0.2.1 (Int.toNat (List.getD v1584 (Int.toNat v1651) (0 : Int))) ((0 : Int), ((0 : Int), ((0 : Int), ((0 : Int), ((0 : Int), (⟨#[]⟩ : ByteArray))))))).2.1 < (List.length v1581 : Int)) then (f94.j1667 k x0 v1584 v1651 r31 v1583 v1582 (q1028) (List.set v1581 (Int.toNat (List.getD x0.2.1 (Int.toNat (List.getD v1584 (Int.toNat v1651) (0 : Int))) ((0 : Int), ((0 : Int), ((0 : Int), ((0 : Int), ((0 : Int), (⟨#[]⟩ : ByteArray))))))).2.1) (List.getD v1582 (Int.toNat (List.getD v1584 (Int.toNat v1651) (0 : Int))) (0 : Int)))) else none) else none) else (f94.j1667 k x0 v1584 v1651 r31 v1583 v1582 (q1028) v1581))) else none) else none) else none) else none) else none) else none) else none) else none) else none)
def f94.l1028 (k : Nat) (x0 : ((List (Int × (Int × Int))) × ((List (Int × (Int × (Int × (Int × (Int × ByteArray)))))) × (List (Int × Int))))) (r31 : (List (List Int))) : Nat → ((List Int) × (List Int) × (List Bool) × (List Int)) → Option (List Int)
  | 0, _ => none
  | m1028 + 1, (v1581, v1582, v1583, v1584) => if (decide (((List.length v1584 : Int) : Int) > (0 : Int))) then (f94.l1624 k v1584 v1582 v1583 x0 v1581 r31 ((f94.l1028 k x0 r31) m1028) k ((0 : Int), (1 : Int))) else (some v1581)
def f94.l132 (k : Nat) (x1 : Int) (r31 : (List (List Int))) (x0 : ((List (Int × (Int × Int))) × ((List (Int × (Int × (Int × (Int × (Int × ByteArray)))))) × (List (Int × Int))))) (v27 : (List Int)) : Nat → ((List Int) × (List Int) × Int) → Option (List Int)
  | 0, _ => none
  | m132 + 1, (v180, v181, v182) => if (0 ≤ x1 ∧ x1 < (List.length r31 : Int)) then (if (decide ((v182 : Int) < (List.length (List.getD r31 (Int.toNat x1) ([] : (List Int))) : Int))) then (if (0 ≤ x1 ∧ x1 < (List.length r31 : Int)) then (if (0 ≤ v182 ∧ v182 < (List.length (List.getD r31 (Int.toNat x1) ([] : (List Int))) : Int)) then (if (0 ≤ x1 ∧ x1 < (List.length r31 : Int)) then (if (0 ≤ v182 ∧ v182 < (List.length (List.getD r31 (Int.toNat x1) ([] : (List Int))) : Int)) then (if (0 ≤ (List.getD (List.getD r31 (Int.toNat x1) ([] : (List Int))) (Int.toNat v182) (0 : Int)) ∧ (List.getD (List.getD r31 (Int.toNat x1) ([] : (List Int))) (Int.toNat v182) (0 : Int)) < (List.length x0.2.1 : Int)) then (if (0 ≤ (List.getD (List.getD r31 (Int.toNat x1) ([] : (List Int))) (Int.toNat v182) (0 : Int)) ∧ (List.getD (List.getD r31 (Int.toNat x1) ([] : (List Int))) (Int.toNat v182) (0 : Int)) < (List.length v180 : Int)) then (if (0 ≤ x1 ∧ x1 < (List.length r31 : Int)) then (if (0 ≤ v182 ∧ v182 < (List.length (List.getD r31 (Int.toNat x1) ([] : (List Int))) : Int)) then (if ((List.length v181 + List.length [(List.getD (List.getD r31 (Int.toNat x1) ([] : (List Int))) (Int.toNat v182) (0 : Int))]) * 8 ≤ 140737488355328) then ((f94.l132 k x1 r31 x0 v27) m132 ((List.set v180 (Int.toNat (List.getD (List.getD r31 (Int.toNat x1) ([] : (List Int))) (Int.toNat v182) (0 : Int))) (List.getD x0.2.1 (Int.toNat (List.getD (List.getD r31 (Int.toNat x1) ([] : (List Int))) (Int.toNat v182) (0 : Int))) ((0 : Int), ((0 : Int), ((0 : Int), ((0 : Int), ((0 : Int), (⟨#[]⟩ : ByteArray))))))).2.2.2.1), (v181 ++ [(List.getD (List.getD r31 (Int.toNat x1) ([] : (List Int))) (Int.toNat v182) (0 : Int))]), (IntKind.i64.wrap (v182 + (1 : Int))))) else none) else none) else none) else none) else none) else none) else none) else none) else none) else (f94.l1028 k x0 r31 k ((List.set v27 (Int.toNat x1) (0 : Int)), v180, (List.replicate (Int.toNat (List.length x0.2.1 : Int)) false), v181))) else none
def f94.l47 (k : Nat) (x0 : ((List (Int × (Int × Int))) × ((List (Int × (Int × (Int × (Int × (Int × ByteArray)))))) × (List (Int × Int))))) (x1 : Int) (r31 : (List (List Int))) (v27 : (List Int)) : Nat → ((List Int) × Int) → Option (List Int)
  | 0, _ => none
  | m47 + 1, (v58, v59) => if (decide ((v59 : Int) < (List.length x0.2.1 : Int))) then (if (0 ≤ v59 ∧ v59 < (List.length v58 : Int)) then ((f94.l47 k x0 x1 r31 v27) m47 ((List.set v58 (Int.toNat v59) (-1 : Int)), (IntKind.i64.wrap (v59 + (1 : Int))))) else none) else (f94.l132 k x1 r31 x0 v27 k (v58, ([] : List Int), (0 : Int)))
def f94.l16 (k : Nat) (x1 : Int) (x0 : ((List (Int × (Int × Int))) × ((List (Int × (Int × (Int × (Int × (Int × ByteArray)))))) × (List (Int × Int))))) : Nat → ((List Int) × Int) → Option (List Int)
  | 0, _ => none
  | m16 + 1, (v27, v28) => if (decide ((v28 : Int) < (List.length v27 : Int))) then (if (0 ≤ v28 ∧ v28 < (List.length v27 : Int)) then ((f94.l16 k x1 x0) m16 ((List.set v27 (Int.toNat v28) (-1 : Int)), (IntKind.i64.wrap (v28 + (1 : Int))))) else none) else (if (0 ≤ x1 ∧ x1 < (List.length v27 : Int)) then (if (0 ≤ (List.length x0.2.1 : Int) ∧ Int.toNat (List.length x0.2.1 : Int) * 8 ≤ 140737488355328) then (if (0 ≤ (List.length x0.2.1 : Int) ∧ Int.toNat (List.length x0.2.1 : Int) * 1 ≤ 140737488355328) then ((f79 k x0 false).bind fun r31 => (f94.l47 k x0 x1 r31 v27 k ((List.replicate (Int.toNat (List.length x0.2.1 : Int)) (0 : Int)), (0 : Int)))) else none) else none) else none)
def f94 (k : Nat) (x0 : ((List (Int × (Int × Int))) × ((List (Int × (Int × (Int × (Int × (Int × ByteArray)))))) × (List (Int × Int))))) (x1 : Int) : Option (List Int) := if (0 ≤ (List.length x0.1 : Int) ∧ Int.toNat (List.length x0.1 : Int) * 8 ≤ 140737488355328) then (f94.l16 k x1 x0 k ((List.replicate (Int.toNat (List.length x0.1 : Int)) (0 : Int)), (0 : Int))) else none
set_option maxRecDepth 100000 in
/-- 'spec.l10Reach'. -/
theorem c94 (k : Nat) (x0 : ((List (Int × (Int × Int))) × ((List (Int × (Int × (Int × (Int × (Int × ByteArray)))))) × (List (Int × Int))))) (x1 : Int) (r : (List Int)) (hF : f94 k x0 x1 = some r) : PCall Try.prog 94 [⟨sh12, x0⟩, ⟨(.int .i64), x1⟩] [⟨(.sl true 2 (.int .i64)), r⟩] := by
  refine pcall_intro Try.func94 rfl rfl (Nat.le_of_ble_eq_true rfl) ?_
  intro w0 Zi a w h
  rw [f94] at hF
  refine wp_reg_seq tok (orc := orcL []) (fz := []) (l := [1, 2]) (c := _) (.inr fun i h => h) h (by kernel_rfl) (AllP.nil) ?_
  intro a w h
  refine wp_reg_seq tok (orc := orcL []) (fz := []) (l := [1, 2, 5]) (c := _) (.inr fun i h => h) h (by kernel_rfl) (AllP.nil) ?_
  intro a w h
  obtain ⟨hc1860, hF⟩ := of_if hF
  refine wp_reg_seq tok (orc := orcL []) (fz := []) (l := [1, 2, 5, 6]) (c := _) (.inr fun i h => h) h (by kernel_rfl) (AllP.cons hc1860 AllP.nil) ?_
  intro a w h
  refine wp_seq ?_
  refine wp_reg_seq tok (orc := orcL []) (fz := []) (l := [1, 2, 5, 6, 7]) (c := _) (.inr fun i h => h) h (by kernel_rfl) (AllP.nil) ?_
  intro a w h
  refine wp_block ?_
  refine wp_loop_fuel (f94.l16 k x1 x0) (fun ((v27, v28) : ((List Int) × Int)) => [(1, .val (.int .i64) x1), (2, .val sh11 (some x0)), (5, .val (.int .i64) (List.length x0.2.1 : Int)), (6, .val (.sl true 2 (.int .i64)) v27), (7, .val (.int .i64) v28)]) (fun v h => by obtain ⟨v27, v28⟩ := v; rw [f94.l16] at h; cases h) ?_ hF (h.arrive (fz := []) (l := [1, 2, 5, 6, 7]) (.inr fun i h => h) (by kernel_rfl))
  intro m16 v a w hF h
  obtain ⟨v27, v28⟩ := v
  rw [f94.l16] at hF
  refine wp_seq ?_
  refine wp_reg_seq tok (orc := orcL []) (fz := []) (l := [1, 2, 5, 6, 7, 32]) (c := _) (.inr fun i h => h) h (by kernel_rfl) (AllP.nil) ?_
  intro a w h
  refine wp_if h (b := (decide ((v28 : Int) < (List.length v27 : Int)))) (by kernel_rfl) (fun hb => ?_) (fun hb => ?_)
  · replace hF := of_t hb hF
    refine wp_skip ?_
    refine wp_seq <| wp_block ?_
    obtain ⟨hc30, hF⟩ := of_if hF
    refine wp_reg tok (orc := orcL []) (fz := []) (l := [1, 2, 5, 6, 7]) (c := _) (.inr fun i h => h) h (by kernel_rfl) (AllP.cons hc30 AllP.nil) ?_
    intro a w h
    refine wp_reg tok (orc := orcL []) (fz := []) (l := [1, 2, 5, 6, 7]) (c := _) (.inr fun i h => h) h (by kernel_rfl) (AllP.nil) ?_
    intro a w h
    exact ⟨((List.set v27 (Int.toNat v28) (-1 : Int)), (IntKind.i64.wrap (v28 + (1 : Int)))), hF, h.arrive (fz := []) (l := [1, 2, 5, 6, 7]) (.inr fun i h => h) (by kernel_rfl)⟩
  · replace hF := of_f hb hF
    refine wp_exit ?_
    obtain ⟨hc1859, hF⟩ := of_if hF
    refine wp_reg_seq tok (orc := orcL []) (fz := []) (l := [1, 2, 5, 6]) (c := _) (.inr fun i h => h) h (by kernel_rfl) (AllP.cons hc1859 AllP.nil) ?_
    intro a w h
    obtain ⟨hc1858, hF⟩ := of_if hF
    refine wp_reg_seq tok (orc := orcL []) (fz := []) (l := [1, 2, 5, 6, 8]) (c := _) (.inr fun i h => h) h (by kernel_rfl) (AllP.cons hc1858 AllP.nil) ?_
    intro a w h
    obtain ⟨hc1857, hF⟩ := of_if hF
    refine wp_reg_seq tok (orc := orcL []) (fz := []) (l := [1, 2, 5, 6, 8, 9]) (c := _) (.inr fun i h => h) h (by kernel_rfl) (AllP.cons hc1857 AllP.nil) ?_
    intro a w h
    refine wp_reg_seq tok (orc := orcL []) (fz := []) (l := [1, 2, 5, 6, 8, 9, 10]) (c := _) (.inr fun i h => h) h (by kernel_rfl) (AllP.nil) ?_
    intro a w h
    obtain ⟨r31, hr1856, hF⟩ := of_bind hF
    refine wp_reg_seq tok (orc := orcL [(47, [⟨sh13, r31⟩])]) (fz := []) (l := [1, 2, 5, 6, 8, 9, 10, 11]) (c := _) (.inr fun i h => h) h (by kernel_rfl) (AllP.cons (c79 k x0 false r31 hr1856) AllP.nil) ?_
    intro a w h
    refine wp_seq ?_
    refine wp_reg_seq tok (orc := orcL []) (fz := []) (l := [1, 2, 5, 6, 8, 9, 10, 11, 12]) (c := _) (.inr fun i h => h) h (by kernel_rfl) (AllP.nil) ?_
    intro a w h
    refine wp_block ?_
    refine wp_loop_fuel (f94.l47 k x0 x1 r31 v27) (fun ((v58, v59) : ((List Int) × Int)) => [(1, .val (.int .i64) x1), (2, .val sh11 (some x0)), (5, .val (.int .i64) (List.length x0.2.1 : Int)), (6, .val (.sl true 2 (.int .i64)) (List.set v27 (Int.toNat x1) (0 : Int))), (8, .val (.sl true 2 (.int .i64)) v58), (9, .val (.sl true 4 .bool) (List.replicate (Int.toNat (List.length x0.2.1 : Int)) false)), (10, .val (.sl true 2 (.int .i64)) ([] : List Int)), (11, .val sh13 r31), (12, .val (.int .i64) v59)]) (fun v h => by obtain ⟨v58, v59⟩ := v; rw [f94.l47] at h; cases h) ?_ hF (h.arrive (fz := []) (l := [1, 2, 5, 6, 8, 9, 10, 11, 12]) (.inr fun i h => h) (by kernel_rfl))
    intro m47 v a w hF h
    obtain ⟨v58, v59⟩ := v
    rw [f94.l47] at hF
    refine wp_seq ?_
    refine wp_reg_seq tok (orc := orcL []) (fz := []) (l := [1, 2, 5, 6, 8, 9, 10, 11, 12, 50]) (c := _) (.inr fun i h => h) h (by kernel_rfl) (AllP.nil) ?_
    intro a w h
    refine wp_if h (b := (decide ((v59 : Int) < (List.length x0.2.1 : Int)))) (by kernel_rfl) (fun hb => ?_) (fun hb => ?_)
    · replace hF := of_t hb hF
      refine wp_skip ?_
      refine wp_seq <| wp_block ?_
      obtain ⟨hc61, hF⟩ := of_if hF
      refine wp_reg tok (orc := orcL []) (fz := []) (l := [1, 2, 5, 6, 8, 9, 10, 11, 12]) (c := _) (.inr fun i h => h) h (by kernel_rfl) (AllP.cons hc61 AllP.nil) ?_
      intro a w h
      refine wp_reg tok (orc := orcL []) (fz := []) (l := [1, 2, 5, 6, 8, 9, 10, 11, 12]) (c := _) (.inr fun i h => h) h (by kernel_rfl) (AllP.nil) ?_
      intro a w h
      exact ⟨((List.set v58 (Int.toNat v59) (-1 : Int)), (IntKind.i64.wrap (v59 + (1 : Int)))), hF, h.arrive (fz := []) (l := [1, 2, 5, 6, 8, 9, 10, 11, 12]) (.inr fun i h => h) (by kernel_rfl)⟩
    · replace hF := of_f hb hF
      refine wp_exit ?_
      refine wp_seq ?_
      refine wp_reg_seq tok (orc := orcL []) (fz := []) (l := [1, 2, 6, 8, 9, 10, 11, 13]) (c := _) (.inr fun i h => h) h (by kernel_rfl) (AllP.nil) ?_
      intro a w h
      refine wp_block ?_
      refine wp_loop_fuel (f94.l132 k x1 r31 x0 v27) (fun ((v180, v181, v182) : ((List Int) × (List Int) × Int)) => [(1, .val (.int .i64) x1), (2, .val sh11 (some x0)), (6, .val (.sl true 2 (.int .i64)) (List.set v27 (Int.toNat x1) (0 : Int))), (8, .val (.sl true 2 (.int .i64)) v180), (9, .val (.sl true 4 .bool) (List.replicate (Int.toNat (List.length x0.2.1 : Int)) false)), (10, .val (.sl true 2 (.int .i64)) v181), (11, .val sh13 r31), (13, .val (.int .i64) v182)]) (fun v h => by obtain ⟨v180, v181, v182⟩ := v; rw [f94.l132] at h; cases h) ?_ hF (h.arrive (fz := []) (l := [1, 2, 6, 8, 9, 10, 11, 13]) (.inr fun i h => h) (by kernel_rfl))
      intro m132 v a w hF h
      obtain ⟨v180, v181, v182⟩ := v
      rw [f94.l132] at hF
      refine wp_seq ?_
      obtain ⟨hc1855, hF⟩ := of_if hF
      refine wp_reg_seq tok (orc := orcL []) (fz := []) (l := [1, 2, 6, 8, 9, 10, 11, 13, 62]) (c := _) (.inr fun i h => h) h (by kernel_rfl) (AllP.cons hc1855 AllP.nil) ?_
      intro a w h
      refine wp_if h (b := (decide ((v182 : Int) < (List.length (List.getD r31 (Int.toNat x1) ([] : (List Int))) : Int)))) (by kernel_rfl) (fun hb => ?_) (fun hb => ?_)
      · replace hF := of_t hb hF
        refine wp_skip ?_
        refine wp_seq <| wp_block ?_
        obtain ⟨hc195, hF⟩ := of_if hF
        obtain ⟨hc196, hF⟩ := of_if hF
        obtain ⟨hc197, hF⟩ := of_if hF
        obtain ⟨hc198, hF⟩ := of_if hF
        obtain ⟨hc199, hF⟩ := of_if hF
        obtain ⟨hc200, hF⟩ := of_if hF
        refine wp_regy_seq tok (orc := orcL []) (fz := []) (l := [1, 2, 6, 8, 9, 10, 11, 13]) (c := _) ([], [], [], []) 21 (.inr fun i h => h) h (by kernel_rfl) (by kernel_rfl) (AllP.cons hc195 (AllP.cons hc196 (AllP.cons hc197 (AllP.cons hc198 (AllP.cons hc199 (AllP.cons hc200 AllP.nil)))))) ?_
        intro a w h
        obtain ⟨hc192, hF⟩ := of_if hF
        obtain ⟨hc193, hF⟩ := of_if hF
        obtain ⟨hc194, hF⟩ := of_if hF
        refine wp_reg tok (orc := orcL []) (fz := []) (l := [1, 2, 6, 8, 9, 10, 11, 13]) (c := _) (.inr fun i h => h) h (by kernel_rfl) (AllP.cons hc192 (AllP.cons hc193 (AllP.cons hc194 AllP.nil))) ?_
        intro a w h
        refine wp_reg tok (orc := orcL []) (fz := []) (l := [1, 2, 6, 8, 9, 10, 11, 13]) (c := _) (.inr fun i h => h) h (by kernel_rfl) (AllP.nil) ?_
        intro a w h
        exact ⟨((List.set v180 (Int.toNat (List.getD (List.getD r31 (Int.toNat x1) ([] : (List Int))) (Int.toNat v182) (0 : Int))) (List.getD x0.2.1 (Int.toNat (List.getD (List.getD r31 (Int.toNat x1) ([] : (List Int))) (Int.toNat v182) (0 : Int))) ((0 : Int), ((0 : Int), ((0 : Int), ((0 : Int), ((0 : Int), (⟨#[]⟩ : ByteArray))))))).2.2.2.1), (v181 ++ [(List.getD (List.getD r31 (Int.toNat x1) ([] : (List Int))) (Int.toNat v182) (0 : Int))]), (IntKind.i64.wrap (v182 + (1 : Int)))), hF, h.arrive (fz := []) (l := [1, 2, 6, 8, 9, 10, 11, 13]) (.inr fun i h => h) (by kernel_rfl)⟩
      · replace hF := of_f hb hF
        refine wp_exit ?_
        refine wp_seq <| wp_block ?_
        refine wp_loop_fuel (f94.l1028 k x0 r31) (fun ((v1581, v1582, v1583, v1584) : ((List Int) × (List Int) × (List Bool) × (List Int))) => [(2, .val sh11 (some x0)), (6, .val (.sl true 2 (.int .i64)) v1581), (8, .val (.sl true 2 (.int .i64)) v1582), (9, .val (.sl true 4 .bool) v1583), (10, .val (.sl true 2 (.int .i64)) v1584), (11, .val sh13 r31)]) (fun v h => by obtain ⟨v1581, v1582, v1583, v1584⟩ := v; rw [f94.l1028] at h; cases h) ?_ hF (h.arrive (fz := []) (l := [2, 6, 8, 9, 10, 11]) (.inr fun i h => h) (by kernel_rfl))
        intro m1028 v a w hF h
        obtain ⟨v1581, v1582, v1583, v1584⟩ := v
        rw [f94.l1028] at hF
        refine wp_seq ?_
        refine wp_reg_seq tok (orc := orcL []) (fz := []) (l := [2, 6, 8, 9, 10, 11, 98]) (c := _) (.inr fun i h => h) h (by kernel_rfl) (AllP.nil) ?_
        intro a w h
        refine wp_if h (b := (decide (((List.length v1584 : Int) : Int) > (0 : Int)))) (by kernel_rfl) (fun hb => ?_) (fun hb => ?_)
        · replace hF := of_t hb hF
          refine wp_skip ?_
          refine wp_block ?_
          refine wp_reg_seq tok (orc := orcL []) (fz := []) (l := [2, 6, 8, 9, 10, 11, 14]) (c := _) (.inr fun i h => h) h (by kernel_rfl) (AllP.nil) ?_
          intro a w h
          refine wp_seq ?_
          refine wp_reg_seq tok (orc := orcL []) (fz := []) (l := [2, 6, 8, 9, 10, 11, 14, 15]) (c := _) (.inr fun i h => h) h (by kernel_rfl) (AllP.nil) ?_
          intro a w h
          refine wp_block ?_
          refine wp_loop_fuel (f94.l1624 k v1584 v1582 v1583 x0 v1581 r31 ((f94.l1028 k x0 r31) m1028)) (fun ((v1651, v1652) : (Int × Int)) => [(2, .val sh11 (some x0)), (6, .val (.sl true 2 (.int .i64)) v1581), (8, .val (.sl true 2 (.int .i64)) v1582), (9, .val (.sl true 4 .bool) v1583), (10, .val (.sl true 2 (.int .i64)) v1584), (11, .val sh13 r31), (14, .val (.int .i64) v1651), (15, .val (.int .i64) v1652)]) (fun v h => by obtain ⟨v1651, v1652⟩ := v; rw [f94.l1624] at h; cases h) ?_ hF (h.arrive (fz := []) (l := [2, 6, 8, 9, 10, 11, 14, 15]) (.inr fun i h => h) (by kernel_rfl))
          intro m1624 v a w hF h
          obtain ⟨v1651, v1652⟩ := v
          rw [f94.l1624] at hF
          refine wp_seq ?_
          refine wp_reg_seq tok (orc := orcL []) (fz := []) (l := [2, 6, 8, 9, 10, 11, 14, 15, 102]) (c := _) (.inr fun i h => h) h (by kernel_rfl) (AllP.nil) ?_
          intro a w h
          refine wp_if h (b := (decide ((v1652 : Int) < (List.length v1584 : Int)))) (by kernel_rfl) (fun hb => ?_) (fun hb => ?_)
          · replace hF := of_t hb hF
            refine wp_skip ?_
            refine wp_mid (fun a w => ∃ v : Int, f94.j1658 k v1652 ((f94.l1624 k v1584 v1582 v1583 x0 v1581 r31 ((f94.l1028 k x0 r31) m1028)) m1624) v = some r ∧ Rel w0 (fun _ => False) Zi Try.f94.ntmps ((fun (v1657 : Int) => ([(2, .val sh11 (some x0)), (6, .val (.sl true 2 (.int .i64)) v1581), (8, .val (.sl true 2 (.int .i64)) v1582), (9, .val (.sl true 4 .bool) v1583), (10, .val (.sl true 2 (.int .i64)) v1584), (11, .val sh13 r31), (14, .val (.int .i64) v1657), (15, .val (.int .i64) v1652)] : SS)) v) a w) ?_ ?_
            ·
              refine wp_block ?_
              obtain ⟨hc1659, hF⟩ := of_if hF
              obtain ⟨hc1660, hF⟩ := of_if hF
              obtain ⟨hc1661, hF⟩ := of_if hF
              obtain ⟨hc1662, hF⟩ := of_if hF
              refine wp_regy_seq tok (orc := orcL []) (fz := []) (l := [2, 6, 8, 9, 10, 11, 14, 15, 119]) (c := _) ([], [], [], []) 15 (.inr fun i h => h) h (by kernel_rfl) (by kernel_rfl) (AllP.cons hc1659 (AllP.cons hc1660 (AllP.cons hc1661 (AllP.cons hc1662 AllP.nil)))) ?_
              intro a w h
              refine wp_if h (b := (decide (((List.getD v1582 (Int.toNat (List.getD v1584 (Int.toNat v1652) (0 : Int))) (0 : Int)) : Int) < (List.getD v1582 (Int.toNat (List.getD v1584 (Int.toNat v1651) (0 : Int))) (0 : Int))))) (by kernel_rfl) (fun hb => ?_) (fun hb => ?_)
              · replace hF := of_t hb hF
                refine wp_reg tok (orc := orcL []) (fz := []) (l := [2, 6, 8, 9, 10, 11, 14, 15]) (c := _) (.inr fun i h => h) h (by kernel_rfl) (AllP.nil) ?_
                intro a w h
                exact ⟨v1652, hF, h.arrive (fz := []) (l := [2, 6, 8, 9, 10, 11, 14, 15]) (.inr fun i h => h) (by kernel_rfl)⟩
              · replace hF := of_f hb hF
                refine wp_skip ?_
                exact ⟨v1651, hF, h.arrive (fz := []) (l := [2, 6, 8, 9, 10, 11, 14, 15]) (.inr fun i h => h) (by kernel_rfl)⟩
            · rintro a w ⟨v1657, hF, h⟩
              rw [f94.j1658] at hF
              refine wp_reg tok (orc := orcL []) (fz := []) (l := [2, 6, 8, 9, 10, 11, 14, 15]) (c := _) (.inr fun i h => h) h (by kernel_rfl) (AllP.nil) ?_
              intro a w h
              exact ⟨(v1657, (IntKind.i64.wrap (v1652 + (1 : Int)))), hF, h.arrive (fz := []) (l := [2, 6, 8, 9, 10, 11, 14, 15]) (.inr fun i h => h) (by kernel_rfl)⟩
          · replace hF := of_f hb hF
            refine wp_exit ?_
            obtain ⟨hc1854, hF⟩ := of_if hF
            refine wp_reg_seq tok (orc := orcL []) (fz := []) (l := [2, 6, 8, 9, 10, 11, 14, 16]) (c := _) (.inr fun i h => h) h (by kernel_rfl) (AllP.cons hc1854 AllP.nil) ?_
            intro a w h
            obtain ⟨hc1852, hF⟩ := of_if hF
            obtain ⟨hc1853, hF⟩ := of_if hF
            refine wp_reg_seq tok (orc := orcL []) (fz := []) (l := [2, 6, 8, 9, 10, 11, 16]) (c := _) (.inr fun i h => h) h (by kernel_rfl) (AllP.cons hc1852 (AllP.cons hc1853 AllP.nil)) ?_
            intro a w h
            obtain ⟨hc1851, hF⟩ := of_if hF
            refine wp_reg_seq tok (orc := orcL []) (fz := []) (l := [2, 6, 8, 9, 10, 11, 16]) (c := _) (.inr fun i h => h) h (by kernel_rfl) (AllP.cons hc1851 AllP.nil) ?_
            intro a w h
            obtain ⟨hc1850, hF⟩ := of_if hF
            refine wp_reg_seq tok (orc := orcL []) (fz := []) (l := [2, 6, 8, 9, 10, 11, 16]) (c := _) (.inr fun i h => h) h (by kernel_rfl) (AllP.cons hc1850 AllP.nil) ?_
            intro a w h
            obtain ⟨hc1849, hF⟩ := of_if hF
            refine wp_reg_seq tok (orc := orcL []) (fz := []) (l := [2, 6, 8, 9, 10, 11, 16, 17]) (c := _) (.inr fun i h => h) h (by kernel_rfl) (AllP.cons hc1849 AllP.nil) ?_
            intro a w h
            refine wp_seq ?_
            obtain ⟨hc1846, hF⟩ := of_if hF
            obtain ⟨hc1847, hF⟩ := of_if hF
            obtain ⟨hc1848, hF⟩ := of_if hF
            refine wp_regy_seq tok (orc := orcL []) (fz := []) (l := [2, 6, 8, 9, 10, 11, 16, 17, 163]) (c := _) ([], [], [], []) 16 (.inr fun i h => h) h (by kernel_rfl) (by kernel_rfl) (AllP.cons hc1846 (AllP.cons hc1847 (AllP.cons hc1848 AllP.nil))) ?_
            intro a w h
            obtain ⟨v1663, hv1845, hF⟩ := of_bind hF
            replace h := h.cast (S' := [(2, .val sh11 (some x0)), (6, .val (.sl true 2 (.int .i64)) v1581), (8, .val (.sl true 2 (.int .i64)) v1582), (9, .val (.sl true 4 .bool) (List.set v1583 (Int.toNat (List.getD v1584 (Int.toNat v1651) (0 : Int))) true)), (10, .val (.sl true 2 (.int .i64)) (List.take (Int.toNat (IntKind.i64.wrap ((List.length (List.set v1584 (Int.toNat v1651) (List.getD v1584 (Int.toNat (IntKind.i64.wrap ((List.length v1584 : Int) - (1 : Int)))) (0 : Int))) : Int) - (1 : Int)))) (List.set v1584 (Int.toNat v1651) (List.getD v1584 (Int.toNat (IntKind.i64.wrap ((List.length v1584 : Int) - (1 : Int)))) (0 : Int))))), (11, .val sh13 r31), (16, .val (.int .i64) (List.getD v1584 (Int.toNat v1651) (0 : Int))), (17, .val (.int .i64) (List.getD x0.2.1 (Int.toNat (List.getD v1584 (Int.toNat v1651) (0 : Int))) ((0 : Int), ((0 : Int), ((0 : Int), ((0 : Int), ((0 : Int), (⟨#[]⟩ : ByteArray))))))).2.1), (163, .val .bool v1663)]) (by cases hv1845; kernel_rfl)
            refine wp_midT (fun a w => ∃ v : (List Int), f94.j1667 k x0 v1584 v1651 r31 v1583 v1582 ((f94.l1028 k x0 r31) m1028) v = some r ∧ Rel w0 (fun _ => False) Zi Try.f94.ntmps ((fun (v1666 : (List Int)) => ([(2, .val sh11 (some x0)), (6, .val (.sl true 2 (.int .i64)) v1666), (8, .val (.sl true 2 (.int .i64)) v1582), (9, .val (.sl true 4 .bool) (List.set v1583 (Int.toNat (List.getD v1584 (Int.toNat v1651) (0 : Int))) true)), (10, .val (.sl true 2 (.int .i64)) (List.take (Int.toNat (IntKind.i64.wrap ((List.length (List.set v1584 (Int.toNat v1651) (List.getD v1584 (Int.toNat (IntKind.i64.wrap ((List.length v1584 : Int) - (1 : Int)))) (0 : Int))) : Int) - (1 : Int)))) (List.set v1584 (Int.toNat v1651) (List.getD v1584 (Int.toNat (IntKind.i64.wrap ((List.length v1584 : Int) - (1 : Int)))) (0 : Int))))), (11, .val sh13 r31), (16, .val (.int .i64) (List.getD v1584 (Int.toNat v1651) (0 : Int))), (17, .val (.int .i64) (List.getD x0.2.1 (Int.toNat (List.getD v1584 (Int.toNat v1651) (0 : Int))) ((0 : Int), ((0 : Int), ((0 : Int), ((0 : Int), ((0 : Int), (⟨#[]⟩ : ByteArray))))))).2.1)] : SS)) v) a w) ?_ ?_
            ·
              refine wp_if h (b := v1663) (by kernel_rfl) (fun hb => ?_) (fun hb => ?_)
              · replace hF := of_t hb hF
                obtain ⟨hc1843, hF⟩ := of_if hF
                obtain ⟨hc1844, hF⟩ := of_if hF
                refine wp_reg tok (orc := orcL []) (fz := []) (l := [2, 6, 8, 9, 10, 11, 16, 17]) (c := _) (.inr fun i h => h) h (by kernel_rfl) (AllP.cons hc1843 (AllP.cons hc1844 AllP.nil)) ?_
                intro a w h
                exact ⟨(List.set v1581 (Int.toNat (List.getD x0.2.1 (Int.toNat (List.getD v1584 (Int.toNat v1651) (0 : Int))) ((0 : Int), ((0 : Int), ((0 : Int), ((0 : Int), ((0 : Int), (⟨#[]⟩ : ByteArray))))))).2.1) (List.getD v1582 (Int.toNat (List.getD v1584 (Int.toNat v1651) (0 : Int))) (0 : Int))), hF, h.arrive (fz := []) (l := [2, 6, 8, 9, 10, 11, 16, 17]) (.inr fun i h => h) (by kernel_rfl)⟩
              · replace hF := of_f hb hF
                refine wp_skip ?_
                exact ⟨v1581, hF, h.arrive (fz := []) (l := [2, 6, 8, 9, 10, 11, 16, 17]) (.inr fun i h => h) (by kernel_rfl)⟩
            · rintro a w ⟨v1666, hF, h⟩
              rw [f94.j1667] at hF
              obtain ⟨hc1842, hF⟩ := of_if hF
              refine wp_reg_seq tok (orc := orcL []) (fz := []) (l := [2, 6, 8, 9, 10, 11, 16, 18]) (c := _) (.inr fun i h => h) h (by kernel_rfl) (AllP.cons hc1842 AllP.nil) ?_
              intro a w h
              refine wp_reg_seq tok (orc := orcL []) (fz := []) (l := [2, 6, 8, 9, 10, 11, 16, 18, 19]) (c := _) (.inr fun i h => h) h (by kernel_rfl) (AllP.nil) ?_
              intro a w h
              refine wp_block ?_
              refine wp_loop_fuel (f94.l1668 k r31 x0 v1584 v1651 v1583 v1666 ((f94.l1028 k x0 r31) m1028)) (fun ((v1788, v1789, v1790) : ((List Int) × (List Int) × Int)) => [(2, .val sh11 (some x0)), (6, .val (.sl true 2 (.int .i64)) v1666), (8, .val (.sl true 2 (.int .i64)) v1788), (9, .val (.sl true 4 .bool) (List.set v1583 (Int.toNat (List.getD v1584 (Int.toNat v1651) (0 : Int))) true)), (10, .val (.sl true 2 (.int .i64)) v1789), (11, .val sh13 r31), (16, .val (.int .i64) (List.getD v1584 (Int.toNat v1651) (0 : Int))), (18, .copy 11 [.idx (Int.toNat (List.getD x0.2.1 (Int.toNat (List.getD v1584 (Int.toNat v1651) (0 : Int))) ((0 : Int), ((0 : Int), ((0 : Int), ((0 : Int), ((0 : Int), (⟨#[]⟩ : ByteArray))))))).2.1)]), (19, .val (.int .i64) v1790)]) (fun v h => by obtain ⟨v1788, v1789, v1790⟩ := v; rw [f94.l1668] at h; cases h) ?_ hF (h.arrive (fz := []) (l := [2, 6, 8, 9, 10, 11, 16, 18, 19]) (.inr fun i h => h) (by kernel_rfl))
              intro m1668 v a w hF h
              obtain ⟨v1788, v1789, v1790⟩ := v
              rw [f94.l1668] at hF
              refine wp_seq ?_
              refine wp_reg_seq tok (orc := orcL []) (fz := []) (l := [2, 6, 8, 9, 10, 11, 16, 18, 19, 178]) (c := _) (.inr fun i h => h) h (by kernel_rfl) (AllP.nil) ?_
              intro a w h
              refine wp_if h (b := (decide ((v1790 : Int) < (List.length (List.getD r31 (Int.toNat (List.getD x0.2.1 (Int.toNat (List.getD v1584 (Int.toNat v1651) (0 : Int))) ((0 : Int), ((0 : Int), ((0 : Int), ((0 : Int), ((0 : Int), (⟨#[]⟩ : ByteArray))))))).2.1) ([] : (List Int))) : Int)))) (by kernel_rfl) (fun hb => ?_) (fun hb => ?_)
              · replace hF := of_t hb hF
                refine wp_skip ?_
                refine wp_mid (fun a w => ∃ v : ((List Int) × (List Int)), f94.j1817 k v1790 ((f94.l1668 k r31 x0 v1584 v1651 v1583 v1666 ((f94.l1028 k x0 r31) m1028)) m1668) v = some r ∧ Rel w0 (fun _ => False) Zi Try.f94.ntmps ((fun ((v1815, v1816) : ((List Int) × (List Int))) => ([(2, .val sh11 (some x0)), (6, .val (.sl true 2 (.int .i64)) v1666), (8, .val (.sl true 2 (.int .i64)) v1815), (9, .val (.sl true 4 .bool) (List.set v1583 (Int.toNat (List.getD v1584 (Int.toNat v1651) (0 : Int))) true)), (10, .val (.sl true 2 (.int .i64)) v1816), (11, .val sh13 r31), (16, .val (.int .i64) (List.getD v1584 (Int.toNat v1651) (0 : Int))), (18, .copy 11 [.idx (Int.toNat (List.getD x0.2.1 (Int.toNat (List.getD v1584 (Int.toNat v1651) (0 : Int))) ((0 : Int), ((0 : Int), ((0 : Int), ((0 : Int), ((0 : Int), (⟨#[]⟩ : ByteArray))))))).2.1)]), (19, .val (.int .i64) v1790)] : SS)) v) a w) ?_ ?_
                ·
                  refine wp_block ?_
                  obtain ⟨hc1840, hF⟩ := of_if hF
                  obtain ⟨r1818, hr1841, hF⟩ := of_bind hF
                  refine wp_regy_seq tok (orc := orcL [(187, [⟨(.int .i64), r1818⟩])]) (fz := []) (l := [2, 6, 8, 9, 10, 11, 16, 18, 19, 20]) (c := _) ([], [], [], []) 8 (.inr fun i h => h) h (by kernel_rfl) (by kernel_rfl) (AllP.cons hc1840 (AllP.cons (c76 k x0 (List.getD v1584 (Int.toNat v1651) (0 : Int)) (List.getD (List.getD r31 (Int.toNat (List.getD x0.2.1 (Int.toNat (List.getD v1584 (Int.toNat v1651) (0 : Int))) ((0 : Int), ((0 : Int), ((0 : Int), ((0 : Int), ((0 : Int), (⟨#[]⟩ : ByteArray))))))).2.1) ([] : (List Int))) (Int.toNat v1790) (0 : Int)) r1818 hr1841) AllP.nil)) ?_
                  intro a w h
                  refine wp_seq ?_
                  obtain ⟨hc1838, hF⟩ := of_if hF
                  obtain ⟨hc1839, hF⟩ := of_if hF
                  refine wp_reg_seq tok (orc := orcL []) (fz := []) (l := [2, 6, 8, 9, 10, 11, 16, 18, 19, 20, 198]) (c := _) (.inr fun i h => h) h (by kernel_rfl) (AllP.cons hc1838 (AllP.cons hc1839 AllP.nil)) ?_
                  intro a w h
                  refine wp_if h (b := (bif (List.getD (List.set v1583 (Int.toNat (List.getD v1584 (Int.toNat v1651) (0 : Int))) true) (Int.toNat (List.getD (List.getD r31 (Int.toNat (List.getD x0.2.1 (Int.toNat (List.getD v1584 (Int.toNat v1651) (0 : Int))) ((0 : Int), ((0 : Int), ((0 : Int), ((0 : Int), ((0 : Int), (⟨#[]⟩ : ByteArray))))))).2.1) ([] : (List Int))) (Int.toNat v1790) (0 : Int))) false) then true else (decide ((r1818 : Int) < (0 : Int))))) (by kernel_rfl) (fun hb => ?_) (fun hb => ?_)
                  · replace hF := of_t hb hF
                    refine wp_exit ?_
                    exact ⟨(v1788, v1789), hF, h.arrive (fz := []) (l := [2, 6, 8, 9, 10, 11, 16, 18, 19]) (.inr fun i h => h) (by kernel_rfl)⟩
                  · replace hF := of_f hb hF
                    refine wp_skip ?_
                    obtain ⟨hc1835, hF⟩ := of_if hF
                    obtain ⟨hc1836, hF⟩ := of_if hF
                    obtain ⟨hc1837, hF⟩ := of_if hF
                    refine wp_regy_seq tok (orc := orcL []) (fz := []) (l := [2, 6, 8, 9, 10, 11, 16, 18, 19, 21]) (c := _) ([], [], [], []) 17 (.inr fun i h => h) h (by kernel_rfl) (by kernel_rfl) (AllP.cons hc1835 (AllP.cons hc1836 (AllP.cons hc1837 AllP.nil))) ?_
                    intro a w h
                    obtain ⟨v1819, hv1834, hF⟩ := of_bind hF
                    replace h := h.cast (S' := [(2, .val sh11 (some x0)), (6, .val (.sl true 2 (.int .i64)) v1666), (8, .val (.sl true 2 (.int .i64)) v1788), (9, .val (.sl true 4 .bool) (List.set v1583 (Int.toNat (List.getD v1584 (Int.toNat v1651) (0 : Int))) true)), (10, .val (.sl true 2 (.int .i64)) v1789), (11, .val sh13 r31), (16, .val (.int .i64) (List.getD v1584 (Int.toNat v1651) (0 : Int))), (18, .copy 11 [.idx (Int.toNat (List.getD x0.2.1 (Int.toNat (List.getD v1584 (Int.toNat v1651) (0 : Int))) ((0 : Int), ((0 : Int), ((0 : Int), ((0 : Int), ((0 : Int), (⟨#[]⟩ : ByteArray))))))).2.1)]), (19, .val (.int .i64) v1790), (21, .val (.int .i64) v1819)]) (by cases hv1834; kernel_rfl)
                    refine wp_seq ?_
                    obtain ⟨hc1832, hF⟩ := of_if hF
                    obtain ⟨hc1833, hF⟩ := of_if hF
                    refine wp_reg_seq tok (orc := orcL []) (fz := []) (l := [2, 6, 8, 9, 10, 11, 16, 18, 19, 21, 222]) (c := _) (.inr fun i h => h) h (by kernel_rfl) (AllP.cons hc1832 (AllP.cons hc1833 AllP.nil)) ?_
                    intro a w h
                    refine wp_midT (fun a w => ∃ v : (List Int), f94.j1825 k v1790 r31 x0 v1584 v1651 v1788 v1819 (f94.j1817 k v1790 ((f94.l1668 k r31 x0 v1584 v1651 v1583 v1666 ((f94.l1028 k x0 r31) m1028)) m1668)) v = some r ∧ Rel w0 (fun _ => False) Zi Try.f94.ntmps ((fun (v1824 : (List Int)) => ([(2, .val sh11 (some x0)), (6, .val (.sl true 2 (.int .i64)) v1666), (8, .val (.sl true 2 (.int .i64)) v1788), (9, .val (.sl true 4 .bool) (List.set v1583 (Int.toNat (List.getD v1584 (Int.toNat v1651) (0 : Int))) true)), (10, .val (.sl true 2 (.int .i64)) v1824), (11, .val sh13 r31), (16, .val (.int .i64) (List.getD v1584 (Int.toNat v1651) (0 : Int))), (18, .copy 11 [.idx (Int.toNat (List.getD x0.2.1 (Int.toNat (List.getD v1584 (Int.toNat v1651) (0 : Int))) ((0 : Int), ((0 : Int), ((0 : Int), ((0 : Int), ((0 : Int), (⟨#[]⟩ : ByteArray))))))).2.1)]), (19, .val (.int .i64) v1790), (21, .val (.int .i64) v1819)] : SS)) v) a w) ?_ ?_
                    ·
                      refine wp_if h (b := (decide (((List.getD v1788 (Int.toNat (List.getD (List.getD r31 (Int.toNat (List.getD x0.2.1 (Int.toNat (List.getD v1584 (Int.toNat v1651) (0 : Int))) ((0 : Int), ((0 : Int), ((0 : Int), ((0 : Int), ((0 : Int), (⟨#[]⟩ : ByteArray))))))).2.1) ([] : (List Int))) (Int.toNat v1790) (0 : Int))) (0 : Int)) : Int) < (0 : Int)))) (by kernel_rfl) (fun hb => ?_) (fun hb => ?_)
                      · replace hF := of_t hb hF
                        obtain ⟨hc1828, hF⟩ := of_if hF
                        obtain ⟨hc1829, hF⟩ := of_if hF
                        refine wp_reg tok (orc := orcL []) (fz := []) (l := [2, 6, 8, 9, 10, 11, 16, 18, 19, 21]) (c := _) (.inr fun i h => h) h (by kernel_rfl) (AllP.cons hc1828 (AllP.cons hc1829 AllP.nil)) ?_
                        intro a w h
                        exact ⟨(v1789 ++ [(List.getD (List.getD r31 (Int.toNat (List.getD x0.2.1 (Int.toNat (List.getD v1584 (Int.toNat v1651) (0 : Int))) ((0 : Int), ((0 : Int), ((0 : Int), ((0 : Int), ((0 : Int), (⟨#[]⟩ : ByteArray))))))).2.1) ([] : (List Int))) (Int.toNat v1790) (0 : Int))]), hF, h.arrive (fz := []) (l := [2, 6, 8, 9, 10, 11, 16, 18, 19, 21]) (.inr fun i h => h) (by kernel_rfl)⟩
                      · replace hF := of_f hb hF
                        obtain ⟨hc1830, hF⟩ := of_if hF
                        obtain ⟨hc1831, hF⟩ := of_if hF
                        refine wp_reg_seq tok (orc := orcL []) (fz := []) (l := [2, 6, 8, 9, 10, 11, 16, 18, 19, 21, 238]) (c := _) (.inr fun i h => h) h (by kernel_rfl) (AllP.cons hc1830 (AllP.cons hc1831 AllP.nil)) ?_
                        intro a w h
                        refine wp_if h (b := (decide ((v1819 : Int) ≥ (List.getD v1788 (Int.toNat (List.getD (List.getD r31 (Int.toNat (List.getD x0.2.1 (Int.toNat (List.getD v1584 (Int.toNat v1651) (0 : Int))) ((0 : Int), ((0 : Int), ((0 : Int), ((0 : Int), ((0 : Int), (⟨#[]⟩ : ByteArray))))))).2.1) ([] : (List Int))) (Int.toNat v1790) (0 : Int))) (0 : Int))))) (by kernel_rfl) (fun hb => ?_) (fun hb => ?_)
                        · replace hF := of_t hb hF
                          refine wp_exit ?_
                          exact ⟨(v1788, v1789), hF, h.arrive (fz := []) (l := [2, 6, 8, 9, 10, 11, 16, 18, 19]) (.inr fun i h => h) (by kernel_rfl)⟩
                        · replace hF := of_f hb hF
                          refine wp_skip ?_
                          exact ⟨v1789, hF, h.arrive (fz := []) (l := [2, 6, 8, 9, 10, 11, 16, 18, 19, 21]) (.inr fun i h => h) (by kernel_rfl)⟩
                    · rintro a w ⟨v1824, hF, h⟩
                      rw [f94.j1825] at hF
                      obtain ⟨hc1826, hF⟩ := of_if hF
                      obtain ⟨hc1827, hF⟩ := of_if hF
                      refine wp_reg tok (orc := orcL []) (fz := []) (l := [2, 6, 8, 9, 10, 11, 16, 18, 19]) (c := _) (.inr fun i h => h) h (by kernel_rfl) (AllP.cons hc1826 (AllP.cons hc1827 AllP.nil)) ?_
                      intro a w h
                      exact ⟨((List.set v1788 (Int.toNat (List.getD (List.getD r31 (Int.toNat (List.getD x0.2.1 (Int.toNat (List.getD v1584 (Int.toNat v1651) (0 : Int))) ((0 : Int), ((0 : Int), ((0 : Int), ((0 : Int), ((0 : Int), (⟨#[]⟩ : ByteArray))))))).2.1) ([] : (List Int))) (Int.toNat v1790) (0 : Int))) v1819), v1824), hF, h.arrive (fz := []) (l := [2, 6, 8, 9, 10, 11, 16, 18, 19]) (.inr fun i h => h) (by kernel_rfl)⟩
                · rintro a w ⟨v, hF, h⟩
                  obtain ⟨v1815, v1816⟩ := v
                  rw [f94.j1817] at hF
                  refine wp_reg tok (orc := orcL []) (fz := []) (l := [2, 6, 8, 9, 10, 11, 16, 18, 19]) (c := _) (.inr fun i h => h) h (by kernel_rfl) (AllP.nil) ?_
                  intro a w h
                  exact ⟨(v1815, v1816, (IntKind.i64.wrap (v1790 + (1 : Int)))), hF, h.arrive (fz := []) (l := [2, 6, 8, 9, 10, 11, 16, 18, 19]) (.inr fun i h => h) (by kernel_rfl)⟩
              · replace hF := of_f hb hF
                refine wp_exit ?_
                exact ⟨(v1666, v1788, (List.set v1583 (Int.toNat (List.getD v1584 (Int.toNat v1651) (0 : Int))) true), v1789), hF, h.arrive (fz := []) (l := [2, 6, 8, 9, 10, 11]) (.inr fun i h => h) (by kernel_rfl)⟩
        · replace hF := of_f hb hF
          refine wp_exit ?_
          refine wp_reg_seq tok (orc := orcL []) (fz := []) (l := [4, 6]) (c := _) (.inr fun i h => h) h (by kernel_rfl) (AllP.nil) ?_
          intro a w h
          cases hF
          exact wp_ret (ret_okR tok h rfl (by kernel_rfl)).1

def f38.j838 (k : Nat) (v763 : Int) (q457 : (Int × Int × Int) → Option Int) : (Int × Int) → Option Int
  | (v836, v837) => q457 (v836, v837, (IntKind.i64.wrap (v763 + (1 : Int))))
def f38.j874 (k : Nat) (v761 : Int) (v762 : Int) (v763 : Int) (x1 : (List Int)) (q838 : (Int × Int) → Option Int) : Int → Option Int
  | v873 => if (bif (decide ((v873 : Int) ≥ (0 : Int))) then (bif (decide ((v761 : Int) < (0 : Int))) then true else (decide ((v873 : Int) < v762))) else false) then (if (0 ≤ v763 ∧ v763 < (List.length x1 : Int)) then (q838 ((List.getD x1 (Int.toNat v763) (0 : Int)), v873)) else none) else (q838 (v761, v762))
def f38.l876 (k : Nat) (x1 : (List Int)) (r839 : (List Int)) (q874 : Int → Option Int) : Nat → (Int × Int) → Option Int
  | 0, _ => none
  | m876 + 1, (v899, v900) => if (decide ((v900 : Int) < (List.length x1 : Int))) then (if (0 ≤ v900 ∧ v900 < (List.length x1 : Int)) then (if (0 ≤ (List.getD x1 (Int.toNat v900) (0 : Int)) ∧ (List.getD x1 (Int.toNat v900) (0 : Int)) < (List.length r839 : Int)) then (if (decide (((List.getD r839 (Int.toNat (List.getD x1 (Int.toNat v900) (0 : Int))) (0 : Int)) : Int) < (0 : Int))) then (q874 (-1 : Int)) else (if (0 ≤ v900 ∧ v900 < (List.length x1 : Int)) then (if (0 ≤ (List.getD x1 (Int.toNat v900) (0 : Int)) ∧ (List.getD x1 (Int.toNat v900) (0 : Int)) < (List.length r839 : Int)) then ((f38.l876 k x1 r839 q874) m876 ((IntKind.i64.wrap (v899 + (List.getD r839 (Int.toNat (List.getD x1 (Int.toNat v900) (0 : Int))) (0 : Int)))), (IntKind.i64.wrap (v900 + (1 : Int))))) else none) else none)) else none) else none) else (q874 v899)
def f38.l457 (k : Nat) (x1 : (List Int)) (x0 : ((List (Int × (Int × Int))) × ((List (Int × (Int × (Int × (Int × (Int × ByteArray)))))) × (List (Int × Int))))) : Nat → (Int × Int × Int) → Option Int
  | 0, _ => none
  | m457 + 1, (v761, v762, v763) => if (decide ((v763 : Int) < (List.length x1 : Int))) then (if (0 ≤ v763 ∧ v763 < (List.length x1 : Int)) then ((f94 k x0 (List.getD x1 (Int.toNat v763) (0 : Int))).bind fun r839 => (f38.l876 k x1 r839 (f38.j874 k v761 v762 v763 x1 (f38.j838 k v763 ((f38.l457 k x1 x0) m457))) k ((0 : Int), (0 : Int)))) else none) else (some v761)
def f38 (k : Nat) (x0 : ((List (Int × (Int × Int))) × ((List (Int × (Int × (Int × (Int × (Int × ByteArray)))))) × (List (Int × Int))))) (x1 : (List Int)) : Option Int := (f57 k x0).bind fun r1 => ((if ((!r1) = false) then f93 k x0 x1 else some default).bind fun r2 => (if (bif (!r1) then true else (!r2)) then (some (-1 : Int)) else (f38.l457 k x1 x0 k ((-1 : Int), (0 : Int), (0 : Int)))))
set_option maxRecDepth 100000 in
/-- 'spec.Center'. -/
theorem c38 (k : Nat) (x0 : ((List (Int × (Int × Int))) × ((List (Int × (Int × (Int × (Int × (Int × ByteArray)))))) × (List (Int × Int))))) (x1 : (List Int)) (r : Int) (hF : f38 k x0 x1 = some r) : PCall Try.prog 38 [⟨sh12, x0⟩, ⟨(.sl false 2 (.int .i64)), x1⟩] [⟨(.int .i64), r⟩] := by
  refine pcall_intro Try.func38 rfl rfl (Nat.le_of_ble_eq_true rfl) ?_
  intro w0 Zi a w h
  rw [f38] at hF
  refine wp_reg_seq tok (orc := orcL []) (fz := []) (l := [1, 2]) (c := _) (.inr fun i h => h) h (by kernel_rfl) (AllP.nil) ?_
  intro a w h
  refine wp_seq ?_
  obtain ⟨r1, hr911, hF⟩ := of_bind hF
  obtain ⟨r2, hr912, hF⟩ := of_bind hF
  refine wp_reg_seq tok (orc := orcL [(12, [⟨.bool, r1⟩]), (17, [⟨.bool, r2⟩])]) (fz := []) (l := [1, 2, 19]) (c := _) (.inr fun i h => h) h (by kernel_rfl) (AllP.cons (c57 k x0 r1 hr911) (AllP.cons (fun (hg : ((!r1) = false)) => c93 k x0 x1 r2 (of_g hg hr912)) AllP.nil)) ?_
  intro a w h
  refine wp_if h (b := (bif (!r1) then true else (!r2))) (by kernel_rfl) (fun hb => ?_) (fun hb => ?_)
  · replace hF := of_t hb hF
    refine wp_reg_seq tok (orc := orcL []) (fz := []) (l := [4]) (c := _) (.inr fun i h => h) h (by kernel_rfl) (AllP.nil) ?_
    intro a w h
    cases hF
    exact wp_ret (ret_okR tok h rfl (by kernel_rfl)).1
  · replace hF := of_f hb hF
    refine wp_skip ?_
    refine wp_reg_seq tok (orc := orcL []) (fz := []) (l := [1, 2, 5]) (c := _) (.inr fun i h => h) h (by kernel_rfl) (AllP.nil) ?_
    intro a w h
    refine wp_reg_seq tok (orc := orcL []) (fz := []) (l := [1, 2, 5, 6]) (c := _) (.inr fun i h => h) h (by kernel_rfl) (AllP.nil) ?_
    intro a w h
    refine wp_seq ?_
    refine wp_reg_seq tok (orc := orcL []) (fz := []) (l := [1, 2, 5, 6, 7]) (c := _) (.inr fun i h => h) h (by kernel_rfl) (AllP.nil) ?_
    intro a w h
    refine wp_block ?_
    refine wp_loop_fuel (f38.l457 k x1 x0) (fun ((v761, v762, v763) : (Int × Int × Int)) => [(1, .val (.sl false 2 (.int .i64)) x1), (2, .val sh11 (some x0)), (5, .val (.int .i64) v761), (6, .val (.int .i64) v762), (7, .val (.int .i64) v763)]) (fun v h => by obtain ⟨v761, v762, v763⟩ := v; rw [f38.l457] at h; cases h) ?_ hF (h.arrive (fz := []) (l := [1, 2, 5, 6, 7]) (.inr fun i h => h) (by kernel_rfl))
    intro m457 v a w hF h
    obtain ⟨v761, v762, v763⟩ := v
    rw [f38.l457] at hF
    refine wp_seq ?_
    refine wp_reg_seq tok (orc := orcL []) (fz := []) (l := [1, 2, 5, 6, 7, 23]) (c := _) (.inr fun i h => h) h (by kernel_rfl) (AllP.nil) ?_
    intro a w h
    refine wp_if h (b := (decide ((v763 : Int) < (List.length x1 : Int)))) (by kernel_rfl) (fun hb => ?_) (fun hb => ?_)
    · replace hF := of_t hb hF
      refine wp_skip ?_
      refine wp_mid (fun a w => ∃ v : (Int × Int), f38.j838 k v763 ((f38.l457 k x1 x0) m457) v = some r ∧ Rel w0 (fun _ => False) Zi Try.f38.ntmps ((fun ((v836, v837) : (Int × Int)) => ([(1, .val (.sl false 2 (.int .i64)) x1), (2, .val sh11 (some x0)), (5, .val (.int .i64) v836), (6, .val (.int .i64) v837), (7, .val (.int .i64) v763)] : SS)) v) a w) ?_ ?_
      ·
        refine wp_block ?_
        obtain ⟨hc909, hF⟩ := of_if hF
        obtain ⟨r839, hr910, hF⟩ := of_bind hF
        refine wp_regy_seq tok (orc := orcL [(31, [⟨(.sl true 2 (.int .i64)), r839⟩])]) (fz := []) (l := [1, 2, 5, 6, 7, 8]) (c := _) ([], [], [], []) 6 (.inr fun i h => h) h (by kernel_rfl) (by kernel_rfl) (AllP.cons hc909 (AllP.cons (c94 k x0 (List.getD x1 (Int.toNat v763) (0 : Int)) r839 hr910) AllP.nil)) ?_
        intro a w h
        refine wp_reg_seq tok (orc := orcL []) (fz := []) (l := [1, 2, 5, 6, 7, 8, 9]) (c := _) (.inr fun i h => h) h (by kernel_rfl) (AllP.nil) ?_
        intro a w h
        refine wp_seq ?_
        refine wp_reg_seq tok (orc := orcL []) (fz := []) (l := [1, 2, 5, 6, 7, 8, 9, 10]) (c := _) (.inr fun i h => h) h (by kernel_rfl) (AllP.nil) ?_
        intro a w h
        refine wp_midT (fun a w => ∃ v : Int, f38.j874 k v761 v762 v763 x1 (f38.j838 k v763 ((f38.l457 k x1 x0) m457)) v = some r ∧ Rel w0 (fun _ => False) Zi Try.f38.ntmps ((fun (v873 : Int) => ([(1, .val (.sl false 2 (.int .i64)) x1), (2, .val sh11 (some x0)), (5, .val (.int .i64) v761), (6, .val (.int .i64) v762), (7, .val (.int .i64) v763), (9, .val (.int .i64) v873)] : SS)) v) a w) ?_ ?_
        ·
          refine wp_block ?_
          refine wp_loop_fuel (f38.l876 k x1 r839 (f38.j874 k v761 v762 v763 x1 (f38.j838 k v763 ((f38.l457 k x1 x0) m457)))) (fun ((v899, v900) : (Int × Int)) => [(1, .val (.sl false 2 (.int .i64)) x1), (2, .val sh11 (some x0)), (5, .val (.int .i64) v761), (6, .val (.int .i64) v762), (7, .val (.int .i64) v763), (8, .val (.sl true 2 (.int .i64)) r839), (9, .val (.int .i64) v899), (10, .val (.int .i64) v900)]) (fun v h => by obtain ⟨v899, v900⟩ := v; rw [f38.l876] at h; cases h) ?_ hF (h.arrive (fz := []) (l := [1, 2, 5, 6, 7, 8, 9, 10]) (.inr fun i h => h) (by kernel_rfl))
          intro m876 v a w hF h
          obtain ⟨v899, v900⟩ := v
          rw [f38.l876] at hF
          refine wp_seq ?_
          refine wp_reg_seq tok (orc := orcL []) (fz := []) (l := [1, 2, 5, 6, 7, 8, 9, 10, 35]) (c := _) (.inr fun i h => h) h (by kernel_rfl) (AllP.nil) ?_
          intro a w h
          refine wp_if h (b := (decide ((v900 : Int) < (List.length x1 : Int)))) (by kernel_rfl) (fun hb => ?_) (fun hb => ?_)
          · replace hF := of_t hb hF
            refine wp_skip ?_
            refine wp_seq <| wp_block ?_
            refine wp_seq ?_
            obtain ⟨hc907, hF⟩ := of_if hF
            obtain ⟨hc908, hF⟩ := of_if hF
            refine wp_reg_seq tok (orc := orcL []) (fz := []) (l := [1, 2, 5, 6, 7, 8, 9, 10, 45]) (c := _) (.inr fun i h => h) h (by kernel_rfl) (AllP.cons hc907 (AllP.cons hc908 AllP.nil)) ?_
            intro a w h
            refine wp_if h (b := (decide (((List.getD r839 (Int.toNat (List.getD x1 (Int.toNat v900) (0 : Int))) (0 : Int)) : Int) < (0 : Int)))) (by kernel_rfl) (fun hb => ?_) (fun hb => ?_)
            · replace hF := of_t hb hF
              refine wp_reg_seq tok (orc := orcL []) (fz := []) (l := [1, 2, 5, 6, 7, 9]) (c := _) (.inr fun i h => h) h (by kernel_rfl) (AllP.nil) ?_
              intro a w h
              refine wp_exit ?_
              exact ⟨(-1 : Int), hF, h.arrive (fz := []) (l := [1, 2, 5, 6, 7, 9]) (.inr fun i h => h) (by kernel_rfl)⟩
            · replace hF := of_f hb hF
              refine wp_skip ?_
              obtain ⟨hc905, hF⟩ := of_if hF
              obtain ⟨hc906, hF⟩ := of_if hF
              refine wp_reg tok (orc := orcL []) (fz := []) (l := [1, 2, 5, 6, 7, 8, 9, 10]) (c := _) (.inr fun i h => h) h (by kernel_rfl) (AllP.cons hc905 (AllP.cons hc906 AllP.nil)) ?_
              intro a w h
              refine wp_reg tok (orc := orcL []) (fz := []) (l := [1, 2, 5, 6, 7, 8, 9, 10]) (c := _) (.inr fun i h => h) h (by kernel_rfl) (AllP.nil) ?_
              intro a w h
              exact ⟨((IntKind.i64.wrap (v899 + (List.getD r839 (Int.toNat (List.getD x1 (Int.toNat v900) (0 : Int))) (0 : Int)))), (IntKind.i64.wrap (v900 + (1 : Int)))), hF, h.arrive (fz := []) (l := [1, 2, 5, 6, 7, 8, 9, 10]) (.inr fun i h => h) (by kernel_rfl)⟩
          · replace hF := of_f hb hF
            refine wp_exit ?_
            exact ⟨v899, hF, h.arrive (fz := []) (l := [1, 2, 5, 6, 7, 9]) (.inr fun i h => h) (by kernel_rfl)⟩
        · rintro a w ⟨v873, hF, h⟩
          rw [f38.j874] at hF
          refine wp_reg_seq tok (orc := orcL []) (fz := []) (l := [1, 2, 5, 6, 7, 9, 65]) (c := _) (.inr fun i h => h) h (by kernel_rfl) (AllP.nil) ?_
          intro a w h
          refine wp_if h (b := (bif (decide ((v873 : Int) ≥ (0 : Int))) then (bif (decide ((v761 : Int) < (0 : Int))) then true else (decide ((v873 : Int) < v762))) else false)) (by kernel_rfl) (fun hb => ?_) (fun hb => ?_)
          · replace hF := of_t hb hF
            obtain ⟨hc875, hF⟩ := of_if hF
            refine wp_reg_seq tok (orc := orcL []) (fz := []) (l := [1, 2, 5, 7, 9]) (c := _) (.inr fun i h => h) h (by kernel_rfl) (AllP.cons hc875 AllP.nil) ?_
            intro a w h
            refine wp_reg tok (orc := orcL []) (fz := []) (l := [1, 2, 5, 6, 7]) (c := _) (.inr fun i h => h) h (by kernel_rfl) (AllP.nil) ?_
            intro a w h
            exact ⟨((List.getD x1 (Int.toNat v763) (0 : Int)), v873), hF, h.arrive (fz := []) (l := [1, 2, 5, 6, 7]) (.inr fun i h => h) (by kernel_rfl)⟩
          · replace hF := of_f hb hF
            refine wp_skip ?_
            exact ⟨(v761, v762), hF, h.arrive (fz := []) (l := [1, 2, 5, 6, 7]) (.inr fun i h => h) (by kernel_rfl)⟩
      · rintro a w ⟨v, hF, h⟩
        obtain ⟨v836, v837⟩ := v
        rw [f38.j838] at hF
        refine wp_reg tok (orc := orcL []) (fz := []) (l := [1, 2, 5, 6, 7]) (c := _) (.inr fun i h => h) h (by kernel_rfl) (AllP.nil) ?_
        intro a w h
        exact ⟨(v836, v837, (IntKind.i64.wrap (v763 + (1 : Int)))), hF, h.arrive (fz := []) (l := [1, 2, 5, 6, 7]) (.inr fun i h => h) (by kernel_rfl)⟩
    · replace hF := of_f hb hF
      refine wp_exit ?_
      refine wp_reg_seq tok (orc := orcL []) (fz := []) (l := [4]) (c := _) (.inr fun i h => h) h (by kernel_rfl) (AllP.nil) ?_
      intro a w h
      cases hF
      exact wp_ret (ret_okR tok h rfl (by kernel_rfl)).1

def f108 (k : Nat) (x0 : Int) : Option Bool := some (bif (decide ((x0 : Int) ≥ (1 : Int))) then (decide ((x0 : Int) ≤ (1000000000 : Int))) else false)
set_option maxRecDepth 100000 in
/-- 'impl.idOk'. -/
theorem c108 (k : Nat) (x0 : Int) (r : Bool) (hF : f108 k x0 = some r) : PCall Try.prog 108 [⟨(.int .i64), x0⟩] [⟨.bool, r⟩] := by
  refine pcall_intro Try.func108 rfl rfl (Nat.le_of_ble_eq_true rfl) ?_
  intro w0 Zi a w h
  rw [f108] at hF
  refine wp_reg_seq tok (orc := orcL []) (fz := []) (l := [0]) (c := _) (.inr fun i h => h) h (by kernel_rfl) (AllP.nil) ?_
  intro a w h
  refine wp_reg_seq tok (orc := orcL []) (fz := []) (l := [2]) (c := _) (.inr fun i h => h) h (by kernel_rfl) (AllP.nil) ?_
  intro a w h
  cases hF
  exact wp_ret (ret_okR tok h rfl (by kernel_rfl)).1

def f109 (k : Nat) (x0 : (Int × Int)) : Option Bool := some (bif (bif (bif (decide ((x0.1 : Int) ≥ (-10000000 : Int))) then (decide ((x0.1 : Int) ≤ (10000000 : Int))) else false) then (decide ((x0.2 : Int) ≥ (-10000000 : Int))) else false) then (decide ((x0.2 : Int) ≤ (10000000 : Int))) else false)
set_option maxRecDepth 100000 in
/-- 'impl.PointOk'. -/
theorem c109 (k : Nat) (x0 : (Int × Int)) (r : Bool) (hF : f109 k x0 = some r) : PCall Try.prog 109 [⟨sh5, x0⟩] [⟨.bool, r⟩] := by
  refine pcall_intro Try.func109 rfl rfl (Nat.le_of_ble_eq_true rfl) ?_
  intro w0 Zi a w h
  rw [f109] at hF
  refine wp_reg_seq tok (orc := orcL []) (fz := []) (l := [1]) (c := _) (.inr fun i h => h) h (by kernel_rfl) (AllP.nil) ?_
  intro a w h
  refine wp_reg_seq tok (orc := orcL []) (fz := []) (l := [2]) (c := _) (.inr fun i h => h) h (by kernel_rfl) (AllP.nil) ?_
  intro a w h
  cases hF
  exact wp_ret (ret_okR tok h rfl (by kernel_rfl)).1

end Go.Proofs.Ytjfledckleeoaaa.V
