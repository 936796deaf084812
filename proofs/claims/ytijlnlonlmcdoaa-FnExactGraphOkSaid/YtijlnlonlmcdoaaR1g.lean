/-
  THE CONTRACTS OF SOME FUNCTIONS OF THIS SEAT, PRINTED BY A PROGRAM OF THIS PROJECT (wip/gen/vgen.py).
-/
import Derived.Test.YtijlnlonlmcdoaaProg
import Derived.Test.YtijlnlonlmcdoaaVmW
import Derived.Test.YtijlnlonlmcdoaaVmY
import Derived.KernelRfl
set_option linter.unusedVariables false
open Go Go.Vm Go.Proofs
namespace Go.Proofs.Ytijlnlonlmcdoaa.V
abbrev sh0 : Sh := (.sl false 201 (.st (.pair (.int .i64) (.st (.pair (.int .i64) (.int .i64))))))
abbrev sh1 : Sh := (.st (.pair (.int .i64) (.pair (.int .i64) (.pair (.int .i64) (.pair (.int .i64) (.pair (.int .i64) .str))))))
abbrev sh2 : Sh := (.sl false 198 (.st (.pair (.int .i64) (.pair (.int .i64) (.pair (.int .i64) (.pair (.int .i64) (.pair (.int .i64) .str)))))))
abbrev sh3 : Sh := (.sl false 204 (.st (.pair (.int .i64) (.int .i64))))
abbrev sh4 : Sh := (.st (.pair (.sl false 201 (.st (.pair (.int .i64) (.st (.pair (.int .i64) (.int .i64)))))) (.pair (.sl false 198 (.st (.pair (.int .i64) (.pair (.int .i64) (.pair (.int .i64) (.pair (.int .i64) (.pair (.int .i64) .str))))))) (.sl false 204 (.st (.pair (.int .i64) (.int .i64)))))))
abbrev sh5 : Sh := (.st (.pair (.int .i64) (.int .i64)))
abbrev sh6 : Sh := (.st (.pair (.int .i64) (.st (.pair (.int .i64) (.int .i64)))))
abbrev sh7 : Sh := (.sl true 162 (.st (.pair (.int .i64) (.st (.pair (.int .i64) (.int .i64))))))
abbrev sh8 : Sh := (.sl true 166 (.st (.pair (.int .i64) (.pair (.int .i64) (.pair (.int .i64) (.pair (.int .i64) (.pair (.int .i64) .str)))))))
abbrev sh9 : Sh := (.sl true 168 (.st (.pair (.int .i64) (.int .i64))))
abbrev sh10 : Sh := (.st (.pair (.sl true 162 (.st (.pair (.int .i64) (.st (.pair (.int .i64) (.int .i64)))))) (.pair (.sl true 166 (.st (.pair (.int .i64) (.pair (.int .i64) (.pair (.int .i64) (.pair (.int .i64) (.pair (.int .i64) .str))))))) (.sl true 168 (.st (.pair (.int .i64) (.int .i64)))))))
abbrev sh11 : Sh := (.pt true 97 (.st (.pair (.sl false 162 (.st (.pair (.int .i64) (.st (.pair (.int .i64) (.int .i64)))))) (.pair (.sl false 166 (.st (.pair (.int .i64) (.pair (.int .i64) (.pair (.int .i64) (.pair (.int .i64) (.pair (.int .i64) .str))))))) (.sl false 168 (.st (.pair (.int .i64) (.int .i64))))))))
abbrev sh12 : Sh := (.st (.pair (.sl false 162 (.st (.pair (.int .i64) (.st (.pair (.int .i64) (.int .i64)))))) (.pair (.sl false 166 (.st (.pair (.int .i64) (.pair (.int .i64) (.pair (.int .i64) (.pair (.int .i64) (.pair (.int .i64) .str))))))) (.sl false 168 (.st (.pair (.int .i64) (.int .i64)))))))
abbrev sh13 : Sh := (.sl false 162 (.st (.pair (.int .i64) (.st (.pair (.int .i64) (.int .i64))))))
abbrev sh14 : Sh := (.sl false 166 (.st (.pair (.int .i64) (.pair (.int .i64) (.pair (.int .i64) (.pair (.int .i64) (.pair (.int .i64) .str)))))))
abbrev sh15 : Sh := (.sl false 168 (.st (.pair (.int .i64) (.int .i64))))
def tbl : Tbl := [⟨2, .int .i64, 1, 8, (.int .i64)⟩,
  ⟨3, .int .i64, 1, 8, (.int .i64)⟩,
  ⟨4, .bool, 1, 1, .bool⟩,
  ⟨9, .string, 1, 16, .str⟩,
  ⟨23, .struct [(2, 0), (2, 1)], 2, 16, (.st (.pair (.int .i64) (.int .i64)))⟩,
  ⟨27, .struct [(2, 0), (2, 1)], 2, 16, (.st (.pair (.int .i64) (.int .i64)))⟩,
  ⟨86, .slice 201, 1, 24, (.sl true 201 (.st (.pair (.int .i64) (.st (.pair (.int .i64) (.int .i64))))))⟩,
  ⟨87, .slice 198, 1, 24, (.sl true 198 (.st (.pair (.int .i64) (.pair (.int .i64) (.pair (.int .i64) (.pair (.int .i64) (.pair (.int .i64) .str)))))))⟩,
  ⟨88, .slice 204, 1, 24, (.sl true 204 (.st (.pair (.int .i64) (.int .i64))))⟩,
  ⟨90, .struct [(86, 0), (87, 1), (88, 2)], 3, 72, (.st (.pair (.sl true 201 (.st (.pair (.int .i64) (.st (.pair (.int .i64) (.int .i64)))))) (.pair (.sl true 198 (.st (.pair (.int .i64) (.pair (.int .i64) (.pair (.int .i64) (.pair (.int .i64) (.pair (.int .i64) .str))))))) (.sl true 204 (.st (.pair (.int .i64) (.int .i64)))))))⟩,
  ⟨93, .slice 162, 1, 24, (.sl true 162 (.st (.pair (.int .i64) (.st (.pair (.int .i64) (.int .i64))))))⟩,
  ⟨94, .slice 166, 1, 24, (.sl true 166 (.st (.pair (.int .i64) (.pair (.int .i64) (.pair (.int .i64) (.pair (.int .i64) (.pair (.int .i64) .str)))))))⟩,
  ⟨95, .slice 168, 1, 24, (.sl true 168 (.st (.pair (.int .i64) (.int .i64))))⟩,
  ⟨97, .struct [(93, 0), (94, 1), (95, 2)], 3, 72, (.st (.pair (.sl true 162 (.st (.pair (.int .i64) (.st (.pair (.int .i64) (.int .i64)))))) (.pair (.sl true 166 (.st (.pair (.int .i64) (.pair (.int .i64) (.pair (.int .i64) (.pair (.int .i64) (.pair (.int .i64) .str))))))) (.sl true 168 (.st (.pair (.int .i64) (.int .i64)))))))⟩,
  ⟨162, .struct [(2, 0), (27, 1)], 3, 24, (.st (.pair (.int .i64) (.st (.pair (.int .i64) (.int .i64)))))⟩,
  ⟨166, .struct [(2, 0), (2, 1), (2, 2), (2, 3), (2, 4), (9, 5)], 6, 56, (.st (.pair (.int .i64) (.pair (.int .i64) (.pair (.int .i64) (.pair (.int .i64) (.pair (.int .i64) .str))))))⟩,
  ⟨168, .struct [(2, 0), (2, 1)], 2, 16, (.st (.pair (.int .i64) (.int .i64)))⟩,
  ⟨198, .struct [(2, 0), (2, 1), (2, 2), (2, 3), (2, 4), (9, 5)], 6, 56, (.st (.pair (.int .i64) (.pair (.int .i64) (.pair (.int .i64) (.pair (.int .i64) (.pair (.int .i64) .str))))))⟩,
  ⟨201, .struct [(2, 0), (23, 1)], 3, 24, (.st (.pair (.int .i64) (.st (.pair (.int .i64) (.int .i64)))))⟩,
  ⟨204, .struct [(2, 0), (2, 1)], 2, 16, (.st (.pair (.int .i64) (.int .i64)))⟩]
theorem tok : TOk Try.prog tbl := by unfold TOk; kernel_rfl

def f111 (k : Nat) (x0 : (List (Int × (Int × Int)))) (x1 : Int) : Option Int := if (decide (((IntKind.i64.wrap (x1 - (List.length x0 : Int))) : Int) < (0 : Int))) then (some (-1 : Int)) else (some (IntKind.i64.wrap (x1 - (List.length x0 : Int))))
set_option maxRecDepth 100000 in
/-- 'laws.szSpotS'. -/
theorem c111 (k : Nat) (x0 : (List (Int × (Int × Int)))) (x1 : Int) (r : Int) (hF : f111 k x0 x1 = some r) : PCall Try.prog 111 [⟨sh0, x0⟩, ⟨(.int .i64), x1⟩] [⟨(.int .i64), r⟩] := by
  refine pcall_intro Try.func111 rfl rfl (Nat.le_of_ble_eq_true rfl) ?_
  intro w0 Zi a w h
  rw [f111] at hF
  refine wp_reg_seq tok (orc := orcL []) (fz := []) (l := [0, 1]) (c := _) (fun i h => h) h (by kernel_rfl) (AllP.nil) ?_
  intro a w h
  refine wp_reg_seq tok (orc := orcL []) (fz := []) (l := [1]) (c := _) (fun i h => h) h (by kernel_rfl) (AllP.nil) ?_
  intro a w h
  refine wp_seq ?_
  refine wp_reg_seq tok (orc := orcL []) (fz := []) (l := [1, 10]) (c := _) (fun i h => h) h (by kernel_rfl) (AllP.nil) ?_
  intro a w h
  refine wp_if h (b := (decide (((IntKind.i64.wrap (x1 - (List.length x0 : Int))) : Int) < (0 : Int)))) (by kernel_rfl) (fun hb => ?_) (fun hb => ?_)
  · replace hF := of_t hb hF
    refine wp_reg_seq tok (orc := orcL []) (fz := []) (l := [4]) (c := _) (fun i h => h) h (by kernel_rfl) (AllP.nil) ?_
    intro a w h
    cases hF
    exact wp_ret (ret_okR tok h rfl (by kernel_rfl)).1
  · replace hF := of_f hb hF
    refine wp_skip ?_
    refine wp_reg_seq tok (orc := orcL []) (fz := []) (l := [4]) (c := _) (fun i h => h) h (by kernel_rfl) (AllP.nil) ?_
    intro a w h
    cases hF
    exact wp_ret (ret_okR tok h rfl (by kernel_rfl)).1

def f141 (k : Nat) (x0 : (Int × (Int × (Int × (Int × (Int × ByteArray)))))) (x1 : Int) : Option Int := if (decide (((IntKind.i64.wrap (x1 - (ByteArray.size x0.2.2.2.2.2 : Int))) : Int) < (0 : Int))) then (some (-1 : Int)) else (some (IntKind.i64.wrap (x1 - (ByteArray.size x0.2.2.2.2.2 : Int))))
set_option maxRecDepth 100000 in
/-- 'laws.szRoad'. -/
theorem c141 (k : Nat) (x0 : (Int × (Int × (Int × (Int × (Int × ByteArray)))))) (x1 : Int) (r : Int) (hF : f141 k x0 x1 = some r) : PCall Try.prog 141 [⟨sh1, x0⟩, ⟨(.int .i64), x1⟩] [⟨(.int .i64), r⟩] := by
  refine pcall_intro Try.func141 rfl rfl (Nat.le_of_ble_eq_true rfl) ?_
  intro w0 Zi a w h
  rw [f141] at hF
  refine wp_reg_seq tok (orc := orcL []) (fz := []) (l := [1, 2]) (c := _) (fun i h => h) h (by kernel_rfl) (AllP.nil) ?_
  intro a w h
  refine wp_reg_seq tok (orc := orcL []) (fz := []) (l := [1]) (c := _) (fun i h => h) h (by kernel_rfl) (AllP.nil) ?_
  intro a w h
  refine wp_seq ?_
  refine wp_reg_seq tok (orc := orcL []) (fz := []) (l := [1, 11]) (c := _) (fun i h => h) h (by kernel_rfl) (AllP.nil) ?_
  intro a w h
  refine wp_if h (b := (decide (((IntKind.i64.wrap (x1 - (ByteArray.size x0.2.2.2.2.2 : Int))) : Int) < (0 : Int)))) (by kernel_rfl) (fun hb => ?_) (fun hb => ?_)
  · replace hF := of_t hb hF
    refine wp_reg_seq tok (orc := orcL []) (fz := []) (l := [4]) (c := _) (fun i h => h) h (by kernel_rfl) (AllP.nil) ?_
    intro a w h
    cases hF
    exact wp_ret (ret_okR tok h rfl (by kernel_rfl)).1
  · replace hF := of_f hb hF
    refine wp_skip ?_
    refine wp_reg_seq tok (orc := orcL []) (fz := []) (l := [4]) (c := _) (fun i h => h) h (by kernel_rfl) (AllP.nil) ?_
    intro a w h
    cases hF
    exact wp_ret (ret_okR tok h rfl (by kernel_rfl)).1

def f112.l28 (k : Nat) (x0 : (List (Int × (Int × (Int × (Int × (Int × ByteArray))))))) : Nat → (Int × Int) → Option Int
  | 0, _ => none
  | m28 + 1, (v47, v48) => if (decide ((v48 : Int) < (List.length x0 : Int))) then (if (0 ≤ v48 ∧ v48 < (List.length x0 : Int)) then ((f141 k (List.getD x0 (Int.toNat v48) ((0 : Int), ((0 : Int), ((0 : Int), ((0 : Int), ((0 : Int), (⟨#[]⟩ : ByteArray))))))) v47).bind fun r52 => (if (decide ((r52 : Int) < (0 : Int))) then (some (-1 : Int)) else ((f112.l28 k x0) m28 (r52, (IntKind.i64.wrap (v48 + (1 : Int))))))) else none) else (some v47)
def f112 (k : Nat) (x0 : (List (Int × (Int × (Int × (Int × (Int × ByteArray))))))) (x1 : Int) : Option Int := if (decide (((IntKind.i64.wrap (x1 - (List.length x0 : Int))) : Int) < (0 : Int))) then (some (-1 : Int)) else (f112.l28 k x0 k ((IntKind.i64.wrap (x1 - (List.length x0 : Int))), (0 : Int)))
set_option maxRecDepth 100000 in
/-- 'laws.szRoadS'. -/
theorem c112 (k : Nat) (x0 : (List (Int × (Int × (Int × (Int × (Int × ByteArray))))))) (x1 : Int) (r : Int) (hF : f112 k x0 x1 = some r) : PCall Try.prog 112 [⟨sh2, x0⟩, ⟨(.int .i64), x1⟩] [⟨(.int .i64), r⟩] := by
  refine pcall_intro Try.func112 rfl rfl (Nat.le_of_ble_eq_true rfl) ?_
  intro w0 Zi a w h
  rw [f112] at hF
  refine wp_reg_seq tok (orc := orcL []) (fz := []) (l := [0, 1]) (c := _) (fun i h => h) h (by kernel_rfl) (AllP.nil) ?_
  intro a w h
  refine wp_reg_seq tok (orc := orcL []) (fz := []) (l := [0, 1]) (c := _) (fun i h => h) h (by kernel_rfl) (AllP.nil) ?_
  intro a w h
  refine wp_seq ?_
  refine wp_reg_seq tok (orc := orcL []) (fz := []) (l := [0, 1, 11]) (c := _) (fun i h => h) h (by kernel_rfl) (AllP.nil) ?_
  intro a w h
  refine wp_if h (b := (decide (((IntKind.i64.wrap (x1 - (List.length x0 : Int))) : Int) < (0 : Int)))) (by kernel_rfl) (fun hb => ?_) (fun hb => ?_)
  · replace hF := of_t hb hF
    refine wp_reg_seq tok (orc := orcL []) (fz := []) (l := [4]) (c := _) (fun i h => h) h (by kernel_rfl) (AllP.nil) ?_
    intro a w h
    cases hF
    exact wp_ret (ret_okR tok h rfl (by kernel_rfl)).1
  · replace hF := of_f hb hF
    refine wp_skip ?_
    refine wp_seq ?_
    refine wp_reg_seq tok (orc := orcL []) (fz := []) (l := [0, 1, 5]) (c := _) (fun i h => h) h (by kernel_rfl) (AllP.nil) ?_
    intro a w h
    refine wp_block ?_
    refine wp_loop_fuel (f112.l28 k x0) (fun ((v47, v48) : (Int × Int)) => [(0, .val sh2 x0), (1, .val (.int .i64) v47), (5, .val (.int .i64) v48)]) (fun v h => by obtain ⟨v47, v48⟩ := v; rw [f112.l28] at h; cases h) ?_ hF (h.arrive (fz := []) (l := [0, 1, 5]) (fun i h => h) (by kernel_rfl))
    intro m28 v a w hF h
    obtain ⟨v47, v48⟩ := v
    rw [f112.l28] at hF
    refine wp_seq ?_
    refine wp_reg_seq tok (orc := orcL []) (fz := []) (l := [0, 1, 5, 15]) (c := _) (fun i h => h) h (by kernel_rfl) (AllP.nil) ?_
    intro a w h
    refine wp_if h (b := (decide ((v48 : Int) < (List.length x0 : Int)))) (by kernel_rfl) (fun hb => ?_) (fun hb => ?_)
    · replace hF := of_t hb hF
      refine wp_skip ?_
      refine wp_seq <| wp_block ?_
      obtain ⟨hc53, hF⟩ := of_if hF
      obtain ⟨r52, hr54, hF⟩ := of_bind hF
      refine wp_reg_seq tok (orc := orcL [(23, [⟨(.int .i64), r52⟩])]) (fz := []) (l := [0, 1, 5]) (c := _) (fun i h => h) h (by kernel_rfl) (AllP.cons hc53 (AllP.cons (c141 k (List.getD x0 (Int.toNat v48) ((0 : Int), ((0 : Int), ((0 : Int), ((0 : Int), ((0 : Int), (⟨#[]⟩ : ByteArray))))))) v47 r52 hr54) AllP.nil)) ?_
      intro a w h
      refine wp_reg_seq tok (orc := orcL []) (fz := []) (l := [0, 1, 5, 25]) (c := _) (fun i h => h) h (by kernel_rfl) (AllP.nil) ?_
      intro a w h
      refine wp_if h (b := (decide ((r52 : Int) < (0 : Int)))) (by kernel_rfl) (fun hb => ?_) (fun hb => ?_)
      · replace hF := of_t hb hF
        refine wp_reg_seq tok (orc := orcL []) (fz := []) (l := [4]) (c := _) (fun i h => h) h (by kernel_rfl) (AllP.nil) ?_
        intro a w h
        cases hF
        exact wp_ret (ret_okR tok h rfl (by kernel_rfl)).1
      · replace hF := of_f hb hF
        refine wp_skip ?_
        refine wp_reg tok (orc := orcL []) (fz := []) (l := [0, 1, 5]) (c := _) (fun i h => h) h (by kernel_rfl) (AllP.nil) ?_
        intro a w h
        exact ⟨(r52, (IntKind.i64.wrap (v48 + (1 : Int)))), hF, h.arrive (fz := []) (l := [0, 1, 5]) (fun i h => h) (by kernel_rfl)⟩
    · replace hF := of_f hb hF
      refine wp_exit ?_
      refine wp_reg_seq tok (orc := orcL []) (fz := []) (l := [4]) (c := _) (fun i h => h) h (by kernel_rfl) (AllP.nil) ?_
      intro a w h
      cases hF
      exact wp_ret (ret_okR tok h rfl (by kernel_rfl)).1

def f113 (k : Nat) (x0 : (List (Int × Int))) (x1 : Int) : Option Int := if (decide (((IntKind.i64.wrap (x1 - (List.length x0 : Int))) : Int) < (0 : Int))) then (some (-1 : Int)) else (some (IntKind.i64.wrap (x1 - (List.length x0 : Int))))
set_option maxRecDepth 100000 in
/-- 'laws.szBanS'. -/
theorem c113 (k : Nat) (x0 : (List (Int × Int))) (x1 : Int) (r : Int) (hF : f113 k x0 x1 = some r) : PCall Try.prog 113 [⟨sh3, x0⟩, ⟨(.int .i64), x1⟩] [⟨(.int .i64), r⟩] := by
  refine pcall_intro Try.func113 rfl rfl (Nat.le_of_ble_eq_true rfl) ?_
  intro w0 Zi a w h
  rw [f113] at hF
  refine wp_reg_seq tok (orc := orcL []) (fz := []) (l := [0, 1]) (c := _) (fun i h => h) h (by kernel_rfl) (AllP.nil) ?_
  intro a w h
  refine wp_reg_seq tok (orc := orcL []) (fz := []) (l := [1]) (c := _) (fun i h => h) h (by kernel_rfl) (AllP.nil) ?_
  intro a w h
  refine wp_seq ?_
  refine wp_reg_seq tok (orc := orcL []) (fz := []) (l := [1, 10]) (c := _) (fun i h => h) h (by kernel_rfl) (AllP.nil) ?_
  intro a w h
  refine wp_if h (b := (decide (((IntKind.i64.wrap (x1 - (List.length x0 : Int))) : Int) < (0 : Int)))) (by kernel_rfl) (fun hb => ?_) (fun hb => ?_)
  · replace hF := of_t hb hF
    refine wp_reg_seq tok (orc := orcL []) (fz := []) (l := [4]) (c := _) (fun i h => h) h (by kernel_rfl) (AllP.nil) ?_
    intro a w h
    cases hF
    exact wp_ret (ret_okR tok h rfl (by kernel_rfl)).1
  · replace hF := of_f hb hF
    refine wp_skip ?_
    refine wp_reg_seq tok (orc := orcL []) (fz := []) (l := [4]) (c := _) (fun i h => h) h (by kernel_rfl) (AllP.nil) ?_
    intro a w h
    cases hF
    exact wp_ret (ret_okR tok h rfl (by kernel_rfl)).1

def f56 (k : Nat) (x0 : ((List (Int × (Int × Int))) × ((List (Int × (Int × (Int × (Int × (Int × ByteArray)))))) × (List (Int × Int))))) (x1 : Int) : Option Int := (f111 k x0.1 x1).bind fun r1 => (if (decide ((r1 : Int) < (0 : Int))) then (some (-1 : Int)) else ((f112 k x0.2.1 r1).bind fun r2 => (if (decide ((r2 : Int) < (0 : Int))) then (some (-1 : Int)) else ((f113 k x0.2.2 r2).bind fun r3 => (if (decide ((r3 : Int) < (0 : Int))) then (some (-1 : Int)) else (some r3))))))
set_option maxRecDepth 100000 in
/-- 'laws.szGraph'. -/
theorem c56 (k : Nat) (x0 : ((List (Int × (Int × Int))) × ((List (Int × (Int × (Int × (Int × (Int × ByteArray)))))) × (List (Int × Int))))) (x1 : Int) (r : Int) (hF : f56 k x0 x1 = some r) : PCall Try.prog 56 [⟨sh4, x0⟩, ⟨(.int .i64), x1⟩] [⟨(.int .i64), r⟩] := by
  refine pcall_intro Try.func56 rfl rfl (Nat.le_of_ble_eq_true rfl) ?_
  intro w0 Zi a w h
  rw [f56] at hF
  refine wp_reg_seq tok (orc := orcL []) (fz := []) (l := [1, 2]) (c := _) (fun i h => h) h (by kernel_rfl) (AllP.nil) ?_
  intro a w h
  obtain ⟨r1, hr6, hF⟩ := of_bind hF
  refine wp_reg_seq tok (orc := orcL [(8, [⟨(.int .i64), r1⟩])]) (fz := []) (l := [1, 2]) (c := _) (fun i h => h) h (by kernel_rfl) (AllP.cons (c111 k x0.1 x1 r1 hr6) AllP.nil) ?_
  intro a w h
  refine wp_seq ?_
  refine wp_reg_seq tok (orc := orcL []) (fz := []) (l := [1, 2, 10]) (c := _) (fun i h => h) h (by kernel_rfl) (AllP.nil) ?_
  intro a w h
  refine wp_if h (b := (decide ((r1 : Int) < (0 : Int)))) (by kernel_rfl) (fun hb => ?_) (fun hb => ?_)
  · replace hF := of_t hb hF
    refine wp_reg_seq tok (orc := orcL []) (fz := []) (l := [4]) (c := _) (fun i h => h) h (by kernel_rfl) (AllP.nil) ?_
    intro a w h
    cases hF
    exact wp_ret (ret_okR tok h rfl (by kernel_rfl)).1
  · replace hF := of_f hb hF
    refine wp_skip ?_
    obtain ⟨r2, hr5, hF⟩ := of_bind hF
    refine wp_reg_seq tok (orc := orcL [(14, [⟨(.int .i64), r2⟩])]) (fz := []) (l := [1, 2]) (c := _) (fun i h => h) h (by kernel_rfl) (AllP.cons (c112 k x0.2.1 r1 r2 hr5) AllP.nil) ?_
    intro a w h
    refine wp_seq ?_
    refine wp_reg_seq tok (orc := orcL []) (fz := []) (l := [1, 2, 16]) (c := _) (fun i h => h) h (by kernel_rfl) (AllP.nil) ?_
    intro a w h
    refine wp_if h (b := (decide ((r2 : Int) < (0 : Int)))) (by kernel_rfl) (fun hb => ?_) (fun hb => ?_)
    · replace hF := of_t hb hF
      refine wp_reg_seq tok (orc := orcL []) (fz := []) (l := [4]) (c := _) (fun i h => h) h (by kernel_rfl) (AllP.nil) ?_
      intro a w h
      cases hF
      exact wp_ret (ret_okR tok h rfl (by kernel_rfl)).1
    · replace hF := of_f hb hF
      refine wp_skip ?_
      obtain ⟨r3, hr4, hF⟩ := of_bind hF
      refine wp_reg_seq tok (orc := orcL [(20, [⟨(.int .i64), r3⟩])]) (fz := []) (l := [1]) (c := _) (fun i h => h) h (by kernel_rfl) (AllP.cons (c113 k x0.2.2 r2 r3 hr4) AllP.nil) ?_
      intro a w h
      refine wp_seq ?_
      refine wp_reg_seq tok (orc := orcL []) (fz := []) (l := [1, 22]) (c := _) (fun i h => h) h (by kernel_rfl) (AllP.nil) ?_
      intro a w h
      refine wp_if h (b := (decide ((r3 : Int) < (0 : Int)))) (by kernel_rfl) (fun hb => ?_) (fun hb => ?_)
      · replace hF := of_t hb hF
        refine wp_reg_seq tok (orc := orcL []) (fz := []) (l := [4]) (c := _) (fun i h => h) h (by kernel_rfl) (AllP.nil) ?_
        intro a w h
        cases hF
        exact wp_ret (ret_okR tok h rfl (by kernel_rfl)).1
      · replace hF := of_f hb hF
        refine wp_skip ?_
        refine wp_reg_seq tok (orc := orcL []) (fz := []) (l := [4]) (c := _) (fun i h => h) h (by kernel_rfl) (AllP.nil) ?_
        intro a w h
        cases hF
        exact wp_ret (ret_okR tok h rfl (by kernel_rfl)).1

def f77 (k : Nat) (x0 : (Int × Int)) : Option (Int × Int) := some (x0.1, x0.2)
set_option maxRecDepth 100000 in
/-- 'laws.toPoint'. -/
theorem c77 (k : Nat) (x0 : (Int × Int)) (r : (Int × Int)) (hF : f77 k x0 = some r) : PCall Try.prog 77 [⟨sh5, x0⟩] [⟨sh5, r⟩] := by
  refine pcall_intro Try.func77 rfl rfl (Nat.le_of_ble_eq_true rfl) ?_
  intro w0 Zi a w h
  rw [f77] at hF
  refine wp_reg_seq tok (orc := orcL []) (fz := []) (l := [1, 2]) (c := _) (fun i h => h) h (by kernel_rfl) (AllP.nil) ?_
  intro a w h
  refine wp_reg_seq tok (orc := orcL []) (fz := []) (l := [1, 2, 3]) (c := _) (fun i h => h) h (by kernel_rfl) (AllP.nil) ?_
  intro a w h
  refine wp_reg_seq tok (orc := orcL []) (fz := []) (l := [1, 2, 3]) (c := _) (fun i h => h) h (by kernel_rfl) (AllP.nil) ?_
  intro a w h
  refine wp_reg_seq tok (orc := orcL []) (fz := []) (l := [2, 3]) (c := _) (fun i h => h) h (by kernel_rfl) (AllP.nil) ?_
  intro a w h
  refine wp_reg_seq tok (orc := orcL []) (fz := []) (l := [2]) (c := _) (fun i h => h) h (by kernel_rfl) (AllP.nil) ?_
  intro a w h
  cases hF
  exact wp_ret (ret_okR tok h rfl (by kernel_rfl)).1

def f142 (k : Nat) (x0 : (Int × (Int × Int))) : Option (Int × (Int × Int)) := (f77 k x0.2).bind fun r1 => (some (x0.1, r1))
set_option maxRecDepth 100000 in
/-- 'laws.toSpot'. -/
theorem c142 (k : Nat) (x0 : (Int × (Int × Int))) (r : (Int × (Int × Int))) (hF : f142 k x0 = some r) : PCall Try.prog 142 [⟨sh6, x0⟩] [⟨sh6, r⟩] := by
  refine pcall_intro Try.func142 rfl rfl (Nat.le_of_ble_eq_true rfl) ?_
  intro w0 Zi a w h
  rw [f142] at hF
  refine wp_reg_seq tok (orc := orcL []) (fz := []) (l := [1, 2]) (c := _) (fun i h => h) h (by kernel_rfl) (AllP.nil) ?_
  intro a w h
  refine wp_reg_seq tok (orc := orcL []) (fz := []) (l := [1, 2, 3]) (c := _) (fun i h => h) h (by kernel_rfl) (AllP.nil) ?_
  intro a w h
  refine wp_reg_seq tok (orc := orcL []) (fz := []) (l := [1, 2, 3]) (c := _) (fun i h => h) h (by kernel_rfl) (AllP.nil) ?_
  intro a w h
  obtain ⟨r1, hr2, hF⟩ := of_bind hF
  refine wp_reg_seq tok (orc := orcL [(9, [⟨sh5, r1⟩])]) (fz := []) (l := [2, 3]) (c := _) (fun i h => h) h (by kernel_rfl) (AllP.cons (c77 k x0.2 r1 hr2) AllP.nil) ?_
  intro a w h
  refine wp_reg_seq tok (orc := orcL []) (fz := []) (l := [2]) (c := _) (fun i h => h) h (by kernel_rfl) (AllP.nil) ?_
  intro a w h
  cases hF
  exact wp_ret (ret_okR tok h rfl (by kernel_rfl)).1

def f117.l34 (k : Nat) (x0 : (List (Int × (Int × Int)))) : Nat → ((List (Int × (Int × Int))) × Int) → Option (List (Int × (Int × Int)))
  | 0, _ => none
  | m34 + 1, (v57, v58) => if (decide ((v58 : Int) < (List.length x0 : Int))) then (if (0 ≤ v58 ∧ v58 < (List.length x0 : Int)) then ((f142 k (List.getD x0 (Int.toNat v58) ((0 : Int), ((0 : Int), (0 : Int))))).bind fun r63 => (if (0 ≤ v58 ∧ v58 < (List.length v57 : Int)) then ((f117.l34 k x0) m34 ((List.set v57 (Int.toNat v58) r63), (IntKind.i64.wrap (v58 + (1 : Int))))) else none)) else none) else (some v57)
def f117 (k : Nat) (x0 : (List (Int × (Int × Int)))) : Option (List (Int × (Int × Int))) := if (0 ≤ (List.length x0 : Int) ∧ Int.toNat (List.length x0 : Int) * 24 ≤ 140737488355328) then (f117.l34 k x0 k ((List.replicate (Int.toNat (List.length x0 : Int)) ((0 : Int), ((0 : Int), (0 : Int)))), (0 : Int))) else none
set_option maxRecDepth 100000 in
/-- 'laws.toSpotS'. -/
theorem c117 (k : Nat) (x0 : (List (Int × (Int × Int)))) (r : (List (Int × (Int × Int)))) (hF : f117 k x0 = some r) : PCall Try.prog 117 [⟨sh0, x0⟩] [⟨sh7, r⟩] := by
  refine pcall_intro Try.func117 rfl rfl (Nat.le_of_ble_eq_true rfl) ?_
  intro w0 Zi a w h
  rw [f117] at hF
  refine wp_reg_seq tok (orc := orcL []) (fz := []) (l := [0]) (c := _) (fun i h => h) h (by kernel_rfl) (AllP.nil) ?_
  intro a w h
  obtain ⟨hc67, hF⟩ := of_if hF
  refine wp_reg_seq tok (orc := orcL []) (fz := []) (l := [0, 3]) (c := _) (fun i h => h) h (by kernel_rfl) (AllP.cons hc67 AllP.nil) ?_
  intro a w h
  refine wp_seq ?_
  refine wp_reg_seq tok (orc := orcL []) (fz := []) (l := [0, 3, 4]) (c := _) (fun i h => h) h (by kernel_rfl) (AllP.nil) ?_
  intro a w h
  refine wp_block ?_
  refine wp_loop_fuel (f117.l34 k x0) (fun ((v57, v58) : ((List (Int × (Int × Int))) × Int)) => [(0, .val sh0 x0), (3, .val sh7 v57), (4, .val (.int .i64) v58)]) (fun v h => by obtain ⟨v57, v58⟩ := v; rw [f117.l34] at h; cases h) ?_ hF (h.arrive (fz := []) (l := [0, 3, 4]) (fun i h => h) (by kernel_rfl))
  intro m34 v a w hF h
  obtain ⟨v57, v58⟩ := v
  rw [f117.l34] at hF
  refine wp_seq ?_
  refine wp_reg_seq tok (orc := orcL []) (fz := []) (l := [0, 3, 4, 11]) (c := _) (fun i h => h) h (by kernel_rfl) (AllP.nil) ?_
  intro a w h
  refine wp_if h (b := (decide ((v58 : Int) < (List.length x0 : Int)))) (by kernel_rfl) (fun hb => ?_) (fun hb => ?_)
  · replace hF := of_t hb hF
    refine wp_skip ?_
    refine wp_seq <| wp_block ?_
    obtain ⟨hc64, hF⟩ := of_if hF
    obtain ⟨r63, hr65, hF⟩ := of_bind hF
    obtain ⟨hc66, hF⟩ := of_if hF
    refine wp_reg tok (orc := orcL [(20, [⟨sh6, r63⟩])]) (fz := []) (l := [0, 3, 4]) (c := _) (fun i h => h) h (by kernel_rfl) (AllP.cons hc64 (AllP.cons (c142 k (List.getD x0 (Int.toNat v58) ((0 : Int), ((0 : Int), (0 : Int)))) r63 hr65) (AllP.cons hc66 AllP.nil))) ?_
    intro a w h
    refine wp_reg tok (orc := orcL []) (fz := []) (l := [0, 3, 4]) (c := _) (fun i h => h) h (by kernel_rfl) (AllP.nil) ?_
    intro a w h
    exact ⟨((List.set v57 (Int.toNat v58) r63), (IntKind.i64.wrap (v58 + (1 : Int)))), hF, h.arrive (fz := []) (l := [0, 3, 4]) (fun i h => h) (by kernel_rfl)⟩
  · replace hF := of_f hb hF
    refine wp_exit ?_
    refine wp_reg_seq tok (orc := orcL []) (fz := []) (l := [2, 3]) (c := _) (fun i h => h) h (by kernel_rfl) (AllP.nil) ?_
    intro a w h
    cases hF
    exact wp_ret (ret_okR tok h rfl (by kernel_rfl)).1

def f143 (k : Nat) (x0 : (Int × (Int × (Int × (Int × (Int × ByteArray)))))) : Option (Int × (Int × (Int × (Int × (Int × ByteArray))))) := some (x0.1, (x0.2.1, (x0.2.2.1, (x0.2.2.2.1, (x0.2.2.2.2.1, x0.2.2.2.2.2)))))
set_option maxRecDepth 100000 in
/-- 'laws.toRoad'. -/
theorem c143 (k : Nat) (x0 : (Int × (Int × (Int × (Int × (Int × ByteArray)))))) (r : (Int × (Int × (Int × (Int × (Int × ByteArray)))))) (hF : f143 k x0 = some r) : PCall Try.prog 143 [⟨sh1, x0⟩] [⟨sh1, r⟩] := by
  refine pcall_intro Try.func143 rfl rfl (Nat.le_of_ble_eq_true rfl) ?_
  intro w0 Zi a w h
  rw [f143] at hF
  refine wp_reg_seq tok (orc := orcL []) (fz := []) (l := [1, 2]) (c := _) (fun i h => h) h (by kernel_rfl) (AllP.nil) ?_
  intro a w h
  refine wp_reg_seq tok (orc := orcL []) (fz := []) (l := [1, 2, 3]) (c := _) (fun i h => h) h (by kernel_rfl) (AllP.nil) ?_
  intro a w h
  refine wp_reg_seq tok (orc := orcL []) (fz := []) (l := [1, 2, 3]) (c := _) (fun i h => h) h (by kernel_rfl) (AllP.nil) ?_
  intro a w h
  refine wp_reg_seq tok (orc := orcL []) (fz := []) (l := [1, 2, 3]) (c := _) (fun i h => h) h (by kernel_rfl) (AllP.nil) ?_
  intro a w h
  refine wp_reg_seq tok (orc := orcL []) (fz := []) (l := [1, 2, 3]) (c := _) (fun i h => h) h (by kernel_rfl) (AllP.nil) ?_
  intro a w h
  refine wp_reg_seq tok (orc := orcL []) (fz := []) (l := [1, 2, 3]) (c := _) (fun i h => h) h (by kernel_rfl) (AllP.nil) ?_
  intro a w h
  refine wp_reg_seq tok (orc := orcL []) (fz := []) (l := [1, 2, 3]) (c := _) (fun i h => h) h (by kernel_rfl) (AllP.nil) ?_
  intro a w h
  refine wp_reg_seq tok (orc := orcL []) (fz := []) (l := [2, 3]) (c := _) (fun i h => h) h (by kernel_rfl) (AllP.nil) ?_
  intro a w h
  refine wp_reg_seq tok (orc := orcL []) (fz := []) (l := [2]) (c := _) (fun i h => h) h (by kernel_rfl) (AllP.nil) ?_
  intro a w h
  cases hF
  exact wp_ret (ret_okR tok h rfl (by kernel_rfl)).1

def f118.l34 (k : Nat) (x0 : (List (Int × (Int × (Int × (Int × (Int × ByteArray))))))) : Nat → ((List (Int × (Int × (Int × (Int × (Int × ByteArray)))))) × Int) → Option (List (Int × (Int × (Int × (Int × (Int × ByteArray))))))
  | 0, _ => none
  | m34 + 1, (v57, v58) => if (decide ((v58 : Int) < (List.length x0 : Int))) then (if (0 ≤ v58 ∧ v58 < (List.length x0 : Int)) then ((f143 k (List.getD x0 (Int.toNat v58) ((0 : Int), ((0 : Int), ((0 : Int), ((0 : Int), ((0 : Int), (⟨#[]⟩ : ByteArray)))))))).bind fun r63 => (if (0 ≤ v58 ∧ v58 < (List.length v57 : Int)) then ((f118.l34 k x0) m34 ((List.set v57 (Int.toNat v58) r63), (IntKind.i64.wrap (v58 + (1 : Int))))) else none)) else none) else (some v57)
def f118 (k : Nat) (x0 : (List (Int × (Int × (Int × (Int × (Int × ByteArray))))))) : Option (List (Int × (Int × (Int × (Int × (Int × ByteArray)))))) := if (0 ≤ (List.length x0 : Int) ∧ Int.toNat (List.length x0 : Int) * 56 ≤ 140737488355328) then (f118.l34 k x0 k ((List.replicate (Int.toNat (List.length x0 : Int)) ((0 : Int), ((0 : Int), ((0 : Int), ((0 : Int), ((0 : Int), (⟨#[]⟩ : ByteArray))))))), (0 : Int))) else none
set_option maxRecDepth 100000 in
/-- 'laws.toRoadS'. -/
theorem c118 (k : Nat) (x0 : (List (Int × (Int × (Int × (Int × (Int × ByteArray))))))) (r : (List (Int × (Int × (Int × (Int × (Int × ByteArray))))))) (hF : f118 k x0 = some r) : PCall Try.prog 118 [⟨sh2, x0⟩] [⟨sh8, r⟩] := by
  refine pcall_intro Try.func118 rfl rfl (Nat.le_of_ble_eq_true rfl) ?_
  intro w0 Zi a w h
  rw [f118] at hF
  refine wp_reg_seq tok (orc := orcL []) (fz := []) (l := [0]) (c := _) (fun i h => h) h (by kernel_rfl) (AllP.nil) ?_
  intro a w h
  obtain ⟨hc67, hF⟩ := of_if hF
  refine wp_reg_seq tok (orc := orcL []) (fz := []) (l := [0, 3]) (c := _) (fun i h => h) h (by kernel_rfl) (AllP.cons hc67 AllP.nil) ?_
  intro a w h
  refine wp_seq ?_
  refine wp_reg_seq tok (orc := orcL []) (fz := []) (l := [0, 3, 4]) (c := _) (fun i h => h) h (by kernel_rfl) (AllP.nil) ?_
  intro a w h
  refine wp_block ?_
  refine wp_loop_fuel (f118.l34 k x0) (fun ((v57, v58) : ((List (Int × (Int × (Int × (Int × (Int × ByteArray)))))) × Int)) => [(0, .val sh2 x0), (3, .val sh8 v57), (4, .val (.int .i64) v58)]) (fun v h => by obtain ⟨v57, v58⟩ := v; rw [f118.l34] at h; cases h) ?_ hF (h.arrive (fz := []) (l := [0, 3, 4]) (fun i h => h) (by kernel_rfl))
  intro m34 v a w hF h
  obtain ⟨v57, v58⟩ := v
  rw [f118.l34] at hF
  refine wp_seq ?_
  refine wp_reg_seq tok (orc := orcL []) (fz := []) (l := [0, 3, 4, 11]) (c := _) (fun i h => h) h (by kernel_rfl) (AllP.nil) ?_
  intro a w h
  refine wp_if h (b := (decide ((v58 : Int) < (List.length x0 : Int)))) (by kernel_rfl) (fun hb => ?_) (fun hb => ?_)
  · replace hF := of_t hb hF
    refine wp_skip ?_
    refine wp_seq <| wp_block ?_
    obtain ⟨hc64, hF⟩ := of_if hF
    obtain ⟨r63, hr65, hF⟩ := of_bind hF
    obtain ⟨hc66, hF⟩ := of_if hF
    refine wp_reg tok (orc := orcL [(20, [⟨sh1, r63⟩])]) (fz := []) (l := [0, 3, 4]) (c := _) (fun i h => h) h (by kernel_rfl) (AllP.cons hc64 (AllP.cons (c143 k (List.getD x0 (Int.toNat v58) ((0 : Int), ((0 : Int), ((0 : Int), ((0 : Int), ((0 : Int), (⟨#[]⟩ : ByteArray))))))) r63 hr65) (AllP.cons hc66 AllP.nil))) ?_
    intro a w h
    refine wp_reg tok (orc := orcL []) (fz := []) (l := [0, 3, 4]) (c := _) (fun i h => h) h (by kernel_rfl) (AllP.nil) ?_
    intro a w h
    exact ⟨((List.set v57 (Int.toNat v58) r63), (IntKind.i64.wrap (v58 + (1 : Int)))), hF, h.arrive (fz := []) (l := [0, 3, 4]) (fun i h => h) (by kernel_rfl)⟩
  · replace hF := of_f hb hF
    refine wp_exit ?_
    refine wp_reg_seq tok (orc := orcL []) (fz := []) (l := [2, 3]) (c := _) (fun i h => h) h (by kernel_rfl) (AllP.nil) ?_
    intro a w h
    cases hF
    exact wp_ret (ret_okR tok h rfl (by kernel_rfl)).1

def f144 (k : Nat) (x0 : (Int × Int)) : Option (Int × Int) := some (x0.1, x0.2)
set_option maxRecDepth 100000 in
/-- 'laws.toBan'. -/
theorem c144 (k : Nat) (x0 : (Int × Int)) (r : (Int × Int)) (hF : f144 k x0 = some r) : PCall Try.prog 144 [⟨sh5, x0⟩] [⟨sh5, r⟩] := by
  refine pcall_intro Try.func144 rfl rfl (Nat.le_of_ble_eq_true rfl) ?_
  intro w0 Zi a w h
  rw [f144] at hF
  refine wp_reg_seq tok (orc := orcL []) (fz := []) (l := [1, 2]) (c := _) (fun i h => h) h (by kernel_rfl) (AllP.nil) ?_
  intro a w h
  refine wp_reg_seq tok (orc := orcL []) (fz := []) (l := [1, 2, 3]) (c := _) (fun i h => h) h (by kernel_rfl) (AllP.nil) ?_
  intro a w h
  refine wp_reg_seq tok (orc := orcL []) (fz := []) (l := [1, 2, 3]) (c := _) (fun i h => h) h (by kernel_rfl) (AllP.nil) ?_
  intro a w h
  refine wp_reg_seq tok (orc := orcL []) (fz := []) (l := [2, 3]) (c := _) (fun i h => h) h (by kernel_rfl) (AllP.nil) ?_
  intro a w h
  refine wp_reg_seq tok (orc := orcL []) (fz := []) (l := [2]) (c := _) (fun i h => h) h (by kernel_rfl) (AllP.nil) ?_
  intro a w h
  cases hF
  exact wp_ret (ret_okR tok h rfl (by kernel_rfl)).1

def f119.l34 (k : Nat) (x0 : (List (Int × Int))) : Nat → ((List (Int × Int)) × Int) → Option (List (Int × Int))
  | 0, _ => none
  | m34 + 1, (v57, v58) => if (decide ((v58 : Int) < (List.length x0 : Int))) then (if (0 ≤ v58 ∧ v58 < (List.length x0 : Int)) then ((f144 k (List.getD x0 (Int.toNat v58) ((0 : Int), (0 : Int)))).bind fun r63 => (if (0 ≤ v58 ∧ v58 < (List.length v57 : Int)) then ((f119.l34 k x0) m34 ((List.set v57 (Int.toNat v58) r63), (IntKind.i64.wrap (v58 + (1 : Int))))) else none)) else none) else (some v57)
def f119 (k : Nat) (x0 : (List (Int × Int))) : Option (List (Int × Int)) := if (0 ≤ (List.length x0 : Int) ∧ Int.toNat (List.length x0 : Int) * 16 ≤ 140737488355328) then (f119.l34 k x0 k ((List.replicate (Int.toNat (List.length x0 : Int)) ((0 : Int), (0 : Int))), (0 : Int))) else none
set_option maxRecDepth 100000 in
/-- 'laws.toBanS'. -/
theorem c119 (k : Nat) (x0 : (List (Int × Int))) (r : (List (Int × Int))) (hF : f119 k x0 = some r) : PCall Try.prog 119 [⟨sh3, x0⟩] [⟨sh9, r⟩] := by
  refine pcall_intro Try.func119 rfl rfl (Nat.le_of_ble_eq_true rfl) ?_
  intro w0 Zi a w h
  rw [f119] at hF
  refine wp_reg_seq tok (orc := orcL []) (fz := []) (l := [0]) (c := _) (fun i h => h) h (by kernel_rfl) (AllP.nil) ?_
  intro a w h
  obtain ⟨hc67, hF⟩ := of_if hF
  refine wp_reg_seq tok (orc := orcL []) (fz := []) (l := [0, 3]) (c := _) (fun i h => h) h (by kernel_rfl) (AllP.cons hc67 AllP.nil) ?_
  intro a w h
  refine wp_seq ?_
  refine wp_reg_seq tok (orc := orcL []) (fz := []) (l := [0, 3, 4]) (c := _) (fun i h => h) h (by kernel_rfl) (AllP.nil) ?_
  intro a w h
  refine wp_block ?_
  refine wp_loop_fuel (f119.l34 k x0) (fun ((v57, v58) : ((List (Int × Int)) × Int)) => [(0, .val sh3 x0), (3, .val sh9 v57), (4, .val (.int .i64) v58)]) (fun v h => by obtain ⟨v57, v58⟩ := v; rw [f119.l34] at h; cases h) ?_ hF (h.arrive (fz := []) (l := [0, 3, 4]) (fun i h => h) (by kernel_rfl))
  intro m34 v a w hF h
  obtain ⟨v57, v58⟩ := v
  rw [f119.l34] at hF
  refine wp_seq ?_
  refine wp_reg_seq tok (orc := orcL []) (fz := []) (l := [0, 3, 4, 11]) (c := _) (fun i h => h) h (by kernel_rfl) (AllP.nil) ?_
  intro a w h
  refine wp_if h (b := (decide ((v58 : Int) < (List.length x0 : Int)))) (by kernel_rfl) (fun hb => ?_) (fun hb => ?_)
  · replace hF := of_t hb hF
    refine wp_skip ?_
    refine wp_seq <| wp_block ?_
    obtain ⟨hc64, hF⟩ := of_if hF
    obtain ⟨r63, hr65, hF⟩ := of_bind hF
    obtain ⟨hc66, hF⟩ := of_if hF
    refine wp_reg tok (orc := orcL [(20, [⟨sh5, r63⟩])]) (fz := []) (l := [0, 3, 4]) (c := _) (fun i h => h) h (by kernel_rfl) (AllP.cons hc64 (AllP.cons (c144 k (List.getD x0 (Int.toNat v58) ((0 : Int), (0 : Int))) r63 hr65) (AllP.cons hc66 AllP.nil))) ?_
    intro a w h
    refine wp_reg tok (orc := orcL []) (fz := []) (l := [0, 3, 4]) (c := _) (fun i h => h) h (by kernel_rfl) (AllP.nil) ?_
    intro a w h
    exact ⟨((List.set v57 (Int.toNat v58) r63), (IntKind.i64.wrap (v58 + (1 : Int)))), hF, h.arrive (fz := []) (l := [0, 3, 4]) (fun i h => h) (by kernel_rfl)⟩
  · replace hF := of_f hb hF
    refine wp_exit ?_
    refine wp_reg_seq tok (orc := orcL []) (fz := []) (l := [2, 3]) (c := _) (fun i h => h) h (by kernel_rfl) (AllP.nil) ?_
    intro a w h
    cases hF
    exact wp_ret (ret_okR tok h rfl (by kernel_rfl)).1

def f58 (k : Nat) (x0 : ((List (Int × (Int × Int))) × ((List (Int × (Int × (Int × (Int × (Int × ByteArray)))))) × (List (Int × Int))))) : Option ((List (Int × (Int × Int))) × ((List (Int × (Int × (Int × (Int × (Int × ByteArray)))))) × (List (Int × Int)))) := (f117 k x0.1).bind fun r1 => ((f118 k x0.2.1).bind fun r2 => ((f119 k x0.2.2).bind fun r3 => (some (r1, (r2, r3)))))
set_option maxRecDepth 100000 in
/-- 'laws.toGraph'. -/
theorem c58 (k : Nat) (x0 : ((List (Int × (Int × Int))) × ((List (Int × (Int × (Int × (Int × (Int × ByteArray)))))) × (List (Int × Int))))) (r : ((List (Int × (Int × Int))) × ((List (Int × (Int × (Int × (Int × (Int × ByteArray)))))) × (List (Int × Int))))) (hF : f58 k x0 = some r) : PCall Try.prog 58 [⟨sh4, x0⟩] [⟨sh10, r⟩] := by
  refine pcall_intro Try.func58 rfl rfl (Nat.le_of_ble_eq_true rfl) ?_
  intro w0 Zi a w h
  rw [f58] at hF
  refine wp_reg_seq tok (orc := orcL []) (fz := []) (l := [1, 2]) (c := _) (fun i h => h) h (by kernel_rfl) (AllP.nil) ?_
  intro a w h
  refine wp_reg_seq tok (orc := orcL []) (fz := []) (l := [1, 2, 3]) (c := _) (fun i h => h) h (by kernel_rfl) (AllP.nil) ?_
  intro a w h
  obtain ⟨r1, hr6, hF⟩ := of_bind hF
  refine wp_reg_seq tok (orc := orcL [(6, [⟨sh7, r1⟩])]) (fz := []) (l := [1, 2, 3]) (c := _) (fun i h => h) h (by kernel_rfl) (AllP.cons (c117 k x0.1 r1 hr6) AllP.nil) ?_
  intro a w h
  obtain ⟨r2, hr5, hF⟩ := of_bind hF
  refine wp_reg_seq tok (orc := orcL [(10, [⟨sh8, r2⟩])]) (fz := []) (l := [1, 2, 3]) (c := _) (fun i h => h) h (by kernel_rfl) (AllP.cons (c118 k x0.2.1 r2 hr5) AllP.nil) ?_
  intro a w h
  obtain ⟨r3, hr4, hF⟩ := of_bind hF
  refine wp_reg_seq tok (orc := orcL [(14, [⟨sh9, r3⟩])]) (fz := []) (l := [2, 3]) (c := _) (fun i h => h) h (by kernel_rfl) (AllP.cons (c119 k x0.2.2 r3 hr4) AllP.nil) ?_
  intro a w h
  refine wp_reg_seq tok (orc := orcL []) (fz := []) (l := [2]) (c := _) (fun i h => h) h (by kernel_rfl) (AllP.nil) ?_
  intro a w h
  cases hF
  exact wp_ret (ret_okR tok h rfl (by kernel_rfl)).1

def f114 (k : Nat) (x0 : Int) : Option Bool := some (bif (decide ((x0 : Int) ≥ (1 : Int))) then (decide ((x0 : Int) ≤ (1000000000 : Int))) else false)
set_option maxRecDepth 100000 in
/-- 'spec.l2IdOk'. -/
theorem c114 (k : Nat) (x0 : Int) (r : Bool) (hF : f114 k x0 = some r) : PCall Try.prog 114 [⟨(.int .i64), x0⟩] [⟨.bool, r⟩] := by
  refine pcall_intro Try.func114 rfl rfl (Nat.le_of_ble_eq_true rfl) ?_
  intro w0 Zi a w h
  rw [f114] at hF
  refine wp_reg_seq tok (orc := orcL []) (fz := []) (l := [0]) (c := _) (fun i h => h) h (by kernel_rfl) (AllP.nil) ?_
  intro a w h
  refine wp_reg_seq tok (orc := orcL []) (fz := []) (l := [2]) (c := _) (fun i h => h) h (by kernel_rfl) (AllP.nil) ?_
  intro a w h
  cases hF
  exact wp_ret (ret_okR tok h rfl (by kernel_rfl)).1

def f115 (k : Nat) (x0 : (Int × Int)) : Option Bool := some (bif (bif (bif (decide ((x0.1 : Int) ≥ (-10000000 : Int))) then (decide ((x0.1 : Int) ≤ (10000000 : Int))) else false) then (decide ((x0.2 : Int) ≥ (-10000000 : Int))) else false) then (decide ((x0.2 : Int) ≤ (10000000 : Int))) else false)
set_option maxRecDepth 100000 in
/-- 'spec.PointOk'. -/
theorem c115 (k : Nat) (x0 : (Int × Int)) (r : Bool) (hF : f115 k x0 = some r) : PCall Try.prog 115 [⟨sh5, x0⟩] [⟨.bool, r⟩] := by
  refine pcall_intro Try.func115 rfl rfl (Nat.le_of_ble_eq_true rfl) ?_
  intro w0 Zi a w h
  rw [f115] at hF
  refine wp_reg_seq tok (orc := orcL []) (fz := []) (l := [1]) (c := _) (fun i h => h) h (by kernel_rfl) (AllP.nil) ?_
  intro a w h
  refine wp_reg_seq tok (orc := orcL []) (fz := []) (l := [2]) (c := _) (fun i h => h) h (by kernel_rfl) (AllP.nil) ?_
  intro a w h
  cases hF
  exact wp_ret (ret_okR tok h rfl (by kernel_rfl)).1

def f116 (k : Nat) (x0 : (Int × Int)) (x1 : (Int × Int)) : Option Bool := some (bif (decide ((x0.1 : Int) < x1.1)) then true else (bif ((x0.1 : Int) == x1.1) then (decide ((x0.2 : Int) < x1.2)) else false))
set_option maxRecDepth 100000 in
/-- 'spec.l9BanLess'. -/
theorem c116 (k : Nat) (x0 : (Int × Int)) (x1 : (Int × Int)) (r : Bool) (hF : f116 k x0 x1 = some r) : PCall Try.prog 116 [⟨sh5, x0⟩, ⟨sh5, x1⟩] [⟨.bool, r⟩] := by
  refine pcall_intro Try.func116 rfl rfl (Nat.le_of_ble_eq_true rfl) ?_
  intro w0 Zi a w h
  rw [f116] at hF
  refine wp_reg_seq tok (orc := orcL []) (fz := []) (l := [2, 3]) (c := _) (fun i h => h) h (by kernel_rfl) (AllP.nil) ?_
  intro a w h
  refine wp_reg_seq tok (orc := orcL []) (fz := []) (l := [4]) (c := _) (fun i h => h) h (by kernel_rfl) (AllP.nil) ?_
  intro a w h
  cases hF
  exact wp_ret (ret_okR tok h rfl (by kernel_rfl)).1

def f57.l170 (k : Nat) (x0 : ((List (Int × (Int × Int))) × ((List (Int × (Int × (Int × (Int × (Int × ByteArray)))))) × (List (Int × Int))))) : Nat → Int → Option Bool
  | 0, _ => none
  | m170 + 1, v198 => if (decide ((v198 : Int) < (List.length x0.2.2 : Int))) then (if (0 ≤ v198 ∧ v198 < (List.length x0.2.2 : Int)) then (if (((bif (bif (bif (decide (((List.getD x0.2.2 (Int.toNat v198) ((0 : Int), (0 : Int))).1 : Int) < (0 : Int))) then true else (decide (((List.getD x0.2.2 (Int.toNat v198) ((0 : Int), (0 : Int))).1 : Int) ≥ (List.length x0.2.1 : Int)))) then true else (decide (((List.getD x0.2.2 (Int.toNat v198) ((0 : Int), (0 : Int))).2 : Int) < (0 : Int)))) then true else (decide (((List.getD x0.2.2 (Int.toNat v198) ((0 : Int), (0 : Int))).2 : Int) ≥ (List.length x0.2.1 : Int)))) = false) → (0 ≤ (List.getD x0.2.2 (Int.toNat v198) ((0 : Int), (0 : Int))).1 ∧ (List.getD x0.2.2 (Int.toNat v198) ((0 : Int), (0 : Int))).1 < (List.length x0.2.1 : Int))) then (if (((bif (bif (bif (decide (((List.getD x0.2.2 (Int.toNat v198) ((0 : Int), (0 : Int))).1 : Int) < (0 : Int))) then true else (decide (((List.getD x0.2.2 (Int.toNat v198) ((0 : Int), (0 : Int))).1 : Int) ≥ (List.length x0.2.1 : Int)))) then true else (decide (((List.getD x0.2.2 (Int.toNat v198) ((0 : Int), (0 : Int))).2 : Int) < (0 : Int)))) then true else (decide (((List.getD x0.2.2 (Int.toNat v198) ((0 : Int), (0 : Int))).2 : Int) ≥ (List.length x0.2.1 : Int)))) = false) → (0 ≤ (List.getD x0.2.2 (Int.toNat v198) ((0 : Int), (0 : Int))).2 ∧ (List.getD x0.2.2 (Int.toNat v198) ((0 : Int), (0 : Int))).2 < (List.length x0.2.1 : Int))) then (if ((((bif (bif (bif (bif (decide (((List.getD x0.2.2 (Int.toNat v198) ((0 : Int), (0 : Int))).1 : Int) < (0 : Int))) then true else (decide (((List.getD x0.2.2 (Int.toNat v198) ((0 : Int), (0 : Int))).1 : Int) ≥ (List.length x0.2.1 : Int)))) then true else (decide (((List.getD x0.2.2 (Int.toNat v198) ((0 : Int), (0 : Int))).2 : Int) < (0 : Int)))) then true else (decide (((List.getD x0.2.2 (Int.toNat v198) ((0 : Int), (0 : Int))).2 : Int) ≥ (List.length x0.2.1 : Int)))) then true else (((List.getD x0.2.1 (Int.toNat (List.getD x0.2.2 (Int.toNat v198) ((0 : Int), (0 : Int))).1) ((0 : Int), ((0 : Int), ((0 : Int), ((0 : Int), ((0 : Int), (⟨#[]⟩ : ByteArray))))))).2.1 : Int) != (List.getD x0.2.1 (Int.toNat (List.getD x0.2.2 (Int.toNat v198) ((0 : Int), (0 : Int))).2) ((0 : Int), ((0 : Int), ((0 : Int), ((0 : Int), ((0 : Int), (⟨#[]⟩ : ByteArray))))))).1)) = false) ∧ ((decide ((v198 : Int) > (0 : Int))) = true)) → (0 ≤ (IntKind.i64.wrap (v198 - (1 : Int))) ∧ (IntKind.i64.wrap (v198 - (1 : Int))) < (List.length x0.2.2 : Int))) then ((if (((bif (bif (bif (bif (decide (((List.getD x0.2.2 (Int.toNat v198) ((0 : Int), (0 : Int))).1 : Int) < (0 : Int))) then true else (decide (((List.getD x0.2.2 (Int.toNat v198) ((0 : Int), (0 : Int))).1 : Int) ≥ (List.length x0.2.1 : Int)))) then true else (decide (((List.getD x0.2.2 (Int.toNat v198) ((0 : Int), (0 : Int))).2 : Int) < (0 : Int)))) then true else (decide (((List.getD x0.2.2 (Int.toNat v198) ((0 : Int), (0 : Int))).2 : Int) ≥ (List.length x0.2.1 : Int)))) then true else (((List.getD x0.2.1 (Int.toNat (List.getD x0.2.2 (Int.toNat v198) ((0 : Int), (0 : Int))).1) ((0 : Int), ((0 : Int), ((0 : Int), ((0 : Int), ((0 : Int), (⟨#[]⟩ : ByteArray))))))).2.1 : Int) != (List.getD x0.2.1 (Int.toNat (List.getD x0.2.2 (Int.toNat v198) ((0 : Int), (0 : Int))).2) ((0 : Int), ((0 : Int), ((0 : Int), ((0 : Int), ((0 : Int), (⟨#[]⟩ : ByteArray))))))).1)) = false) ∧ ((decide ((v198 : Int) > (0 : Int))) = true)) then f116 k (List.getD x0.2.2 (Int.toNat (IntKind.i64.wrap (v198 - (1 : Int)))) ((0 : Int), (0 : Int))) (List.getD x0.2.2 (Int.toNat v198) ((0 : Int), (0 : Int))) else some default).bind fun r205 => (if (bif (bif (bif (bif (bif (decide (((List.getD x0.2.2 (Int.toNat v198) ((0 : Int), (0 : Int))).1 : Int) < (0 : Int))) then true else (decide (((List.getD x0.2.2 (Int.toNat v198) ((0 : Int), (0 : Int))).1 : Int) ≥ (List.length x0.2.1 : Int)))) then true else (decide (((List.getD x0.2.2 (Int.toNat v198) ((0 : Int), (0 : Int))).2 : Int) < (0 : Int)))) then true else (decide (((List.getD x0.2.2 (Int.toNat v198) ((0 : Int), (0 : Int))).2 : Int) ≥ (List.length x0.2.1 : Int)))) then true else (((List.getD x0.2.1 (Int.toNat (List.getD x0.2.2 (Int.toNat v198) ((0 : Int), (0 : Int))).1) ((0 : Int), ((0 : Int), ((0 : Int), ((0 : Int), ((0 : Int), (⟨#[]⟩ : ByteArray))))))).2.1 : Int) != (List.getD x0.2.1 (Int.toNat (List.getD x0.2.2 (Int.toNat v198) ((0 : Int), (0 : Int))).2) ((0 : Int), ((0 : Int), ((0 : Int), ((0 : Int), ((0 : Int), (⟨#[]⟩ : ByteArray))))))).1)) then true else (bif (decide ((v198 : Int) > (0 : Int))) then (!r205) else false)) then (some false) else ((f57.l170 k x0) m170 (IntKind.i64.wrap (v198 + (1 : Int)))))) else none) else none) else none) else none) else (some true)
def f57.l106 (k : Nat) (x0 : ((List (Int × (Int × Int))) × ((List (Int × (Int × (Int × (Int × (Int × ByteArray)))))) × (List (Int × Int))))) : Nat → Int → Option Bool
  | 0, _ => none
  | m106 + 1, v122 => if (decide ((v122 : Int) < (List.length x0.2.1 : Int))) then (if (0 ≤ v122 ∧ v122 < (List.length x0.2.1 : Int)) then ((if ((bif (bif (bif (decide (((List.getD x0.2.1 (Int.toNat v122) ((0 : Int), ((0 : Int), ((0 : Int), ((0 : Int), ((0 : Int), (⟨#[]⟩ : ByteArray))))))).1 : Int) < (0 : Int))) then true else (decide (((List.getD x0.2.1 (Int.toNat v122) ((0 : Int), ((0 : Int), ((0 : Int), ((0 : Int), ((0 : Int), (⟨#[]⟩ : ByteArray))))))).1 : Int) ≥ (List.length x0.1 : Int)))) then true else (decide (((List.getD x0.2.1 (Int.toNat v122) ((0 : Int), ((0 : Int), ((0 : Int), ((0 : Int), ((0 : Int), (⟨#[]⟩ : ByteArray))))))).2.1 : Int) < (0 : Int)))) then true else (decide (((List.getD x0.2.1 (Int.toNat v122) ((0 : Int), ((0 : Int), ((0 : Int), ((0 : Int), ((0 : Int), (⟨#[]⟩ : ByteArray))))))).2.1 : Int) ≥ (List.length x0.1 : Int)))) = false) then f114 k (List.getD x0.2.1 (Int.toNat v122) ((0 : Int), ((0 : Int), ((0 : Int), ((0 : Int), ((0 : Int), (⟨#[]⟩ : ByteArray))))))).2.2.1 else some default).bind fun r126 => (if (bif (bif (bif (bif (bif (bif (bif (bif (decide (((List.getD x0.2.1 (Int.toNat v122) ((0 : Int), ((0 : Int), ((0 : Int), ((0 : Int), ((0 : Int), (⟨#[]⟩ : ByteArray))))))).1 : Int) < (0 : Int))) then true else (decide (((List.getD x0.2.1 (Int.toNat v122) ((0 : Int), ((0 : Int), ((0 : Int), ((0 : Int), ((0 : Int), (⟨#[]⟩ : ByteArray))))))).1 : Int) ≥ (List.length x0.1 : Int)))) then true else (decide (((List.getD x0.2.1 (Int.toNat v122) ((0 : Int), ((0 : Int), ((0 : Int), ((0 : Int), ((0 : Int), (⟨#[]⟩ : ByteArray))))))).2.1 : Int) < (0 : Int)))) then true else (decide (((List.getD x0.2.1 (Int.toNat v122) ((0 : Int), ((0 : Int), ((0 : Int), ((0 : Int), ((0 : Int), (⟨#[]⟩ : ByteArray))))))).2.1 : Int) ≥ (List.length x0.1 : Int)))) then true else (!r126)) then true else (decide (((List.getD x0.2.1 (Int.toNat v122) ((0 : Int), ((0 : Int), ((0 : Int), ((0 : Int), ((0 : Int), (⟨#[]⟩ : ByteArray))))))).2.2.2.1 : Int) < (1 : Int)))) then true else (decide (((List.getD x0.2.1 (Int.toNat v122) ((0 : Int), ((0 : Int), ((0 : Int), ((0 : Int), ((0 : Int), (⟨#[]⟩ : ByteArray))))))).2.2.2.1 : Int) > (1000000 : Int)))) then true else (decide (((List.getD x0.2.1 (Int.toNat v122) ((0 : Int), ((0 : Int), ((0 : Int), ((0 : Int), ((0 : Int), (⟨#[]⟩ : ByteArray))))))).2.2.2.2.1 : Int) < (0 : Int)))) then true else (decide (((List.getD x0.2.1 (Int.toNat v122) ((0 : Int), ((0 : Int), ((0 : Int), ((0 : Int), ((0 : Int), (⟨#[]⟩ : ByteArray))))))).2.2.2.2.1 : Int) > (1000000000 : Int)))) then (some false) else ((f57.l106 k x0) m106 (IntKind.i64.wrap (v122 + (1 : Int)))))) else none) else (f57.l170 k x0 k (0 : Int))
def f57.l42 (k : Nat) (x0 : ((List (Int × (Int × Int))) × ((List (Int × (Int × (Int × (Int × (Int × ByteArray)))))) × (List (Int × Int))))) : Nat → Int → Option Bool
  | 0, _ => none
  | m42 + 1, v70 => if (decide ((v70 : Int) < (List.length x0.1 : Int))) then (if (0 ≤ v70 ∧ v70 < (List.length x0.1 : Int)) then ((f114 k (List.getD x0.1 (Int.toNat v70) ((0 : Int), ((0 : Int), (0 : Int)))).1).bind fun r77 => ((if ((!r77) = false) then f115 k (List.getD x0.1 (Int.toNat v70) ((0 : Int), ((0 : Int), (0 : Int)))).2 else some default).bind fun r78 => (if ((((bif (!r77) then true else (!r78)) = false) ∧ ((decide ((v70 : Int) > (0 : Int))) = true)) → (0 ≤ (IntKind.i64.wrap (v70 - (1 : Int))) ∧ (IntKind.i64.wrap (v70 - (1 : Int))) < (List.length x0.1 : Int))) then (if (bif (bif (!r77) then true else (!r78)) then true else (bif (decide ((v70 : Int) > (0 : Int))) then (decide (((List.getD x0.1 (Int.toNat (IntKind.i64.wrap (v70 - (1 : Int)))) ((0 : Int), ((0 : Int), (0 : Int)))).1 : Int) ≥ (List.getD x0.1 (Int.toNat v70) ((0 : Int), ((0 : Int), (0 : Int)))).1)) else false)) then (some false) else ((f57.l42 k x0) m42 (IntKind.i64.wrap (v70 + (1 : Int))))) else none))) else none) else (f57.l106 k x0 k (0 : Int))
def f57 (k : Nat) (x0 : ((List (Int × (Int × Int))) × ((List (Int × (Int × (Int × (Int × (Int × ByteArray)))))) × (List (Int × Int))))) : Option Bool := if (bif (bif (decide (((List.length x0.1 : Int) : Int) > (5000 : Int))) then true else (decide (((List.length x0.2.1 : Int) : Int) > (8000 : Int)))) then true else (decide (((List.length x0.2.2 : Int) : Int) > (2000 : Int)))) then (some false) else (f57.l42 k x0 k (0 : Int))
set_option maxRecDepth 100000 in
/-- 'spec.GraphOk'. -/
theorem c57 (k : Nat) (x0 : ((List (Int × (Int × Int))) × ((List (Int × (Int × (Int × (Int × (Int × ByteArray)))))) × (List (Int × Int))))) (r : Bool) (hF : f57 k x0 = some r) : PCall Try.prog 57 [⟨sh12, x0⟩] [⟨.bool, r⟩] := by
  refine pcall_intro Try.func57 rfl rfl (Nat.le_of_ble_eq_true rfl) ?_
  intro w0 Zi a w h
  rw [f57] at hF
  refine wp_reg_seq tok (orc := orcL []) (fz := []) (l := [1]) (c := _) (fun i h => h) h (by kernel_rfl) (AllP.nil) ?_
  intro a w h
  refine wp_seq ?_
  refine wp_reg_seq tok (orc := orcL []) (fz := []) (l := [1, 26]) (c := _) (fun i h => h) h (by kernel_rfl) (AllP.nil) ?_
  intro a w h
  refine wp_if h (b := (bif (bif (decide (((List.length x0.1 : Int) : Int) > (5000 : Int))) then true else (decide (((List.length x0.2.1 : Int) : Int) > (8000 : Int)))) then true else (decide (((List.length x0.2.2 : Int) : Int) > (2000 : Int))))) (by kernel_rfl) (fun hb => ?_) (fun hb => ?_)
  · replace hF := of_t hb hF
    refine wp_reg_seq tok (orc := orcL []) (fz := []) (l := [2]) (c := _) (fun i h => h) h (by kernel_rfl) (AllP.nil) ?_
    intro a w h
    cases hF
    exact wp_ret (ret_okR tok h rfl (by kernel_rfl)).1
  · replace hF := of_f hb hF
    refine wp_skip ?_
    refine wp_seq ?_
    refine wp_reg_seq tok (orc := orcL []) (fz := []) (l := [1, 3]) (c := _) (fun i h => h) h (by kernel_rfl) (AllP.nil) ?_
    intro a w h
    refine wp_block ?_
    refine wp_loop_fuel (f57.l42 k x0) (fun (v70 : Int) => [(1, .val sh11 (some x0)), (3, .val (.int .i64) v70)]) (fun v h => by rw [f57.l42] at h; cases h) ?_ hF (h.arrive (fz := []) (l := [1, 3]) (fun i h => h) (by kernel_rfl))
    intro m42 v70 a w hF h
    rw [f57.l42] at hF
    refine wp_seq ?_
    refine wp_reg_seq tok (orc := orcL []) (fz := []) (l := [1, 3, 31]) (c := _) (fun i h => h) h (by kernel_rfl) (AllP.nil) ?_
    intro a w h
    refine wp_if h (b := (decide ((v70 : Int) < (List.length x0.1 : Int)))) (by kernel_rfl) (fun hb => ?_) (fun hb => ?_)
    · replace hF := of_t hb hF
      refine wp_skip ?_
      refine wp_seq <| wp_block ?_
      obtain ⟨hc82, hF⟩ := of_if hF
      refine wp_reg_seq tok (orc := orcL []) (fz := []) (l := [1, 3, 4]) (c := _) (fun i h => h) h (by kernel_rfl) (AllP.cons hc82 AllP.nil) ?_
      intro a w h
      obtain ⟨r77, hr79, hF⟩ := of_bind hF
      obtain ⟨r78, hr80, hF⟩ := of_bind hF
      obtain ⟨hc81, hF⟩ := of_if hF
      refine wp_regy_seq tok (orc := orcL [(41, [⟨.bool, r77⟩]), (46, [⟨.bool, r78⟩])]) (fz := []) (l := [1, 3, 64]) (c := _) 26 (fun i h => h) h (by kernel_rfl) (by kernel_rfl) (AllP.cons (c114 k (List.getD x0.1 (Int.toNat v70) ((0 : Int), ((0 : Int), (0 : Int)))).1 r77 hr79) (AllP.cons (fun (hg : ((!r77) = false)) => c115 k (List.getD x0.1 (Int.toNat v70) ((0 : Int), ((0 : Int), (0 : Int)))).2 r78 (of_g hg hr80)) (AllP.cons hc81 AllP.nil))) ?_
      intro a w h
      refine wp_if h (b := (bif (bif (!r77) then true else (!r78)) then true else (bif (decide ((v70 : Int) > (0 : Int))) then (decide (((List.getD x0.1 (Int.toNat (IntKind.i64.wrap (v70 - (1 : Int)))) ((0 : Int), ((0 : Int), (0 : Int)))).1 : Int) ≥ (List.getD x0.1 (Int.toNat v70) ((0 : Int), ((0 : Int), (0 : Int)))).1)) else false))) (by kernel_rfl) (fun hb => ?_) (fun hb => ?_)
      · replace hF := of_t hb hF
        refine wp_reg_seq tok (orc := orcL []) (fz := []) (l := [2]) (c := _) (fun i h => h) h (by kernel_rfl) (AllP.nil) ?_
        intro a w h
        cases hF
        exact wp_ret (ret_okR tok h rfl (by kernel_rfl)).1
      · replace hF := of_f hb hF
        refine wp_skip ?_
        refine wp_reg tok (orc := orcL []) (fz := []) (l := [1, 3]) (c := _) (fun i h => h) h (by kernel_rfl) (AllP.nil) ?_
        intro a w h
        exact ⟨(IntKind.i64.wrap (v70 + (1 : Int))), hF, h.arrive (fz := []) (l := [1, 3]) (fun i h => h) (by kernel_rfl)⟩
    · replace hF := of_f hb hF
      refine wp_exit ?_
      refine wp_reg_seq tok (orc := orcL []) (fz := []) (l := [1, 5]) (c := _) (fun i h => h) h (by kernel_rfl) (AllP.nil) ?_
      intro a w h
      refine wp_seq ?_
      refine wp_reg_seq tok (orc := orcL []) (fz := []) (l := [1, 5, 6]) (c := _) (fun i h => h) h (by kernel_rfl) (AllP.nil) ?_
      intro a w h
      refine wp_block ?_
      refine wp_loop_fuel (f57.l106 k x0) (fun (v122 : Int) => [(1, .val sh11 (some x0)), (5, .val (.int .i64) (List.length x0.1 : Int)), (6, .val (.int .i64) v122)]) (fun v h => by rw [f57.l106] at h; cases h) ?_ hF (h.arrive (fz := []) (l := [1, 5, 6]) (fun i h => h) (by kernel_rfl))
      intro m106 v122 a w hF h
      rw [f57.l106] at hF
      refine wp_seq ?_
      refine wp_reg_seq tok (orc := orcL []) (fz := []) (l := [1, 5, 6, 72]) (c := _) (fun i h => h) h (by kernel_rfl) (AllP.nil) ?_
      intro a w h
      refine wp_if h (b := (decide ((v122 : Int) < (List.length x0.2.1 : Int)))) (by kernel_rfl) (fun hb => ?_) (fun hb => ?_)
      · replace hF := of_t hb hF
        refine wp_skip ?_
        refine wp_seq <| wp_block ?_
        obtain ⟨hc128, hF⟩ := of_if hF
        refine wp_reg_seq tok (orc := orcL []) (fz := []) (l := [1, 5, 6, 7]) (c := _) (fun i h => h) h (by kernel_rfl) (AllP.cons hc128 AllP.nil) ?_
        intro a w h
        obtain ⟨r126, hr127, hF⟩ := of_bind hF
        refine wp_reg_seq tok (orc := orcL [(103, [⟨.bool, r126⟩])]) (fz := []) (l := [1, 5, 6, 125]) (c := _) (fun i h => h) h (by kernel_rfl) (AllP.cons (fun (hg : ((bif (bif (bif (decide (((List.getD x0.2.1 (Int.toNat v122) ((0 : Int), ((0 : Int), ((0 : Int), ((0 : Int), ((0 : Int), (⟨#[]⟩ : ByteArray))))))).1 : Int) < (0 : Int))) then true else (decide (((List.getD x0.2.1 (Int.toNat v122) ((0 : Int), ((0 : Int), ((0 : Int), ((0 : Int), ((0 : Int), (⟨#[]⟩ : ByteArray))))))).1 : Int) ≥ (List.length x0.1 : Int)))) then true else (decide (((List.getD x0.2.1 (Int.toNat v122) ((0 : Int), ((0 : Int), ((0 : Int), ((0 : Int), ((0 : Int), (⟨#[]⟩ : ByteArray))))))).2.1 : Int) < (0 : Int)))) then true else (decide (((List.getD x0.2.1 (Int.toNat v122) ((0 : Int), ((0 : Int), ((0 : Int), ((0 : Int), ((0 : Int), (⟨#[]⟩ : ByteArray))))))).2.1 : Int) ≥ (List.length x0.1 : Int)))) = false)) => c114 k (List.getD x0.2.1 (Int.toNat v122) ((0 : Int), ((0 : Int), ((0 : Int), ((0 : Int), ((0 : Int), (⟨#[]⟩ : ByteArray))))))).2.2.1 r126 (of_g hg hr127)) AllP.nil) ?_
        intro a w h
        refine wp_if h (b := (bif (bif (bif (bif (bif (bif (bif (bif (decide (((List.getD x0.2.1 (Int.toNat v122) ((0 : Int), ((0 : Int), ((0 : Int), ((0 : Int), ((0 : Int), (⟨#[]⟩ : ByteArray))))))).1 : Int) < (0 : Int))) then true else (decide (((List.getD x0.2.1 (Int.toNat v122) ((0 : Int), ((0 : Int), ((0 : Int), ((0 : Int), ((0 : Int), (⟨#[]⟩ : ByteArray))))))).1 : Int) ≥ (List.length x0.1 : Int)))) then true else (decide (((List.getD x0.2.1 (Int.toNat v122) ((0 : Int), ((0 : Int), ((0 : Int), ((0 : Int), ((0 : Int), (⟨#[]⟩ : ByteArray))))))).2.1 : Int) < (0 : Int)))) then true else (decide (((List.getD x0.2.1 (Int.toNat v122) ((0 : Int), ((0 : Int), ((0 : Int), ((0 : Int), ((0 : Int), (⟨#[]⟩ : ByteArray))))))).2.1 : Int) ≥ (List.length x0.1 : Int)))) then true else (!r126)) then true else (decide (((List.getD x0.2.1 (Int.toNat v122) ((0 : Int), ((0 : Int), ((0 : Int), ((0 : Int), ((0 : Int), (⟨#[]⟩ : ByteArray))))))).2.2.2.1 : Int) < (1 : Int)))) then true else (decide (((List.getD x0.2.1 (Int.toNat v122) ((0 : Int), ((0 : Int), ((0 : Int), ((0 : Int), ((0 : Int), (⟨#[]⟩ : ByteArray))))))).2.2.2.1 : Int) > (1000000 : Int)))) then true else (decide (((List.getD x0.2.1 (Int.toNat v122) ((0 : Int), ((0 : Int), ((0 : Int), ((0 : Int), ((0 : Int), (⟨#[]⟩ : ByteArray))))))).2.2.2.2.1 : Int) < (0 : Int)))) then true else (decide (((List.getD x0.2.1 (Int.toNat v122) ((0 : Int), ((0 : Int), ((0 : Int), ((0 : Int), ((0 : Int), (⟨#[]⟩ : ByteArray))))))).2.2.2.2.1 : Int) > (1000000000 : Int))))) (by kernel_rfl) (fun hb => ?_) (fun hb => ?_)
        · replace hF := of_t hb hF
          refine wp_reg_seq tok (orc := orcL []) (fz := []) (l := [2]) (c := _) (fun i h => h) h (by kernel_rfl) (AllP.nil) ?_
          intro a w h
          cases hF
          exact wp_ret (ret_okR tok h rfl (by kernel_rfl)).1
        · replace hF := of_f hb hF
          refine wp_skip ?_
          refine wp_reg tok (orc := orcL []) (fz := []) (l := [1, 5, 6]) (c := _) (fun i h => h) h (by kernel_rfl) (AllP.nil) ?_
          intro a w h
          exact ⟨(IntKind.i64.wrap (v122 + (1 : Int))), hF, h.arrive (fz := []) (l := [1, 5, 6]) (fun i h => h) (by kernel_rfl)⟩
      · replace hF := of_f hb hF
        refine wp_exit ?_
        refine wp_reg_seq tok (orc := orcL []) (fz := []) (l := [1, 8]) (c := _) (fun i h => h) h (by kernel_rfl) (AllP.nil) ?_
        intro a w h
        refine wp_seq ?_
        refine wp_reg_seq tok (orc := orcL []) (fz := []) (l := [1, 8, 9]) (c := _) (fun i h => h) h (by kernel_rfl) (AllP.nil) ?_
        intro a w h
        refine wp_block ?_
        refine wp_loop_fuel (f57.l170 k x0) (fun (v198 : Int) => [(1, .val sh11 (some x0)), (8, .val (.int .i64) (List.length x0.2.1 : Int)), (9, .val (.int .i64) v198)]) (fun v h => by rw [f57.l170] at h; cases h) ?_ hF (h.arrive (fz := []) (l := [1, 8, 9]) (fun i h => h) (by kernel_rfl))
        intro m170 v198 a w hF h
        rw [f57.l170] at hF
        refine wp_seq ?_
        refine wp_reg_seq tok (orc := orcL []) (fz := []) (l := [1, 8, 9, 133]) (c := _) (fun i h => h) h (by kernel_rfl) (AllP.nil) ?_
        intro a w h
        refine wp_if h (b := (decide ((v198 : Int) < (List.length x0.2.2 : Int)))) (by kernel_rfl) (fun hb => ?_) (fun hb => ?_)
        · replace hF := of_t hb hF
          refine wp_skip ?_
          refine wp_seq <| wp_block ?_
          obtain ⟨hc210, hF⟩ := of_if hF
          refine wp_reg_seq tok (orc := orcL []) (fz := []) (l := [1, 8, 9, 10]) (c := _) (fun i h => h) h (by kernel_rfl) (AllP.cons hc210 AllP.nil) ?_
          intro a w h
          obtain ⟨hc206, hF⟩ := of_if hF
          obtain ⟨hc207, hF⟩ := of_if hF
          obtain ⟨hc208, hF⟩ := of_if hF
          obtain ⟨r205, hr209, hF⟩ := of_bind hF
          refine wp_regy_seq tok (orc := orcL [(189, [⟨.bool, r205⟩])]) (fz := []) (l := [1, 8, 9, 192]) (c := _) 52 (fun i h => h) h (by kernel_rfl) (by kernel_rfl) (AllP.cons hc206 (AllP.cons hc207 (AllP.cons hc208 (AllP.cons (fun (hg : (((bif (bif (bif (bif (decide (((List.getD x0.2.2 (Int.toNat v198) ((0 : Int), (0 : Int))).1 : Int) < (0 : Int))) then true else (decide (((List.getD x0.2.2 (Int.toNat v198) ((0 : Int), (0 : Int))).1 : Int) ≥ (List.length x0.2.1 : Int)))) then true else (decide (((List.getD x0.2.2 (Int.toNat v198) ((0 : Int), (0 : Int))).2 : Int) < (0 : Int)))) then true else (decide (((List.getD x0.2.2 (Int.toNat v198) ((0 : Int), (0 : Int))).2 : Int) ≥ (List.length x0.2.1 : Int)))) then true else (((List.getD x0.2.1 (Int.toNat (List.getD x0.2.2 (Int.toNat v198) ((0 : Int), (0 : Int))).1) ((0 : Int), ((0 : Int), ((0 : Int), ((0 : Int), ((0 : Int), (⟨#[]⟩ : ByteArray))))))).2.1 : Int) != (List.getD x0.2.1 (Int.toNat (List.getD x0.2.2 (Int.toNat v198) ((0 : Int), (0 : Int))).2) ((0 : Int), ((0 : Int), ((0 : Int), ((0 : Int), ((0 : Int), (⟨#[]⟩ : ByteArray))))))).1)) = false) ∧ ((decide ((v198 : Int) > (0 : Int))) = true))) => c116 k (List.getD x0.2.2 (Int.toNat (IntKind.i64.wrap (v198 - (1 : Int)))) ((0 : Int), (0 : Int))) (List.getD x0.2.2 (Int.toNat v198) ((0 : Int), (0 : Int))) r205 (of_g hg hr209)) AllP.nil)))) ?_
          intro a w h
          refine wp_if h (b := (bif (bif (bif (bif (bif (decide (((List.getD x0.2.2 (Int.toNat v198) ((0 : Int), (0 : Int))).1 : Int) < (0 : Int))) then true else (decide (((List.getD x0.2.2 (Int.toNat v198) ((0 : Int), (0 : Int))).1 : Int) ≥ (List.length x0.2.1 : Int)))) then true else (decide (((List.getD x0.2.2 (Int.toNat v198) ((0 : Int), (0 : Int))).2 : Int) < (0 : Int)))) then true else (decide (((List.getD x0.2.2 (Int.toNat v198) ((0 : Int), (0 : Int))).2 : Int) ≥ (List.length x0.2.1 : Int)))) then true else (((List.getD x0.2.1 (Int.toNat (List.getD x0.2.2 (Int.toNat v198) ((0 : Int), (0 : Int))).1) ((0 : Int), ((0 : Int), ((0 : Int), ((0 : Int), ((0 : Int), (⟨#[]⟩ : ByteArray))))))).2.1 : Int) != (List.getD x0.2.1 (Int.toNat (List.getD x0.2.2 (Int.toNat v198) ((0 : Int), (0 : Int))).2) ((0 : Int), ((0 : Int), ((0 : Int), ((0 : Int), ((0 : Int), (⟨#[]⟩ : ByteArray))))))).1)) then true else (bif (decide ((v198 : Int) > (0 : Int))) then (!r205) else false))) (by kernel_rfl) (fun hb => ?_) (fun hb => ?_)
          · replace hF := of_t hb hF
            refine wp_reg_seq tok (orc := orcL []) (fz := []) (l := [2]) (c := _) (fun i h => h) h (by kernel_rfl) (AllP.nil) ?_
            intro a w h
            cases hF
            exact wp_ret (ret_okR tok h rfl (by kernel_rfl)).1
          · replace hF := of_f hb hF
            refine wp_skip ?_
            refine wp_reg tok (orc := orcL []) (fz := []) (l := [1, 8, 9]) (c := _) (fun i h => h) h (by kernel_rfl) (AllP.nil) ?_
            intro a w h
            exact ⟨(IntKind.i64.wrap (v198 + (1 : Int))), hF, h.arrive (fz := []) (l := [1, 8, 9]) (fun i h => h) (by kernel_rfl)⟩
        · replace hF := of_f hb hF
          refine wp_exit ?_
          refine wp_reg_seq tok (orc := orcL []) (fz := []) (l := [2]) (c := _) (fun i h => h) h (by kernel_rfl) (AllP.nil) ?_
          intro a w h
          cases hF
          exact wp_ret (ret_okR tok h rfl (by kernel_rfl)).1

def f120 (k : Nat) (x0 : Int) : Option Bool := some (bif (decide ((x0 : Int) ≥ (1 : Int))) then (decide ((x0 : Int) ≤ (1000000000 : Int))) else false)
set_option maxRecDepth 100000 in
/-- 'impl.idOk'. -/
theorem c120 (k : Nat) (x0 : Int) (r : Bool) (hF : f120 k x0 = some r) : PCall Try.prog 120 [⟨(.int .i64), x0⟩] [⟨.bool, r⟩] := by
  refine pcall_intro Try.func120 rfl rfl (Nat.le_of_ble_eq_true rfl) ?_
  intro w0 Zi a w h
  rw [f120] at hF
  refine wp_reg_seq tok (orc := orcL []) (fz := []) (l := [0]) (c := _) (fun i h => h) h (by kernel_rfl) (AllP.nil) ?_
  intro a w h
  refine wp_reg_seq tok (orc := orcL []) (fz := []) (l := [2]) (c := _) (fun i h => h) h (by kernel_rfl) (AllP.nil) ?_
  intro a w h
  cases hF
  exact wp_ret (ret_okR tok h rfl (by kernel_rfl)).1

def f121 (k : Nat) (x0 : (Int × Int)) : Option Bool := some (bif (bif (bif (decide ((x0.1 : Int) ≥ (-10000000 : Int))) then (decide ((x0.1 : Int) ≤ (10000000 : Int))) else false) then (decide ((x0.2 : Int) ≥ (-10000000 : Int))) else false) then (decide ((x0.2 : Int) ≤ (10000000 : Int))) else false)
set_option maxRecDepth 100000 in
/-- 'impl.PointOk'. -/
theorem c121 (k : Nat) (x0 : (Int × Int)) (r : Bool) (hF : f121 k x0 = some r) : PCall Try.prog 121 [⟨sh5, x0⟩] [⟨.bool, r⟩] := by
  refine pcall_intro Try.func121 rfl rfl (Nat.le_of_ble_eq_true rfl) ?_
  intro w0 Zi a w h
  rw [f121] at hF
  refine wp_reg_seq tok (orc := orcL []) (fz := []) (l := [1]) (c := _) (fun i h => h) h (by kernel_rfl) (AllP.nil) ?_
  intro a w h
  refine wp_reg_seq tok (orc := orcL []) (fz := []) (l := [2]) (c := _) (fun i h => h) h (by kernel_rfl) (AllP.nil) ?_
  intro a w h
  cases hF
  exact wp_ret (ret_okR tok h rfl (by kernel_rfl)).1

def f59.j188 (k : Nat) (v183 : Int) (q161 : Int → Option Bool) : Unit → Option Bool
  | _ => q161 (IntKind.i64.wrap (v183 + (1 : Int)))
def f59.l161 (k : Nat) (x0 : ((List (Int × (Int × Int))) × ((List (Int × (Int × (Int × (Int × (Int × ByteArray)))))) × (List (Int × Int))))) : Nat → Int → Option Bool
  | 0, _ => none
  | m161 + 1, v183 => if (decide ((v183 : Int) < (List.length x0.2.2 : Int))) then (if (0 ≤ v183 ∧ v183 < (List.length x0.2.2 : Int)) then (if (((bif (bif (bif (decide (((List.getD x0.2.2 (Int.toNat v183) ((0 : Int), (0 : Int))).1 : Int) < (0 : Int))) then true else (decide (((List.getD x0.2.2 (Int.toNat v183) ((0 : Int), (0 : Int))).1 : Int) ≥ (List.length x0.2.1 : Int)))) then true else (decide (((List.getD x0.2.2 (Int.toNat v183) ((0 : Int), (0 : Int))).2 : Int) < (0 : Int)))) then true else (decide (((List.getD x0.2.2 (Int.toNat v183) ((0 : Int), (0 : Int))).2 : Int) ≥ (List.length x0.2.1 : Int)))) = false) → (0 ≤ (List.getD x0.2.2 (Int.toNat v183) ((0 : Int), (0 : Int))).1 ∧ (List.getD x0.2.2 (Int.toNat v183) ((0 : Int), (0 : Int))).1 < (List.length x0.2.1 : Int))) then (if (((bif (bif (bif (decide (((List.getD x0.2.2 (Int.toNat v183) ((0 : Int), (0 : Int))).1 : Int) < (0 : Int))) then true else (decide (((List.getD x0.2.2 (Int.toNat v183) ((0 : Int), (0 : Int))).1 : Int) ≥ (List.length x0.2.1 : Int)))) then true else (decide (((List.getD x0.2.2 (Int.toNat v183) ((0 : Int), (0 : Int))).2 : Int) < (0 : Int)))) then true else (decide (((List.getD x0.2.2 (Int.toNat v183) ((0 : Int), (0 : Int))).2 : Int) ≥ (List.length x0.2.1 : Int)))) = false) → (0 ≤ (List.getD x0.2.2 (Int.toNat v183) ((0 : Int), (0 : Int))).2 ∧ (List.getD x0.2.2 (Int.toNat v183) ((0 : Int), (0 : Int))).2 < (List.length x0.2.1 : Int))) then (if (bif (bif (bif (bif (decide (((List.getD x0.2.2 (Int.toNat v183) ((0 : Int), (0 : Int))).1 : Int) < (0 : Int))) then true else (decide (((List.getD x0.2.2 (Int.toNat v183) ((0 : Int), (0 : Int))).1 : Int) ≥ (List.length x0.2.1 : Int)))) then true else (decide (((List.getD x0.2.2 (Int.toNat v183) ((0 : Int), (0 : Int))).2 : Int) < (0 : Int)))) then true else (decide (((List.getD x0.2.2 (Int.toNat v183) ((0 : Int), (0 : Int))).2 : Int) ≥ (List.length x0.2.1 : Int)))) then true else (((List.getD x0.2.1 (Int.toNat (List.getD x0.2.2 (Int.toNat v183) ((0 : Int), (0 : Int))).1) ((0 : Int), ((0 : Int), ((0 : Int), ((0 : Int), ((0 : Int), (⟨#[]⟩ : ByteArray))))))).2.1 : Int) != (List.getD x0.2.1 (Int.toNat (List.getD x0.2.2 (Int.toNat v183) ((0 : Int), (0 : Int))).2) ((0 : Int), ((0 : Int), ((0 : Int), ((0 : Int), ((0 : Int), (⟨#[]⟩ : ByteArray))))))).1)) then (some false) else (if (decide ((v183 : Int) > (0 : Int))) then (if (0 ≤ (IntKind.i64.wrap (v183 - (1 : Int))) ∧ (IntKind.i64.wrap (v183 - (1 : Int))) < (List.length x0.2.2 : Int)) then (if (bif (decide (((List.getD x0.2.2 (Int.toNat (IntKind.i64.wrap (v183 - (1 : Int)))) ((0 : Int), (0 : Int))).1 : Int) > (List.getD x0.2.2 (Int.toNat v183) ((0 : Int), (0 : Int))).1)) then true else (bif (((List.getD x0.2.2 (Int.toNat (IntKind.i64.wrap (v183 - (1 : Int)))) ((0 : Int), (0 : Int))).1 : Int) == (List.getD x0.2.2 (Int.toNat v183) ((0 : Int), (0 : Int))).1) then (decide (((List.getD x0.2.2 (Int.toNat (IntKind.i64.wrap (v183 - (1 : Int)))) ((0 : Int), (0 : Int))).2 : Int) ≥ (List.getD x0.2.2 (Int.toNat v183) ((0 : Int), (0 : Int))).2)) else false)) then (some false) else (f59.j188 k v183 ((f59.l161 k x0) m161) ())) else none) else (f59.j188 k v183 ((f59.l161 k x0) m161) ()))) else none) else none) else none) else (some true)
def f59.l106 (k : Nat) (x0 : ((List (Int × (Int × Int))) × ((List (Int × (Int × (Int × (Int × (Int × ByteArray)))))) × (List (Int × Int))))) : Nat → Int → Option Bool
  | 0, _ => none
  | m106 + 1, v122 => if (decide ((v122 : Int) < (List.length x0.2.1 : Int))) then (if (0 ≤ v122 ∧ v122 < (List.length x0.2.1 : Int)) then ((if ((bif (bif (bif (decide (((List.getD x0.2.1 (Int.toNat v122) ((0 : Int), ((0 : Int), ((0 : Int), ((0 : Int), ((0 : Int), (⟨#[]⟩ : ByteArray))))))).1 : Int) < (0 : Int))) then true else (decide (((List.getD x0.2.1 (Int.toNat v122) ((0 : Int), ((0 : Int), ((0 : Int), ((0 : Int), ((0 : Int), (⟨#[]⟩ : ByteArray))))))).1 : Int) ≥ (List.length x0.1 : Int)))) then true else (decide (((List.getD x0.2.1 (Int.toNat v122) ((0 : Int), ((0 : Int), ((0 : Int), ((0 : Int), ((0 : Int), (⟨#[]⟩ : ByteArray))))))).2.1 : Int) < (0 : Int)))) then true else (decide (((List.getD x0.2.1 (Int.toNat v122) ((0 : Int), ((0 : Int), ((0 : Int), ((0 : Int), ((0 : Int), (⟨#[]⟩ : ByteArray))))))).2.1 : Int) ≥ (List.length x0.1 : Int)))) = false) then f120 k (List.getD x0.2.1 (Int.toNat v122) ((0 : Int), ((0 : Int), ((0 : Int), ((0 : Int), ((0 : Int), (⟨#[]⟩ : ByteArray))))))).2.2.1 else some default).bind fun r126 => (if (bif (bif (bif (bif (bif (bif (bif (bif (decide (((List.getD x0.2.1 (Int.toNat v122) ((0 : Int), ((0 : Int), ((0 : Int), ((0 : Int), ((0 : Int), (⟨#[]⟩ : ByteArray))))))).1 : Int) < (0 : Int))) then true else (decide (((List.getD x0.2.1 (Int.toNat v122) ((0 : Int), ((0 : Int), ((0 : Int), ((0 : Int), ((0 : Int), (⟨#[]⟩ : ByteArray))))))).1 : Int) ≥ (List.length x0.1 : Int)))) then true else (decide (((List.getD x0.2.1 (Int.toNat v122) ((0 : Int), ((0 : Int), ((0 : Int), ((0 : Int), ((0 : Int), (⟨#[]⟩ : ByteArray))))))).2.1 : Int) < (0 : Int)))) then true else (decide (((List.getD x0.2.1 (Int.toNat v122) ((0 : Int), ((0 : Int), ((0 : Int), ((0 : Int), ((0 : Int), (⟨#[]⟩ : ByteArray))))))).2.1 : Int) ≥ (List.length x0.1 : Int)))) then true else (!r126)) then true else (decide (((List.getD x0.2.1 (Int.toNat v122) ((0 : Int), ((0 : Int), ((0 : Int), ((0 : Int), ((0 : Int), (⟨#[]⟩ : ByteArray))))))).2.2.2.1 : Int) < (1 : Int)))) then true else (decide (((List.getD x0.2.1 (Int.toNat v122) ((0 : Int), ((0 : Int), ((0 : Int), ((0 : Int), ((0 : Int), (⟨#[]⟩ : ByteArray))))))).2.2.2.1 : Int) > (1000000 : Int)))) then true else (decide (((List.getD x0.2.1 (Int.toNat v122) ((0 : Int), ((0 : Int), ((0 : Int), ((0 : Int), ((0 : Int), (⟨#[]⟩ : ByteArray))))))).2.2.2.2.1 : Int) < (0 : Int)))) then true else (decide (((List.getD x0.2.1 (Int.toNat v122) ((0 : Int), ((0 : Int), ((0 : Int), ((0 : Int), ((0 : Int), (⟨#[]⟩ : ByteArray))))))).2.2.2.2.1 : Int) > (1000000000 : Int)))) then (some false) else ((f59.l106 k x0) m106 (IntKind.i64.wrap (v122 + (1 : Int)))))) else none) else (f59.l161 k x0 k (0 : Int))
def f59.l42 (k : Nat) (x0 : ((List (Int × (Int × Int))) × ((List (Int × (Int × (Int × (Int × (Int × ByteArray)))))) × (List (Int × Int))))) : Nat → Int → Option Bool
  | 0, _ => none
  | m42 + 1, v70 => if (decide ((v70 : Int) < (List.length x0.1 : Int))) then (if (0 ≤ v70 ∧ v70 < (List.length x0.1 : Int)) then ((f120 k (List.getD x0.1 (Int.toNat v70) ((0 : Int), ((0 : Int), (0 : Int)))).1).bind fun r77 => ((if ((!r77) = false) then f121 k (List.getD x0.1 (Int.toNat v70) ((0 : Int), ((0 : Int), (0 : Int)))).2 else some default).bind fun r78 => (if ((((bif (!r77) then true else (!r78)) = false) ∧ ((decide ((v70 : Int) > (0 : Int))) = true)) → (0 ≤ (IntKind.i64.wrap (v70 - (1 : Int))) ∧ (IntKind.i64.wrap (v70 - (1 : Int))) < (List.length x0.1 : Int))) then (if (bif (bif (!r77) then true else (!r78)) then true else (bif (decide ((v70 : Int) > (0 : Int))) then (decide (((List.getD x0.1 (Int.toNat (IntKind.i64.wrap (v70 - (1 : Int)))) ((0 : Int), ((0 : Int), (0 : Int)))).1 : Int) ≥ (List.getD x0.1 (Int.toNat v70) ((0 : Int), ((0 : Int), (0 : Int)))).1)) else false)) then (some false) else ((f59.l42 k x0) m42 (IntKind.i64.wrap (v70 + (1 : Int))))) else none))) else none) else (f59.l106 k x0 k (0 : Int))
def f59 (k : Nat) (x0 : ((List (Int × (Int × Int))) × ((List (Int × (Int × (Int × (Int × (Int × ByteArray)))))) × (List (Int × Int))))) : Option Bool := if (bif (bif (decide (((List.length x0.1 : Int) : Int) > (5000 : Int))) then true else (decide (((List.length x0.2.1 : Int) : Int) > (8000 : Int)))) then true else (decide (((List.length x0.2.2 : Int) : Int) > (2000 : Int)))) then (some false) else (f59.l42 k x0 k (0 : Int))
set_option maxRecDepth 100000 in
/-- 'impl.GraphOk'. -/
theorem c59 (k : Nat) (x0 : ((List (Int × (Int × Int))) × ((List (Int × (Int × (Int × (Int × (Int × ByteArray)))))) × (List (Int × Int))))) (r : Bool) (hF : f59 k x0 = some r) : PCall Try.prog 59 [⟨sh12, x0⟩] [⟨.bool, r⟩] := by
  refine pcall_intro Try.func59 rfl rfl (Nat.le_of_ble_eq_true rfl) ?_
  intro w0 Zi a w h
  rw [f59] at hF
  refine wp_reg_seq tok (orc := orcL []) (fz := []) (l := [1]) (c := _) (fun i h => h) h (by kernel_rfl) (AllP.nil) ?_
  intro a w h
  refine wp_seq ?_
  refine wp_reg_seq tok (orc := orcL []) (fz := []) (l := [1, 27]) (c := _) (fun i h => h) h (by kernel_rfl) (AllP.nil) ?_
  intro a w h
  refine wp_if h (b := (bif (bif (decide (((List.length x0.1 : Int) : Int) > (5000 : Int))) then true else (decide (((List.length x0.2.1 : Int) : Int) > (8000 : Int)))) then true else (decide (((List.length x0.2.2 : Int) : Int) > (2000 : Int))))) (by kernel_rfl) (fun hb => ?_) (fun hb => ?_)
  · replace hF := of_t hb hF
    refine wp_reg_seq tok (orc := orcL []) (fz := []) (l := [2]) (c := _) (fun i h => h) h (by kernel_rfl) (AllP.nil) ?_
    intro a w h
    cases hF
    exact wp_ret (ret_okR tok h rfl (by kernel_rfl)).1
  · replace hF := of_f hb hF
    refine wp_skip ?_
    refine wp_seq ?_
    refine wp_reg_seq tok (orc := orcL []) (fz := []) (l := [1, 29, 30, 31]) (c := _) (fun i h => h) h (by kernel_rfl) (AllP.nil) ?_
    intro a w h
    refine wp_block ?_
    refine wp_loop_fuel (f59.l42 k x0) (fun (v70 : Int) => [(1, .val sh11 (some x0)), (29, .val sh13 x0.1), (30, .val (.int .i64) (List.length x0.1 : Int)), (31, .val (.int .i64) v70)]) (fun v h => by rw [f59.l42] at h; cases h) ?_ hF (h.arrive (fz := []) (l := [1, 29, 30, 31]) (fun i h => h) (by kernel_rfl))
    intro m42 v70 a w hF h
    rw [f59.l42] at hF
    refine wp_reg_seq tok (orc := orcL []) (fz := []) (l := [1, 29, 30, 31, 32]) (c := _) (fun i h => h) h (by kernel_rfl) (AllP.nil) ?_
    intro a w h
    refine wp_seq <| wp_if h (b := (decide ((v70 : Int) < (List.length x0.1 : Int)))) (by kernel_rfl) (fun hb => ?_) (fun hb => ?_)
    · replace hF := of_t hb hF
      refine wp_skip ?_
      refine wp_seq <| wp_block ?_
      obtain ⟨hc82, hF⟩ := of_if hF
      refine wp_reg_seq tok (orc := orcL []) (fz := []) (l := [1, 3, 4, 29, 30, 31]) (c := _) (fun i h => h) h (by kernel_rfl) (AllP.cons hc82 AllP.nil) ?_
      intro a w h
      obtain ⟨r77, hr79, hF⟩ := of_bind hF
      obtain ⟨r78, hr80, hF⟩ := of_bind hF
      obtain ⟨hc81, hF⟩ := of_if hF
      refine wp_regy_seq tok (orc := orcL [(38, [⟨.bool, r77⟩]), (43, [⟨.bool, r78⟩])]) (fz := []) (l := [1, 29, 30, 31, 61]) (c := _) 26 (fun i h => h) h (by kernel_rfl) (by kernel_rfl) (AllP.cons (c120 k (List.getD x0.1 (Int.toNat v70) ((0 : Int), ((0 : Int), (0 : Int)))).1 r77 hr79) (AllP.cons (fun (hg : ((!r77) = false)) => c121 k (List.getD x0.1 (Int.toNat v70) ((0 : Int), ((0 : Int), (0 : Int)))).2 r78 (of_g hg hr80)) (AllP.cons hc81 AllP.nil))) ?_
      intro a w h
      refine wp_if h (b := (bif (bif (!r77) then true else (!r78)) then true else (bif (decide ((v70 : Int) > (0 : Int))) then (decide (((List.getD x0.1 (Int.toNat (IntKind.i64.wrap (v70 - (1 : Int)))) ((0 : Int), ((0 : Int), (0 : Int)))).1 : Int) ≥ (List.getD x0.1 (Int.toNat v70) ((0 : Int), ((0 : Int), (0 : Int)))).1)) else false))) (by kernel_rfl) (fun hb => ?_) (fun hb => ?_)
      · replace hF := of_t hb hF
        refine wp_reg_seq tok (orc := orcL []) (fz := []) (l := [2]) (c := _) (fun i h => h) h (by kernel_rfl) (AllP.nil) ?_
        intro a w h
        cases hF
        exact wp_ret (ret_okR tok h rfl (by kernel_rfl)).1
      · replace hF := of_f hb hF
        refine wp_skip ?_
        refine wp_reg tok (orc := orcL []) (fz := []) (l := [1, 29, 30, 31]) (c := _) (fun i h => h) h (by kernel_rfl) (AllP.nil) ?_
        intro a w h
        exact ⟨(IntKind.i64.wrap (v70 + (1 : Int))), hF, h.arrive (fz := []) (l := [1, 29, 30, 31]) (fun i h => h) (by kernel_rfl)⟩
    · replace hF := of_f hb hF
      refine wp_exit ?_
      refine wp_reg_seq tok (orc := orcL []) (fz := []) (l := [1, 5]) (c := _) (fun i h => h) h (by kernel_rfl) (AllP.nil) ?_
      intro a w h
      refine wp_seq ?_
      refine wp_reg_seq tok (orc := orcL []) (fz := []) (l := [1, 5, 67, 68, 69]) (c := _) (fun i h => h) h (by kernel_rfl) (AllP.nil) ?_
      intro a w h
      refine wp_block ?_
      refine wp_loop_fuel (f59.l106 k x0) (fun (v122 : Int) => [(1, .val sh11 (some x0)), (5, .val (.int .i64) (List.length x0.1 : Int)), (67, .val sh14 x0.2.1), (68, .val (.int .i64) (List.length x0.2.1 : Int)), (69, .val (.int .i64) v122)]) (fun v h => by rw [f59.l106] at h; cases h) ?_ hF (h.arrive (fz := []) (l := [1, 5, 67, 68, 69]) (fun i h => h) (by kernel_rfl))
      intro m106 v122 a w hF h
      rw [f59.l106] at hF
      refine wp_reg_seq tok (orc := orcL []) (fz := []) (l := [1, 5, 67, 68, 69, 70]) (c := _) (fun i h => h) h (by kernel_rfl) (AllP.nil) ?_
      intro a w h
      refine wp_seq <| wp_if h (b := (decide ((v122 : Int) < (List.length x0.2.1 : Int)))) (by kernel_rfl) (fun hb => ?_) (fun hb => ?_)
      · replace hF := of_t hb hF
        refine wp_skip ?_
        refine wp_seq <| wp_block ?_
        obtain ⟨hc128, hF⟩ := of_if hF
        refine wp_reg_seq tok (orc := orcL []) (fz := []) (l := [1, 5, 7, 67, 68, 69]) (c := _) (fun i h => h) h (by kernel_rfl) (AllP.cons hc128 AllP.nil) ?_
        intro a w h
        obtain ⟨r126, hr127, hF⟩ := of_bind hF
        refine wp_reg_seq tok (orc := orcL [(96, [⟨.bool, r126⟩])]) (fz := []) (l := [1, 5, 67, 68, 69, 118]) (c := _) (fun i h => h) h (by kernel_rfl) (AllP.cons (fun (hg : ((bif (bif (bif (decide (((List.getD x0.2.1 (Int.toNat v122) ((0 : Int), ((0 : Int), ((0 : Int), ((0 : Int), ((0 : Int), (⟨#[]⟩ : ByteArray))))))).1 : Int) < (0 : Int))) then true else (decide (((List.getD x0.2.1 (Int.toNat v122) ((0 : Int), ((0 : Int), ((0 : Int), ((0 : Int), ((0 : Int), (⟨#[]⟩ : ByteArray))))))).1 : Int) ≥ (List.length x0.1 : Int)))) then true else (decide (((List.getD x0.2.1 (Int.toNat v122) ((0 : Int), ((0 : Int), ((0 : Int), ((0 : Int), ((0 : Int), (⟨#[]⟩ : ByteArray))))))).2.1 : Int) < (0 : Int)))) then true else (decide (((List.getD x0.2.1 (Int.toNat v122) ((0 : Int), ((0 : Int), ((0 : Int), ((0 : Int), ((0 : Int), (⟨#[]⟩ : ByteArray))))))).2.1 : Int) ≥ (List.length x0.1 : Int)))) = false)) => c120 k (List.getD x0.2.1 (Int.toNat v122) ((0 : Int), ((0 : Int), ((0 : Int), ((0 : Int), ((0 : Int), (⟨#[]⟩ : ByteArray))))))).2.2.1 r126 (of_g hg hr127)) AllP.nil) ?_
        intro a w h
        refine wp_if h (b := (bif (bif (bif (bif (bif (bif (bif (bif (decide (((List.getD x0.2.1 (Int.toNat v122) ((0 : Int), ((0 : Int), ((0 : Int), ((0 : Int), ((0 : Int), (⟨#[]⟩ : ByteArray))))))).1 : Int) < (0 : Int))) then true else (decide (((List.getD x0.2.1 (Int.toNat v122) ((0 : Int), ((0 : Int), ((0 : Int), ((0 : Int), ((0 : Int), (⟨#[]⟩ : ByteArray))))))).1 : Int) ≥ (List.length x0.1 : Int)))) then true else (decide (((List.getD x0.2.1 (Int.toNat v122) ((0 : Int), ((0 : Int), ((0 : Int), ((0 : Int), ((0 : Int), (⟨#[]⟩ : ByteArray))))))).2.1 : Int) < (0 : Int)))) then true else (decide (((List.getD x0.2.1 (Int.toNat v122) ((0 : Int), ((0 : Int), ((0 : Int), ((0 : Int), ((0 : Int), (⟨#[]⟩ : ByteArray))))))).2.1 : Int) ≥ (List.length x0.1 : Int)))) then true else (!r126)) then true else (decide (((List.getD x0.2.1 (Int.toNat v122) ((0 : Int), ((0 : Int), ((0 : Int), ((0 : Int), ((0 : Int), (⟨#[]⟩ : ByteArray))))))).2.2.2.1 : Int) < (1 : Int)))) then true else (decide (((List.getD x0.2.1 (Int.toNat v122) ((0 : Int), ((0 : Int), ((0 : Int), ((0 : Int), ((0 : Int), (⟨#[]⟩ : ByteArray))))))).2.2.2.1 : Int) > (1000000 : Int)))) then true else (decide (((List.getD x0.2.1 (Int.toNat v122) ((0 : Int), ((0 : Int), ((0 : Int), ((0 : Int), ((0 : Int), (⟨#[]⟩ : ByteArray))))))).2.2.2.2.1 : Int) < (0 : Int)))) then true else (decide (((List.getD x0.2.1 (Int.toNat v122) ((0 : Int), ((0 : Int), ((0 : Int), ((0 : Int), ((0 : Int), (⟨#[]⟩ : ByteArray))))))).2.2.2.2.1 : Int) > (1000000000 : Int))))) (by kernel_rfl) (fun hb => ?_) (fun hb => ?_)
        · replace hF := of_t hb hF
          refine wp_reg_seq tok (orc := orcL []) (fz := []) (l := [2]) (c := _) (fun i h => h) h (by kernel_rfl) (AllP.nil) ?_
          intro a w h
          cases hF
          exact wp_ret (ret_okR tok h rfl (by kernel_rfl)).1
        · replace hF := of_f hb hF
          refine wp_skip ?_
          refine wp_reg tok (orc := orcL []) (fz := []) (l := [1, 5, 67, 68, 69]) (c := _) (fun i h => h) h (by kernel_rfl) (AllP.nil) ?_
          intro a w h
          exact ⟨(IntKind.i64.wrap (v122 + (1 : Int))), hF, h.arrive (fz := []) (l := [1, 5, 67, 68, 69]) (fun i h => h) (by kernel_rfl)⟩
      · replace hF := of_f hb hF
        refine wp_exit ?_
        refine wp_reg_seq tok (orc := orcL []) (fz := []) (l := [1, 8]) (c := _) (fun i h => h) h (by kernel_rfl) (AllP.nil) ?_
        intro a w h
        refine wp_seq ?_
        refine wp_reg_seq tok (orc := orcL []) (fz := []) (l := [1, 8, 124, 125, 126]) (c := _) (fun i h => h) h (by kernel_rfl) (AllP.nil) ?_
        intro a w h
        refine wp_block ?_
        refine wp_loop_fuel (f59.l161 k x0) (fun (v183 : Int) => [(1, .val sh11 (some x0)), (8, .val (.int .i64) (List.length x0.2.1 : Int)), (124, .val sh15 x0.2.2), (125, .val (.int .i64) (List.length x0.2.2 : Int)), (126, .val (.int .i64) v183)]) (fun v h => by rw [f59.l161] at h; cases h) ?_ hF (h.arrive (fz := []) (l := [1, 8, 124, 125, 126]) (fun i h => h) (by kernel_rfl))
        intro m161 v183 a w hF h
        rw [f59.l161] at hF
        refine wp_reg_seq tok (orc := orcL []) (fz := []) (l := [1, 8, 124, 125, 126, 127]) (c := _) (fun i h => h) h (by kernel_rfl) (AllP.nil) ?_
        intro a w h
        refine wp_seq <| wp_if h (b := (decide ((v183 : Int) < (List.length x0.2.2 : Int)))) (by kernel_rfl) (fun hb => ?_) (fun hb => ?_)
        · replace hF := of_t hb hF
          refine wp_skip ?_
          refine wp_mid (fun a w => ∃ v : Unit, f59.j188 k v183 ((f59.l161 k x0) m161) v = some r ∧ Rel w0 (fun _ => False) Zi Try.f59.ntmps ((fun (_ : Unit) => ([(1, .val sh11 (some x0)), (8, .val (.int .i64) (List.length x0.2.1 : Int)), (124, .val sh15 x0.2.2), (125, .val (.int .i64) (List.length x0.2.2 : Int)), (126, .val (.int .i64) v183)] : SS)) v) a w) ?_ ?_
          ·
            refine wp_block ?_
            obtain ⟨hc192, hF⟩ := of_if hF
            refine wp_reg_seq tok (orc := orcL []) (fz := []) (l := [1, 8, 9, 10, 124, 125, 126]) (c := _) (fun i h => h) h (by kernel_rfl) (AllP.cons hc192 AllP.nil) ?_
            intro a w h
            refine wp_seq ?_
            obtain ⟨hc190, hF⟩ := of_if hF
            obtain ⟨hc191, hF⟩ := of_if hF
            refine wp_regy_seq tok (orc := orcL []) (fz := []) (l := [1, 8, 9, 10, 124, 125, 126, 167]) (c := _) 37 (fun i h => h) h (by kernel_rfl) (by kernel_rfl) (AllP.cons hc190 (AllP.cons hc191 AllP.nil)) ?_
            intro a w h
            refine wp_if h (b := (bif (bif (bif (bif (decide (((List.getD x0.2.2 (Int.toNat v183) ((0 : Int), (0 : Int))).1 : Int) < (0 : Int))) then true else (decide (((List.getD x0.2.2 (Int.toNat v183) ((0 : Int), (0 : Int))).1 : Int) ≥ (List.length x0.2.1 : Int)))) then true else (decide (((List.getD x0.2.2 (Int.toNat v183) ((0 : Int), (0 : Int))).2 : Int) < (0 : Int)))) then true else (decide (((List.getD x0.2.2 (Int.toNat v183) ((0 : Int), (0 : Int))).2 : Int) ≥ (List.length x0.2.1 : Int)))) then true else (((List.getD x0.2.1 (Int.toNat (List.getD x0.2.2 (Int.toNat v183) ((0 : Int), (0 : Int))).1) ((0 : Int), ((0 : Int), ((0 : Int), ((0 : Int), ((0 : Int), (⟨#[]⟩ : ByteArray))))))).2.1 : Int) != (List.getD x0.2.1 (Int.toNat (List.getD x0.2.2 (Int.toNat v183) ((0 : Int), (0 : Int))).2) ((0 : Int), ((0 : Int), ((0 : Int), ((0 : Int), ((0 : Int), (⟨#[]⟩ : ByteArray))))))).1))) (by kernel_rfl) (fun hb => ?_) (fun hb => ?_)
            · replace hF := of_t hb hF
              refine wp_reg_seq tok (orc := orcL []) (fz := []) (l := [2]) (c := _) (fun i h => h) h (by kernel_rfl) (AllP.nil) ?_
              intro a w h
              cases hF
              exact wp_ret (ret_okR tok h rfl (by kernel_rfl)).1
            · replace hF := of_f hb hF
              refine wp_skip ?_
              refine wp_reg_seq tok (orc := orcL []) (fz := []) (l := [1, 8, 9, 10, 124, 125, 126, 169]) (c := _) (fun i h => h) h (by kernel_rfl) (AllP.nil) ?_
              intro a w h
              refine wp_if h (b := (decide ((v183 : Int) > (0 : Int)))) (by kernel_rfl) (fun hb => ?_) (fun hb => ?_)
              · replace hF := of_t hb hF
                obtain ⟨hc189, hF⟩ := of_if hF
                refine wp_reg_seq tok (orc := orcL []) (fz := []) (l := [1, 8, 10, 11, 124, 125, 126]) (c := _) (fun i h => h) h (by kernel_rfl) (AllP.cons hc189 AllP.nil) ?_
                intro a w h
                refine wp_reg_seq tok (orc := orcL []) (fz := []) (l := [1, 8, 124, 125, 126, 194]) (c := _) (fun i h => h) h (by kernel_rfl) (AllP.nil) ?_
                intro a w h
                refine wp_if h (b := (bif (decide (((List.getD x0.2.2 (Int.toNat (IntKind.i64.wrap (v183 - (1 : Int)))) ((0 : Int), (0 : Int))).1 : Int) > (List.getD x0.2.2 (Int.toNat v183) ((0 : Int), (0 : Int))).1)) then true else (bif (((List.getD x0.2.2 (Int.toNat (IntKind.i64.wrap (v183 - (1 : Int)))) ((0 : Int), (0 : Int))).1 : Int) == (List.getD x0.2.2 (Int.toNat v183) ((0 : Int), (0 : Int))).1) then (decide (((List.getD x0.2.2 (Int.toNat (IntKind.i64.wrap (v183 - (1 : Int)))) ((0 : Int), (0 : Int))).2 : Int) ≥ (List.getD x0.2.2 (Int.toNat v183) ((0 : Int), (0 : Int))).2)) else false))) (by kernel_rfl) (fun hb => ?_) (fun hb => ?_)
                · replace hF := of_t hb hF
                  refine wp_reg_seq tok (orc := orcL []) (fz := []) (l := [2]) (c := _) (fun i h => h) h (by kernel_rfl) (AllP.nil) ?_
                  intro a w h
                  cases hF
                  exact wp_ret (ret_okR tok h rfl (by kernel_rfl)).1
                · replace hF := of_f hb hF
                  refine wp_skip ?_
                  exact ⟨(), hF, h.arrive (fz := []) (l := [1, 8, 124, 125, 126]) (fun i h => h) (by kernel_rfl)⟩
              · replace hF := of_f hb hF
                refine wp_skip ?_
                exact ⟨(), hF, h.arrive (fz := []) (l := [1, 8, 124, 125, 126]) (fun i h => h) (by kernel_rfl)⟩
          · rintro a w ⟨v, hF, h⟩
            obtain ⟨⟩ := v
            rw [f59.j188] at hF
            refine wp_reg tok (orc := orcL []) (fz := []) (l := [1, 8, 124, 125, 126]) (c := _) (fun i h => h) h (by kernel_rfl) (AllP.nil) ?_
            intro a w h
            exact ⟨(IntKind.i64.wrap (v183 + (1 : Int))), hF, h.arrive (fz := []) (l := [1, 8, 124, 125, 126]) (fun i h => h) (by kernel_rfl)⟩
        · replace hF := of_f hb hF
          refine wp_exit ?_
          refine wp_reg_seq tok (orc := orcL []) (fz := []) (l := [2]) (c := _) (fun i h => h) h (by kernel_rfl) (AllP.nil) ?_
          intro a w h
          cases hF
          exact wp_ret (ret_okR tok h rfl (by kernel_rfl)).1

def f94 (k : Nat) (x0 : (Int × Int)) (x1 : (Int × Int)) : Option Bool := if ((x0.1 : Int) != x1.1) then (some false) else (if ((x0.2 : Int) != x1.2) then (some false) else (some true))
set_option maxRecDepth 100000 in
/-- 'laws.eqPoint'. -/
theorem c94 (k : Nat) (x0 : (Int × Int)) (x1 : (Int × Int)) (r : Bool) (hF : f94 k x0 x1 = some r) : PCall Try.prog 94 [⟨sh5, x0⟩, ⟨sh5, x1⟩] [⟨.bool, r⟩] := by
  refine pcall_intro Try.func94 rfl rfl (Nat.le_of_ble_eq_true rfl) ?_
  intro w0 Zi a w h
  rw [f94] at hF
  refine wp_reg_seq tok (orc := orcL []) (fz := []) (l := [2, 3]) (c := _) (fun i h => h) h (by kernel_rfl) (AllP.nil) ?_
  intro a w h
  refine wp_seq ?_
  refine wp_reg_seq tok (orc := orcL []) (fz := []) (l := [2, 3, 9]) (c := _) (fun i h => h) h (by kernel_rfl) (AllP.nil) ?_
  intro a w h
  refine wp_if h (b := ((x0.1 : Int) != x1.1)) (by kernel_rfl) (fun hb => ?_) (fun hb => ?_)
  · replace hF := of_t hb hF
    refine wp_reg_seq tok (orc := orcL []) (fz := []) (l := [4]) (c := _) (fun i h => h) h (by kernel_rfl) (AllP.nil) ?_
    intro a w h
    cases hF
    exact wp_ret (ret_okR tok h rfl (by kernel_rfl)).1
  · replace hF := of_f hb hF
    refine wp_skip ?_
    refine wp_seq ?_
    refine wp_reg_seq tok (orc := orcL []) (fz := []) (l := [14]) (c := _) (fun i h => h) h (by kernel_rfl) (AllP.nil) ?_
    intro a w h
    refine wp_if h (b := ((x0.2 : Int) != x1.2)) (by kernel_rfl) (fun hb => ?_) (fun hb => ?_)
    · replace hF := of_t hb hF
      refine wp_reg_seq tok (orc := orcL []) (fz := []) (l := [4]) (c := _) (fun i h => h) h (by kernel_rfl) (AllP.nil) ?_
      intro a w h
      cases hF
      exact wp_ret (ret_okR tok h rfl (by kernel_rfl)).1
    · replace hF := of_f hb hF
      refine wp_skip ?_
      refine wp_reg_seq tok (orc := orcL []) (fz := []) (l := [4]) (c := _) (fun i h => h) h (by kernel_rfl) (AllP.nil) ?_
      intro a w h
      cases hF
      exact wp_ret (ret_okR tok h rfl (by kernel_rfl)).1

def f145 (k : Nat) (x0 : (Int × (Int × Int))) (x1 : (Int × (Int × Int))) : Option Bool := if ((x0.1 : Int) != x1.1) then (some false) else ((f94 k x0.2 x1.2).bind fun r1 => (if (!r1) then (some false) else (some true)))
set_option maxRecDepth 100000 in
/-- 'laws.eqSpot'. -/
theorem c145 (k : Nat) (x0 : (Int × (Int × Int))) (x1 : (Int × (Int × Int))) (r : Bool) (hF : f145 k x0 x1 = some r) : PCall Try.prog 145 [⟨sh6, x0⟩, ⟨sh6, x1⟩] [⟨.bool, r⟩] := by
  refine pcall_intro Try.func145 rfl rfl (Nat.le_of_ble_eq_true rfl) ?_
  intro w0 Zi a w h
  rw [f145] at hF
  refine wp_reg_seq tok (orc := orcL []) (fz := []) (l := [2, 3]) (c := _) (fun i h => h) h (by kernel_rfl) (AllP.nil) ?_
  intro a w h
  refine wp_seq ?_
  refine wp_reg_seq tok (orc := orcL []) (fz := []) (l := [2, 3, 9]) (c := _) (fun i h => h) h (by kernel_rfl) (AllP.nil) ?_
  intro a w h
  refine wp_if h (b := ((x0.1 : Int) != x1.1)) (by kernel_rfl) (fun hb => ?_) (fun hb => ?_)
  · replace hF := of_t hb hF
    refine wp_reg_seq tok (orc := orcL []) (fz := []) (l := [4]) (c := _) (fun i h => h) h (by kernel_rfl) (AllP.nil) ?_
    intro a w h
    cases hF
    exact wp_ret (ret_okR tok h rfl (by kernel_rfl)).1
  · replace hF := of_f hb hF
    refine wp_skip ?_
    refine wp_seq ?_
    obtain ⟨r1, hr2, hF⟩ := of_bind hF
    refine wp_reg_seq tok (orc := orcL [(14, [⟨.bool, r1⟩])]) (fz := []) (l := [15]) (c := _) (fun i h => h) h (by kernel_rfl) (AllP.cons (c94 k x0.2 x1.2 r1 hr2) AllP.nil) ?_
    intro a w h
    refine wp_if h (b := (!r1)) (by kernel_rfl) (fun hb => ?_) (fun hb => ?_)
    · replace hF := of_t hb hF
      refine wp_reg_seq tok (orc := orcL []) (fz := []) (l := [4]) (c := _) (fun i h => h) h (by kernel_rfl) (AllP.nil) ?_
      intro a w h
      cases hF
      exact wp_ret (ret_okR tok h rfl (by kernel_rfl)).1
    · replace hF := of_f hb hF
      refine wp_skip ?_
      refine wp_reg_seq tok (orc := orcL []) (fz := []) (l := [4]) (c := _) (fun i h => h) h (by kernel_rfl) (AllP.nil) ?_
      intro a w h
      cases hF
      exact wp_ret (ret_okR tok h rfl (by kernel_rfl)).1

def f122.l30 (k : Nat) (x0 : (List (Int × (Int × Int)))) (x1 : (List (Int × (Int × Int)))) : Nat → Int → Option Bool
  | 0, _ => none
  | m30 + 1, v50 => if (decide ((v50 : Int) < (List.length x0 : Int))) then (if (0 ≤ v50 ∧ v50 < (List.length x0 : Int)) then (if (0 ≤ v50 ∧ v50 < (List.length x1 : Int)) then ((f145 k (List.getD x0 (Int.toNat v50) ((0 : Int), ((0 : Int), (0 : Int)))) (List.getD x1 (Int.toNat v50) ((0 : Int), ((0 : Int), (0 : Int))))).bind fun r55 => (if (!r55) then (some false) else ((f122.l30 k x0 x1) m30 (IntKind.i64.wrap (v50 + (1 : Int)))))) else none) else none) else (some true)
def f122 (k : Nat) (x0 : (List (Int × (Int × Int)))) (x1 : (List (Int × (Int × Int)))) : Option Bool := if (((List.length x0 : Int) : Int) != (List.length x1 : Int)) then (some false) else (f122.l30 k x0 x1 k (0 : Int))
set_option maxRecDepth 100000 in
/-- 'laws.eqSpotS'. -/
theorem c122 (k : Nat) (x0 : (List (Int × (Int × Int)))) (x1 : (List (Int × (Int × Int)))) (r : Bool) (hF : f122 k x0 x1 = some r) : PCall Try.prog 122 [⟨sh13, x0⟩, ⟨sh13, x1⟩] [⟨.bool, r⟩] := by
  refine pcall_intro Try.func122 rfl rfl (Nat.le_of_ble_eq_true rfl) ?_
  intro w0 Zi a w h
  rw [f122] at hF
  refine wp_reg_seq tok (orc := orcL []) (fz := []) (l := [0, 1]) (c := _) (fun i h => h) h (by kernel_rfl) (AllP.nil) ?_
  intro a w h
  refine wp_seq ?_
  refine wp_reg_seq tok (orc := orcL []) (fz := []) (l := [0, 1, 10]) (c := _) (fun i h => h) h (by kernel_rfl) (AllP.nil) ?_
  intro a w h
  refine wp_if h (b := (((List.length x0 : Int) : Int) != (List.length x1 : Int))) (by kernel_rfl) (fun hb => ?_) (fun hb => ?_)
  · replace hF := of_t hb hF
    refine wp_reg_seq tok (orc := orcL []) (fz := []) (l := [4]) (c := _) (fun i h => h) h (by kernel_rfl) (AllP.nil) ?_
    intro a w h
    cases hF
    exact wp_ret (ret_okR tok h rfl (by kernel_rfl)).1
  · replace hF := of_f hb hF
    refine wp_skip ?_
    refine wp_seq ?_
    refine wp_reg_seq tok (orc := orcL []) (fz := []) (l := [0, 1, 5]) (c := _) (fun i h => h) h (by kernel_rfl) (AllP.nil) ?_
    intro a w h
    refine wp_block ?_
    refine wp_loop_fuel (f122.l30 k x0 x1) (fun (v50 : Int) => [(0, .val sh13 x0), (1, .val sh13 x1), (5, .val (.int .i64) v50)]) (fun v h => by rw [f122.l30] at h; cases h) ?_ hF (h.arrive (fz := []) (l := [0, 1, 5]) (fun i h => h) (by kernel_rfl))
    intro m30 v50 a w hF h
    rw [f122.l30] at hF
    refine wp_seq ?_
    refine wp_reg_seq tok (orc := orcL []) (fz := []) (l := [0, 1, 5, 14]) (c := _) (fun i h => h) h (by kernel_rfl) (AllP.nil) ?_
    intro a w h
    refine wp_if h (b := (decide ((v50 : Int) < (List.length x0 : Int)))) (by kernel_rfl) (fun hb => ?_) (fun hb => ?_)
    · replace hF := of_t hb hF
      refine wp_skip ?_
      refine wp_seq <| wp_block ?_
      obtain ⟨hc56, hF⟩ := of_if hF
      obtain ⟨hc57, hF⟩ := of_if hF
      obtain ⟨r55, hr58, hF⟩ := of_bind hF
      refine wp_regy_seq tok (orc := orcL [(25, [⟨.bool, r55⟩])]) (fz := []) (l := [0, 1, 5, 26]) (c := _) 10 (fun i h => h) h (by kernel_rfl) (by kernel_rfl) (AllP.cons hc56 (AllP.cons hc57 (AllP.cons (c145 k (List.getD x0 (Int.toNat v50) ((0 : Int), ((0 : Int), (0 : Int)))) (List.getD x1 (Int.toNat v50) ((0 : Int), ((0 : Int), (0 : Int)))) r55 hr58) AllP.nil))) ?_
      intro a w h
      refine wp_if h (b := (!r55)) (by kernel_rfl) (fun hb => ?_) (fun hb => ?_)
      · replace hF := of_t hb hF
        refine wp_reg_seq tok (orc := orcL []) (fz := []) (l := [4]) (c := _) (fun i h => h) h (by kernel_rfl) (AllP.nil) ?_
        intro a w h
        cases hF
        exact wp_ret (ret_okR tok h rfl (by kernel_rfl)).1
      · replace hF := of_f hb hF
        refine wp_skip ?_
        refine wp_reg tok (orc := orcL []) (fz := []) (l := [0, 1, 5]) (c := _) (fun i h => h) h (by kernel_rfl) (AllP.nil) ?_
        intro a w h
        exact ⟨(IntKind.i64.wrap (v50 + (1 : Int))), hF, h.arrive (fz := []) (l := [0, 1, 5]) (fun i h => h) (by kernel_rfl)⟩
    · replace hF := of_f hb hF
      refine wp_exit ?_
      refine wp_reg_seq tok (orc := orcL []) (fz := []) (l := [4]) (c := _) (fun i h => h) h (by kernel_rfl) (AllP.nil) ?_
      intro a w h
      cases hF
      exact wp_ret (ret_okR tok h rfl (by kernel_rfl)).1

def f146 (k : Nat) (x0 : (Int × (Int × (Int × (Int × (Int × ByteArray)))))) (x1 : (Int × (Int × (Int × (Int × (Int × ByteArray)))))) : Option Bool := if ((x0.1 : Int) != x1.1) then (some false) else (if ((x0.2.1 : Int) != x1.2.1) then (some false) else (if ((x0.2.2.1 : Int) != x1.2.2.1) then (some false) else (if ((x0.2.2.2.1 : Int) != x1.2.2.2.1) then (some false) else (if ((x0.2.2.2.2.1 : Int) != x1.2.2.2.2.1) then (some false) else (if (!(ByteArray.toList x0.2.2.2.2.2 == ByteArray.toList x1.2.2.2.2.2)) then (some false) else (some true))))))
set_option maxRecDepth 100000 in
/-- 'laws.eqRoad'. -/
theorem c146 (k : Nat) (x0 : (Int × (Int × (Int × (Int × (Int × ByteArray)))))) (x1 : (Int × (Int × (Int × (Int × (Int × ByteArray)))))) (r : Bool) (hF : f146 k x0 x1 = some r) : PCall Try.prog 146 [⟨sh1, x0⟩, ⟨sh1, x1⟩] [⟨.bool, r⟩] := by
  refine pcall_intro Try.func146 rfl rfl (Nat.le_of_ble_eq_true rfl) ?_
  intro w0 Zi a w h
  rw [f146] at hF
  refine wp_reg_seq tok (orc := orcL []) (fz := []) (l := [2, 3]) (c := _) (fun i h => h) h (by kernel_rfl) (AllP.nil) ?_
  intro a w h
  refine wp_seq ?_
  refine wp_reg_seq tok (orc := orcL []) (fz := []) (l := [2, 3, 9]) (c := _) (fun i h => h) h (by kernel_rfl) (AllP.nil) ?_
  intro a w h
  refine wp_if h (b := ((x0.1 : Int) != x1.1)) (by kernel_rfl) (fun hb => ?_) (fun hb => ?_)
  · replace hF := of_t hb hF
    refine wp_reg_seq tok (orc := orcL []) (fz := []) (l := [4]) (c := _) (fun i h => h) h (by kernel_rfl) (AllP.nil) ?_
    intro a w h
    cases hF
    exact wp_ret (ret_okR tok h rfl (by kernel_rfl)).1
  · replace hF := of_f hb hF
    refine wp_skip ?_
    refine wp_seq ?_
    refine wp_reg_seq tok (orc := orcL []) (fz := []) (l := [2, 3, 14]) (c := _) (fun i h => h) h (by kernel_rfl) (AllP.nil) ?_
    intro a w h
    refine wp_if h (b := ((x0.2.1 : Int) != x1.2.1)) (by kernel_rfl) (fun hb => ?_) (fun hb => ?_)
    · replace hF := of_t hb hF
      refine wp_reg_seq tok (orc := orcL []) (fz := []) (l := [4]) (c := _) (fun i h => h) h (by kernel_rfl) (AllP.nil) ?_
      intro a w h
      cases hF
      exact wp_ret (ret_okR tok h rfl (by kernel_rfl)).1
    · replace hF := of_f hb hF
      refine wp_skip ?_
      refine wp_seq ?_
      refine wp_reg_seq tok (orc := orcL []) (fz := []) (l := [2, 3, 19]) (c := _) (fun i h => h) h (by kernel_rfl) (AllP.nil) ?_
      intro a w h
      refine wp_if h (b := ((x0.2.2.1 : Int) != x1.2.2.1)) (by kernel_rfl) (fun hb => ?_) (fun hb => ?_)
      · replace hF := of_t hb hF
        refine wp_reg_seq tok (orc := orcL []) (fz := []) (l := [4]) (c := _) (fun i h => h) h (by kernel_rfl) (AllP.nil) ?_
        intro a w h
        cases hF
        exact wp_ret (ret_okR tok h rfl (by kernel_rfl)).1
      · replace hF := of_f hb hF
        refine wp_skip ?_
        refine wp_seq ?_
        refine wp_reg_seq tok (orc := orcL []) (fz := []) (l := [2, 3, 24]) (c := _) (fun i h => h) h (by kernel_rfl) (AllP.nil) ?_
        intro a w h
        refine wp_if h (b := ((x0.2.2.2.1 : Int) != x1.2.2.2.1)) (by kernel_rfl) (fun hb => ?_) (fun hb => ?_)
        · replace hF := of_t hb hF
          refine wp_reg_seq tok (orc := orcL []) (fz := []) (l := [4]) (c := _) (fun i h => h) h (by kernel_rfl) (AllP.nil) ?_
          intro a w h
          cases hF
          exact wp_ret (ret_okR tok h rfl (by kernel_rfl)).1
        · replace hF := of_f hb hF
          refine wp_skip ?_
          refine wp_seq ?_
          refine wp_reg_seq tok (orc := orcL []) (fz := []) (l := [2, 3, 29]) (c := _) (fun i h => h) h (by kernel_rfl) (AllP.nil) ?_
          intro a w h
          refine wp_if h (b := ((x0.2.2.2.2.1 : Int) != x1.2.2.2.2.1)) (by kernel_rfl) (fun hb => ?_) (fun hb => ?_)
          · replace hF := of_t hb hF
            refine wp_reg_seq tok (orc := orcL []) (fz := []) (l := [4]) (c := _) (fun i h => h) h (by kernel_rfl) (AllP.nil) ?_
            intro a w h
            cases hF
            exact wp_ret (ret_okR tok h rfl (by kernel_rfl)).1
          · replace hF := of_f hb hF
            refine wp_skip ?_
            refine wp_seq ?_
            refine wp_reg_seq tok (orc := orcL []) (fz := []) (l := [34]) (c := _) (fun i h => h) h (by kernel_rfl) (AllP.nil) ?_
            intro a w h
            refine wp_if h (b := (!(ByteArray.toList x0.2.2.2.2.2 == ByteArray.toList x1.2.2.2.2.2))) (by kernel_rfl) (fun hb => ?_) (fun hb => ?_)
            · replace hF := of_t hb hF
              refine wp_reg_seq tok (orc := orcL []) (fz := []) (l := [4]) (c := _) (fun i h => h) h (by kernel_rfl) (AllP.nil) ?_
              intro a w h
              cases hF
              exact wp_ret (ret_okR tok h rfl (by kernel_rfl)).1
            · replace hF := of_f hb hF
              refine wp_skip ?_
              refine wp_reg_seq tok (orc := orcL []) (fz := []) (l := [4]) (c := _) (fun i h => h) h (by kernel_rfl) (AllP.nil) ?_
              intro a w h
              cases hF
              exact wp_ret (ret_okR tok h rfl (by kernel_rfl)).1

def f123.l30 (k : Nat) (x0 : (List (Int × (Int × (Int × (Int × (Int × ByteArray))))))) (x1 : (List (Int × (Int × (Int × (Int × (Int × ByteArray))))))) : Nat → Int → Option Bool
  | 0, _ => none
  | m30 + 1, v50 => if (decide ((v50 : Int) < (List.length x0 : Int))) then (if (0 ≤ v50 ∧ v50 < (List.length x0 : Int)) then (if (0 ≤ v50 ∧ v50 < (List.length x1 : Int)) then ((f146 k (List.getD x0 (Int.toNat v50) ((0 : Int), ((0 : Int), ((0 : Int), ((0 : Int), ((0 : Int), (⟨#[]⟩ : ByteArray))))))) (List.getD x1 (Int.toNat v50) ((0 : Int), ((0 : Int), ((0 : Int), ((0 : Int), ((0 : Int), (⟨#[]⟩ : ByteArray)))))))).bind fun r55 => (if (!r55) then (some false) else ((f123.l30 k x0 x1) m30 (IntKind.i64.wrap (v50 + (1 : Int)))))) else none) else none) else (some true)
def f123 (k : Nat) (x0 : (List (Int × (Int × (Int × (Int × (Int × ByteArray))))))) (x1 : (List (Int × (Int × (Int × (Int × (Int × ByteArray))))))) : Option Bool := if (((List.length x0 : Int) : Int) != (List.length x1 : Int)) then (some false) else (f123.l30 k x0 x1 k (0 : Int))
set_option maxRecDepth 100000 in
/-- 'laws.eqRoadS'. -/
theorem c123 (k : Nat) (x0 : (List (Int × (Int × (Int × (Int × (Int × ByteArray))))))) (x1 : (List (Int × (Int × (Int × (Int × (Int × ByteArray))))))) (r : Bool) (hF : f123 k x0 x1 = some r) : PCall Try.prog 123 [⟨sh14, x0⟩, ⟨sh14, x1⟩] [⟨.bool, r⟩] := by
  refine pcall_intro Try.func123 rfl rfl (Nat.le_of_ble_eq_true rfl) ?_
  intro w0 Zi a w h
  rw [f123] at hF
  refine wp_reg_seq tok (orc := orcL []) (fz := []) (l := [0, 1]) (c := _) (fun i h => h) h (by kernel_rfl) (AllP.nil) ?_
  intro a w h
  refine wp_seq ?_
  refine wp_reg_seq tok (orc := orcL []) (fz := []) (l := [0, 1, 10]) (c := _) (fun i h => h) h (by kernel_rfl) (AllP.nil) ?_
  intro a w h
  refine wp_if h (b := (((List.length x0 : Int) : Int) != (List.length x1 : Int))) (by kernel_rfl) (fun hb => ?_) (fun hb => ?_)
  · replace hF := of_t hb hF
    refine wp_reg_seq tok (orc := orcL []) (fz := []) (l := [4]) (c := _) (fun i h => h) h (by kernel_rfl) (AllP.nil) ?_
    intro a w h
    cases hF
    exact wp_ret (ret_okR tok h rfl (by kernel_rfl)).1
  · replace hF := of_f hb hF
    refine wp_skip ?_
    refine wp_seq ?_
    refine wp_reg_seq tok (orc := orcL []) (fz := []) (l := [0, 1, 5]) (c := _) (fun i h => h) h (by kernel_rfl) (AllP.nil) ?_
    intro a w h
    refine wp_block ?_
    refine wp_loop_fuel (f123.l30 k x0 x1) (fun (v50 : Int) => [(0, .val sh14 x0), (1, .val sh14 x1), (5, .val (.int .i64) v50)]) (fun v h => by rw [f123.l30] at h; cases h) ?_ hF (h.arrive (fz := []) (l := [0, 1, 5]) (fun i h => h) (by kernel_rfl))
    intro m30 v50 a w hF h
    rw [f123.l30] at hF
    refine wp_seq ?_
    refine wp_reg_seq tok (orc := orcL []) (fz := []) (l := [0, 1, 5, 14]) (c := _) (fun i h => h) h (by kernel_rfl) (AllP.nil) ?_
    intro a w h
    refine wp_if h (b := (decide ((v50 : Int) < (List.length x0 : Int)))) (by kernel_rfl) (fun hb => ?_) (fun hb => ?_)
    · replace hF := of_t hb hF
      refine wp_skip ?_
      refine wp_seq <| wp_block ?_
      obtain ⟨hc56, hF⟩ := of_if hF
      obtain ⟨hc57, hF⟩ := of_if hF
      obtain ⟨r55, hr58, hF⟩ := of_bind hF
      refine wp_regy_seq tok (orc := orcL [(25, [⟨.bool, r55⟩])]) (fz := []) (l := [0, 1, 5, 26]) (c := _) 10 (fun i h => h) h (by kernel_rfl) (by kernel_rfl) (AllP.cons hc56 (AllP.cons hc57 (AllP.cons (c146 k (List.getD x0 (Int.toNat v50) ((0 : Int), ((0 : Int), ((0 : Int), ((0 : Int), ((0 : Int), (⟨#[]⟩ : ByteArray))))))) (List.getD x1 (Int.toNat v50) ((0 : Int), ((0 : Int), ((0 : Int), ((0 : Int), ((0 : Int), (⟨#[]⟩ : ByteArray))))))) r55 hr58) AllP.nil))) ?_
      intro a w h
      refine wp_if h (b := (!r55)) (by kernel_rfl) (fun hb => ?_) (fun hb => ?_)
      · replace hF := of_t hb hF
        refine wp_reg_seq tok (orc := orcL []) (fz := []) (l := [4]) (c := _) (fun i h => h) h (by kernel_rfl) (AllP.nil) ?_
        intro a w h
        cases hF
        exact wp_ret (ret_okR tok h rfl (by kernel_rfl)).1
      · replace hF := of_f hb hF
        refine wp_skip ?_
        refine wp_reg tok (orc := orcL []) (fz := []) (l := [0, 1, 5]) (c := _) (fun i h => h) h (by kernel_rfl) (AllP.nil) ?_
        intro a w h
        exact ⟨(IntKind.i64.wrap (v50 + (1 : Int))), hF, h.arrive (fz := []) (l := [0, 1, 5]) (fun i h => h) (by kernel_rfl)⟩
    · replace hF := of_f hb hF
      refine wp_exit ?_
      refine wp_reg_seq tok (orc := orcL []) (fz := []) (l := [4]) (c := _) (fun i h => h) h (by kernel_rfl) (AllP.nil) ?_
      intro a w h
      cases hF
      exact wp_ret (ret_okR tok h rfl (by kernel_rfl)).1

def f147 (k : Nat) (x0 : (Int × Int)) (x1 : (Int × Int)) : Option Bool := if ((x0.1 : Int) != x1.1) then (some false) else (if ((x0.2 : Int) != x1.2) then (some false) else (some true))
set_option maxRecDepth 100000 in
/-- 'laws.eqBan'. -/
theorem c147 (k : Nat) (x0 : (Int × Int)) (x1 : (Int × Int)) (r : Bool) (hF : f147 k x0 x1 = some r) : PCall Try.prog 147 [⟨sh5, x0⟩, ⟨sh5, x1⟩] [⟨.bool, r⟩] := by
  refine pcall_intro Try.func147 rfl rfl (Nat.le_of_ble_eq_true rfl) ?_
  intro w0 Zi a w h
  rw [f147] at hF
  refine wp_reg_seq tok (orc := orcL []) (fz := []) (l := [2, 3]) (c := _) (fun i h => h) h (by kernel_rfl) (AllP.nil) ?_
  intro a w h
  refine wp_seq ?_
  refine wp_reg_seq tok (orc := orcL []) (fz := []) (l := [2, 3, 9]) (c := _) (fun i h => h) h (by kernel_rfl) (AllP.nil) ?_
  intro a w h
  refine wp_if h (b := ((x0.1 : Int) != x1.1)) (by kernel_rfl) (fun hb => ?_) (fun hb => ?_)
  · replace hF := of_t hb hF
    refine wp_reg_seq tok (orc := orcL []) (fz := []) (l := [4]) (c := _) (fun i h => h) h (by kernel_rfl) (AllP.nil) ?_
    intro a w h
    cases hF
    exact wp_ret (ret_okR tok h rfl (by kernel_rfl)).1
  · replace hF := of_f hb hF
    refine wp_skip ?_
    refine wp_seq ?_
    refine wp_reg_seq tok (orc := orcL []) (fz := []) (l := [14]) (c := _) (fun i h => h) h (by kernel_rfl) (AllP.nil) ?_
    intro a w h
    refine wp_if h (b := ((x0.2 : Int) != x1.2)) (by kernel_rfl) (fun hb => ?_) (fun hb => ?_)
    · replace hF := of_t hb hF
      refine wp_reg_seq tok (orc := orcL []) (fz := []) (l := [4]) (c := _) (fun i h => h) h (by kernel_rfl) (AllP.nil) ?_
      intro a w h
      cases hF
      exact wp_ret (ret_okR tok h rfl (by kernel_rfl)).1
    · replace hF := of_f hb hF
      refine wp_skip ?_
      refine wp_reg_seq tok (orc := orcL []) (fz := []) (l := [4]) (c := _) (fun i h => h) h (by kernel_rfl) (AllP.nil) ?_
      intro a w h
      cases hF
      exact wp_ret (ret_okR tok h rfl (by kernel_rfl)).1

def f124.l30 (k : Nat) (x0 : (List (Int × Int))) (x1 : (List (Int × Int))) : Nat → Int → Option Bool
  | 0, _ => none
  | m30 + 1, v50 => if (decide ((v50 : Int) < (List.length x0 : Int))) then (if (0 ≤ v50 ∧ v50 < (List.length x0 : Int)) then (if (0 ≤ v50 ∧ v50 < (List.length x1 : Int)) then ((f147 k (List.getD x0 (Int.toNat v50) ((0 : Int), (0 : Int))) (List.getD x1 (Int.toNat v50) ((0 : Int), (0 : Int)))).bind fun r55 => (if (!r55) then (some false) else ((f124.l30 k x0 x1) m30 (IntKind.i64.wrap (v50 + (1 : Int)))))) else none) else none) else (some true)
def f124 (k : Nat) (x0 : (List (Int × Int))) (x1 : (List (Int × Int))) : Option Bool := if (((List.length x0 : Int) : Int) != (List.length x1 : Int)) then (some false) else (f124.l30 k x0 x1 k (0 : Int))
set_option maxRecDepth 100000 in
/-- 'laws.eqBanS'. -/
theorem c124 (k : Nat) (x0 : (List (Int × Int))) (x1 : (List (Int × Int))) (r : Bool) (hF : f124 k x0 x1 = some r) : PCall Try.prog 124 [⟨sh15, x0⟩, ⟨sh15, x1⟩] [⟨.bool, r⟩] := by
  refine pcall_intro Try.func124 rfl rfl (Nat.le_of_ble_eq_true rfl) ?_
  intro w0 Zi a w h
  rw [f124] at hF
  refine wp_reg_seq tok (orc := orcL []) (fz := []) (l := [0, 1]) (c := _) (fun i h => h) h (by kernel_rfl) (AllP.nil) ?_
  intro a w h
  refine wp_seq ?_
  refine wp_reg_seq tok (orc := orcL []) (fz := []) (l := [0, 1, 10]) (c := _) (fun i h => h) h (by kernel_rfl) (AllP.nil) ?_
  intro a w h
  refine wp_if h (b := (((List.length x0 : Int) : Int) != (List.length x1 : Int))) (by kernel_rfl) (fun hb => ?_) (fun hb => ?_)
  · replace hF := of_t hb hF
    refine wp_reg_seq tok (orc := orcL []) (fz := []) (l := [4]) (c := _) (fun i h => h) h (by kernel_rfl) (AllP.nil) ?_
    intro a w h
    cases hF
    exact wp_ret (ret_okR tok h rfl (by kernel_rfl)).1
  · replace hF := of_f hb hF
    refine wp_skip ?_
    refine wp_seq ?_
    refine wp_reg_seq tok (orc := orcL []) (fz := []) (l := [0, 1, 5]) (c := _) (fun i h => h) h (by kernel_rfl) (AllP.nil) ?_
    intro a w h
    refine wp_block ?_
    refine wp_loop_fuel (f124.l30 k x0 x1) (fun (v50 : Int) => [(0, .val sh15 x0), (1, .val sh15 x1), (5, .val (.int .i64) v50)]) (fun v h => by rw [f124.l30] at h; cases h) ?_ hF (h.arrive (fz := []) (l := [0, 1, 5]) (fun i h => h) (by kernel_rfl))
    intro m30 v50 a w hF h
    rw [f124.l30] at hF
    refine wp_seq ?_
    refine wp_reg_seq tok (orc := orcL []) (fz := []) (l := [0, 1, 5, 14]) (c := _) (fun i h => h) h (by kernel_rfl) (AllP.nil) ?_
    intro a w h
    refine wp_if h (b := (decide ((v50 : Int) < (List.length x0 : Int)))) (by kernel_rfl) (fun hb => ?_) (fun hb => ?_)
    · replace hF := of_t hb hF
      refine wp_skip ?_
      refine wp_seq <| wp_block ?_
      obtain ⟨hc56, hF⟩ := of_if hF
      obtain ⟨hc57, hF⟩ := of_if hF
      obtain ⟨r55, hr58, hF⟩ := of_bind hF
      refine wp_regy_seq tok (orc := orcL [(25, [⟨.bool, r55⟩])]) (fz := []) (l := [0, 1, 5, 26]) (c := _) 10 (fun i h => h) h (by kernel_rfl) (by kernel_rfl) (AllP.cons hc56 (AllP.cons hc57 (AllP.cons (c147 k (List.getD x0 (Int.toNat v50) ((0 : Int), (0 : Int))) (List.getD x1 (Int.toNat v50) ((0 : Int), (0 : Int))) r55 hr58) AllP.nil))) ?_
      intro a w h
      refine wp_if h (b := (!r55)) (by kernel_rfl) (fun hb => ?_) (fun hb => ?_)
      · replace hF := of_t hb hF
        refine wp_reg_seq tok (orc := orcL []) (fz := []) (l := [4]) (c := _) (fun i h => h) h (by kernel_rfl) (AllP.nil) ?_
        intro a w h
        cases hF
        exact wp_ret (ret_okR tok h rfl (by kernel_rfl)).1
      · replace hF := of_f hb hF
        refine wp_skip ?_
        refine wp_reg tok (orc := orcL []) (fz := []) (l := [0, 1, 5]) (c := _) (fun i h => h) h (by kernel_rfl) (AllP.nil) ?_
        intro a w h
        exact ⟨(IntKind.i64.wrap (v50 + (1 : Int))), hF, h.arrive (fz := []) (l := [0, 1, 5]) (fun i h => h) (by kernel_rfl)⟩
    · replace hF := of_f hb hF
      refine wp_exit ?_
      refine wp_reg_seq tok (orc := orcL []) (fz := []) (l := [4]) (c := _) (fun i h => h) h (by kernel_rfl) (AllP.nil) ?_
      intro a w h
      cases hF
      exact wp_ret (ret_okR tok h rfl (by kernel_rfl)).1

def f60 (k : Nat) (x0 : ((List (Int × (Int × Int))) × ((List (Int × (Int × (Int × (Int × (Int × ByteArray)))))) × (List (Int × Int))))) (x1 : ((List (Int × (Int × Int))) × ((List (Int × (Int × (Int × (Int × (Int × ByteArray)))))) × (List (Int × Int))))) : Option Bool := (f122 k x0.1 x1.1).bind fun r1 => (if (!r1) then (some false) else ((f123 k x0.2.1 x1.2.1).bind fun r2 => (if (!r2) then (some false) else ((f124 k x0.2.2 x1.2.2).bind fun r3 => (if (!r3) then (some false) else (some true))))))
set_option maxRecDepth 100000 in
/-- 'laws.eqGraph'. -/
theorem c60 (k : Nat) (x0 : ((List (Int × (Int × Int))) × ((List (Int × (Int × (Int × (Int × (Int × ByteArray)))))) × (List (Int × Int))))) (x1 : ((List (Int × (Int × Int))) × ((List (Int × (Int × (Int × (Int × (Int × ByteArray)))))) × (List (Int × Int))))) (r : Bool) (hF : f60 k x0 x1 = some r) : PCall Try.prog 60 [⟨sh12, x0⟩, ⟨sh12, x1⟩] [⟨.bool, r⟩] := by
  refine pcall_intro Try.func60 rfl rfl (Nat.le_of_ble_eq_true rfl) ?_
  intro w0 Zi a w h
  rw [f60] at hF
  refine wp_reg_seq tok (orc := orcL []) (fz := []) (l := [2, 3]) (c := _) (fun i h => h) h (by kernel_rfl) (AllP.nil) ?_
  intro a w h
  refine wp_seq ?_
  obtain ⟨r1, hr6, hF⟩ := of_bind hF
  refine wp_reg_seq tok (orc := orcL [(9, [⟨.bool, r1⟩])]) (fz := []) (l := [2, 3, 10]) (c := _) (fun i h => h) h (by kernel_rfl) (AllP.cons (c122 k x0.1 x1.1 r1 hr6) AllP.nil) ?_
  intro a w h
  refine wp_if h (b := (!r1)) (by kernel_rfl) (fun hb => ?_) (fun hb => ?_)
  · replace hF := of_t hb hF
    refine wp_reg_seq tok (orc := orcL []) (fz := []) (l := [4]) (c := _) (fun i h => h) h (by kernel_rfl) (AllP.nil) ?_
    intro a w h
    cases hF
    exact wp_ret (ret_okR tok h rfl (by kernel_rfl)).1
  · replace hF := of_f hb hF
    refine wp_skip ?_
    refine wp_seq ?_
    obtain ⟨r2, hr5, hF⟩ := of_bind hF
    refine wp_reg_seq tok (orc := orcL [(15, [⟨.bool, r2⟩])]) (fz := []) (l := [2, 3, 16]) (c := _) (fun i h => h) h (by kernel_rfl) (AllP.cons (c123 k x0.2.1 x1.2.1 r2 hr5) AllP.nil) ?_
    intro a w h
    refine wp_if h (b := (!r2)) (by kernel_rfl) (fun hb => ?_) (fun hb => ?_)
    · replace hF := of_t hb hF
      refine wp_reg_seq tok (orc := orcL []) (fz := []) (l := [4]) (c := _) (fun i h => h) h (by kernel_rfl) (AllP.nil) ?_
      intro a w h
      cases hF
      exact wp_ret (ret_okR tok h rfl (by kernel_rfl)).1
    · replace hF := of_f hb hF
      refine wp_skip ?_
      refine wp_seq ?_
      obtain ⟨r3, hr4, hF⟩ := of_bind hF
      refine wp_reg_seq tok (orc := orcL [(21, [⟨.bool, r3⟩])]) (fz := []) (l := [22]) (c := _) (fun i h => h) h (by kernel_rfl) (AllP.cons (c124 k x0.2.2 x1.2.2 r3 hr4) AllP.nil) ?_
      intro a w h
      refine wp_if h (b := (!r3)) (by kernel_rfl) (fun hb => ?_) (fun hb => ?_)
      · replace hF := of_t hb hF
        refine wp_reg_seq tok (orc := orcL []) (fz := []) (l := [4]) (c := _) (fun i h => h) h (by kernel_rfl) (AllP.nil) ?_
        intro a w h
        cases hF
        exact wp_ret (ret_okR tok h rfl (by kernel_rfl)).1
      · replace hF := of_f hb hF
        refine wp_skip ?_
        refine wp_reg_seq tok (orc := orcL []) (fz := []) (l := [4]) (c := _) (fun i h => h) h (by kernel_rfl) (AllP.nil) ?_
        intro a w h
        cases hF
        exact wp_ret (ret_okR tok h rfl (by kernel_rfl)).1

def f12 (k : Nat) (x0 : ((List (Int × (Int × Int))) × ((List (Int × (Int × (Int × (Int × (Int × ByteArray)))))) × (List (Int × Int))))) : Option Bool := (f56 k x0 (1048576 : Int)).bind fun r1 => (if (decide ((r1 : Int) < (0 : Int))) then (some true) else ((f58 k x0).bind fun r2 => ((f57 k r2).bind fun r3 => ((f58 k x0).bind fun r4 => ((f59 k r4).bind fun r5 => (if (!((r5 : Bool) == r3)) then (some false) else ((f58 k x0).bind fun r6 => ((f60 k r4 r6).bind fun r7 => (if (!r7) then (some false) else (some true))))))))))
set_option maxRecDepth 100000 in
/-- 'laws.FnExactGraphOk'. -/
theorem c12 (k : Nat) (x0 : ((List (Int × (Int × Int))) × ((List (Int × (Int × (Int × (Int × (Int × ByteArray)))))) × (List (Int × Int))))) (r : Bool) (hF : f12 k x0 = some r) : PCall Try.prog 12 [⟨sh4, x0⟩] [⟨.bool, r⟩] := by
  refine pcall_intro Try.func12 rfl rfl (Nat.le_of_ble_eq_true rfl) ?_
  intro w0 Zi a w h
  rw [f12] at hF
  refine wp_reg_seq tok (orc := orcL []) (fz := []) (l := [1]) (c := _) (fun i h => h) h (by kernel_rfl) (AllP.nil) ?_
  intro a w h
  refine wp_reg_seq tok (orc := orcL []) (fz := []) (l := [1, 3]) (c := _) (fun i h => h) h (by kernel_rfl) (AllP.nil) ?_
  intro a w h
  obtain ⟨r1, hr14, hF⟩ := of_bind hF
  refine wp_reg_seq tok (orc := orcL [(9, [⟨(.int .i64), r1⟩])]) (fz := []) (l := [1, 3]) (c := _) (fun i h => h) h (by kernel_rfl) (AllP.cons (c56 k x0 (1048576 : Int) r1 hr14) AllP.nil) ?_
  intro a w h
  refine wp_seq ?_
  refine wp_reg_seq tok (orc := orcL []) (fz := []) (l := [1, 11]) (c := _) (fun i h => h) h (by kernel_rfl) (AllP.nil) ?_
  intro a w h
  refine wp_if h (b := (decide ((r1 : Int) < (0 : Int)))) (by kernel_rfl) (fun hb => ?_) (fun hb => ?_)
  · replace hF := of_t hb hF
    refine wp_reg_seq tok (orc := orcL []) (fz := []) (l := [2]) (c := _) (fun i h => h) h (by kernel_rfl) (AllP.nil) ?_
    intro a w h
    cases hF
    exact wp_ret (ret_okR tok h rfl (by kernel_rfl)).1
  · replace hF := of_f hb hF
    refine wp_skip ?_
    obtain ⟨r2, hr12, hF⟩ := of_bind hF
    obtain ⟨r3, hr13, hF⟩ := of_bind hF
    refine wp_reg_seq tok (orc := orcL [(13, [⟨sh10, r2⟩]), (14, [⟨.bool, r3⟩])]) (fz := []) (l := [1, 4]) (c := _) (fun i h => h) h (by kernel_rfl) (AllP.cons (c58 k x0 r2 hr12) (AllP.cons (c57 k r2 r3 hr13) AllP.nil)) ?_
    intro a w h
    obtain ⟨r4, hr11, hF⟩ := of_bind hF
    refine wp_reg_seq tok (orc := orcL [(16, [⟨sh10, r4⟩])]) (fz := []) (l := [1, 4, 5]) (c := _) (fun i h => h) h (by kernel_rfl) (AllP.cons (c58 k x0 r4 hr11) AllP.nil) ?_
    intro a w h
    obtain ⟨r5, hr10, hF⟩ := of_bind hF
    refine wp_reg_seq tok (orc := orcL [(18, [⟨.bool, r5⟩])]) (fz := []) (l := [1, 4, 5, 6]) (c := _) (fun i h => h) h (by kernel_rfl) (AllP.cons (c59 k r4 r5 hr10) AllP.nil) ?_
    intro a w h
    refine wp_seq ?_
    refine wp_reg_seq tok (orc := orcL []) (fz := []) (l := [1, 5, 21]) (c := _) (fun i h => h) h (by kernel_rfl) (AllP.nil) ?_
    intro a w h
    refine wp_if h (b := (!((r5 : Bool) == r3))) (by kernel_rfl) (fun hb => ?_) (fun hb => ?_)
    · replace hF := of_t hb hF
      refine wp_reg_seq tok (orc := orcL []) (fz := []) (l := [2]) (c := _) (fun i h => h) h (by kernel_rfl) (AllP.nil) ?_
      intro a w h
      cases hF
      exact wp_ret (ret_okR tok h rfl (by kernel_rfl)).1
    · replace hF := of_f hb hF
      refine wp_skip ?_
      refine wp_seq ?_
      obtain ⟨r6, hr8, hF⟩ := of_bind hF
      obtain ⟨r7, hr9, hF⟩ := of_bind hF
      refine wp_regy_seq tok (orc := orcL [(24, [⟨sh10, r6⟩]), (25, [⟨.bool, r7⟩])]) (fz := []) (l := [26]) (c := _) 5 (fun i h => h) h (by kernel_rfl) (by kernel_rfl) (AllP.cons (c58 k x0 r6 hr8) (AllP.cons (c60 k r4 r6 r7 hr9) AllP.nil)) ?_
      intro a w h
      refine wp_if h (b := (!r7)) (by kernel_rfl) (fun hb => ?_) (fun hb => ?_)
      · replace hF := of_t hb hF
        refine wp_reg_seq tok (orc := orcL []) (fz := []) (l := [2]) (c := _) (fun i h => h) h (by kernel_rfl) (AllP.nil) ?_
        intro a w h
        cases hF
        exact wp_ret (ret_okR tok h rfl (by kernel_rfl)).1
      · replace hF := of_f hb hF
        refine wp_skip ?_
        refine wp_reg_seq tok (orc := orcL []) (fz := []) (l := [2]) (c := _) (fun i h => h) h (by kernel_rfl) (AllP.nil) ?_
        intro a w h
        cases hF
        exact wp_ret (ret_okR tok h rfl (by kernel_rfl)).1
end Go.Proofs.Ytijlnlonlmcdoaa.V
