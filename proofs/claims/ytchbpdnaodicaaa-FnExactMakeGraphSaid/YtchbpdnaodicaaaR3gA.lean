/-
  THE CONTRACTS OF SOME FUNCTIONS OF THIS SEAT, PRINTED BY A PROGRAM OF THIS PROJECT (wip/gen/vgen.py).
-/
import Derived.Test.YtchbpdnaodicaaaProg
import Derived.Test.YtchbpdnaodicaaaVmW
import Derived.Test.YtchbpdnaodicaaaVmZ
import Derived.KernelRfl
set_option linter.unusedVariables false
open Go Go.Vm Go.Proofs
namespace Go.Proofs.Ytchbpdnaodicaaa.V
abbrev sh0 : Sh := (.sl false 328 (.st (.pair .str .str)))
abbrev sh1 : Sh := (.st (.pair (.int .i64) (.pair (.st (.pair (.int .i64) (.int .i64))) (.sl false 328 (.st (.pair .str .str))))))
abbrev sh2 : Sh := (.sl false 257 (.st (.pair (.int .i64) (.pair (.st (.pair (.int .i64) (.int .i64))) (.sl false 328 (.st (.pair .str .str)))))))
abbrev sh3 : Sh := (.st (.pair (.int .i64) (.pair (.sl false 2 (.int .i64)) (.sl false 328 (.st (.pair .str .str))))))
abbrev sh4 : Sh := (.sl false 260 (.st (.pair (.int .i64) (.pair (.sl false 2 (.int .i64)) (.sl false 328 (.st (.pair .str .str)))))))
abbrev sh5 : Sh := (.sl false 331 (.st (.pair (.int .i64) .bool)))
abbrev sh6 : Sh := (.st (.pair (.int .i64) (.pair (.sl false 331 (.st (.pair (.int .i64) .bool))) (.sl false 328 (.st (.pair .str .str))))))
abbrev sh7 : Sh := (.sl false 264 (.st (.pair (.int .i64) (.pair (.sl false 331 (.st (.pair (.int .i64) .bool))) (.sl false 328 (.st (.pair .str .str)))))))
abbrev sh8 : Sh := (.st (.pair (.sl false 257 (.st (.pair (.int .i64) (.pair (.st (.pair (.int .i64) (.int .i64))) (.sl false 328 (.st (.pair .str .str))))))) (.pair (.sl false 260 (.st (.pair (.int .i64) (.pair (.sl false 2 (.int .i64)) (.sl false 328 (.st (.pair .str .str))))))) (.sl false 264 (.st (.pair (.int .i64) (.pair (.sl false 331 (.st (.pair (.int .i64) .bool))) (.sl false 328 (.st (.pair .str .str))))))))))
abbrev sh9 : Sh := (.st (.pair (.int .i64) (.int .i64)))
abbrev sh10 : Sh := (.sl true 273 (.st (.pair .str .str)))
abbrev sh11 : Sh := (.st (.pair (.int .i64) (.pair (.st (.pair (.int .i64) (.int .i64))) (.sl true 273 (.st (.pair .str .str))))))
abbrev sh12 : Sh := (.sl true 188 (.st (.pair (.int .i64) (.pair (.st (.pair (.int .i64) (.int .i64))) (.sl true 273 (.st (.pair .str .str)))))))
abbrev sh13 : Sh := (.st (.pair (.int .i64) (.pair (.sl true 2 (.int .i64)) (.sl true 273 (.st (.pair .str .str))))))
abbrev sh14 : Sh := (.sl true 184 (.st (.pair (.int .i64) (.pair (.sl true 2 (.int .i64)) (.sl true 273 (.st (.pair .str .str)))))))
abbrev sh15 : Sh := (.st (.pair (.int .i64) .bool))
abbrev sh16 : Sh := (.sl true 278 (.st (.pair (.int .i64) .bool)))
abbrev sh17 : Sh := (.st (.pair (.int .i64) (.pair (.sl true 278 (.st (.pair (.int .i64) .bool))) (.sl true 273 (.st (.pair .str .str))))))
abbrev sh18 : Sh := (.sl true 270 (.st (.pair (.int .i64) (.pair (.sl true 278 (.st (.pair (.int .i64) .bool))) (.sl true 273 (.st (.pair .str .str)))))))
abbrev sh19 : Sh := (.st (.pair (.sl true 188 (.st (.pair (.int .i64) (.pair (.st (.pair (.int .i64) (.int .i64))) (.sl true 273 (.st (.pair .str .str))))))) (.pair (.sl true 184 (.st (.pair (.int .i64) (.pair (.sl true 2 (.int .i64)) (.sl true 273 (.st (.pair .str .str))))))) (.sl true 270 (.st (.pair (.int .i64) (.pair (.sl true 278 (.st (.pair (.int .i64) .bool))) (.sl true 273 (.st (.pair .str .str))))))))))
abbrev sh20 : Sh := (.sl false 273 (.st (.pair .str .str)))
abbrev sh21 : Sh := (.pt true 98 (.st (.pair (.sl false 188 (.st (.pair (.int .i64) (.pair (.st (.pair (.int .i64) (.int .i64))) (.sl false 273 (.st (.pair .str .str))))))) (.pair (.sl false 184 (.st (.pair (.int .i64) (.pair (.sl false 2 (.int .i64)) (.sl false 273 (.st (.pair .str .str))))))) (.sl false 270 (.st (.pair (.int .i64) (.pair (.sl false 278 (.st (.pair (.int .i64) .bool))) (.sl false 273 (.st (.pair .str .str)))))))))))
abbrev sh22 : Sh := (.st (.pair (.sl false 188 (.st (.pair (.int .i64) (.pair (.st (.pair (.int .i64) (.int .i64))) (.sl false 273 (.st (.pair .str .str))))))) (.pair (.sl false 184 (.st (.pair (.int .i64) (.pair (.sl false 2 (.int .i64)) (.sl false 273 (.st (.pair .str .str))))))) (.sl false 270 (.st (.pair (.int .i64) (.pair (.sl false 278 (.st (.pair (.int .i64) .bool))) (.sl false 273 (.st (.pair .str .str))))))))))
abbrev sh23 : Sh := (.pt true 184 (.st (.pair (.int .i64) (.pair (.sl false 2 (.int .i64)) (.sl false 273 (.st (.pair .str .str)))))))
abbrev sh24 : Sh := (.st (.pair (.int .i64) (.pair (.sl false 2 (.int .i64)) (.sl false 273 (.st (.pair .str .str))))))
abbrev sh25 : Sh := (.pt true 270 (.st (.pair (.int .i64) (.pair (.sl false 278 (.st (.pair (.int .i64) .bool))) (.sl false 273 (.st (.pair .str .str)))))))
abbrev sh26 : Sh := (.st (.pair (.int .i64) (.pair (.sl false 278 (.st (.pair (.int .i64) .bool))) (.sl false 273 (.st (.pair .str .str))))))
abbrev sh27 : Sh := (.pt true 35 (.st (.pair (.sl true 176 (.st (.pair (.int .i64) (.st (.pair (.int .i64) (.int .i64)))))) (.pair (.sl true 110 (.st (.pair (.int .i64) (.pair (.int .i64) (.pair (.int .i64) (.pair (.int .i64) (.pair (.int .i64) .str))))))) (.sl true 167 (.st (.pair (.int .i64) (.int .i64))))))))
abbrev sh28 : Sh := (.pt true 35 (.st (.pair (.sl false 176 (.st (.pair (.int .i64) (.st (.pair (.int .i64) (.int .i64)))))) (.pair (.sl false 110 (.st (.pair (.int .i64) (.pair (.int .i64) (.pair (.int .i64) (.pair (.int .i64) (.pair (.int .i64) .str))))))) (.sl false 167 (.st (.pair (.int .i64) (.int .i64))))))))
abbrev sh29 : Sh := (.st (.pair (.sl false 176 (.st (.pair (.int .i64) (.st (.pair (.int .i64) (.int .i64)))))) (.pair (.sl false 110 (.st (.pair (.int .i64) (.pair (.int .i64) (.pair (.int .i64) (.pair (.int .i64) (.pair (.int .i64) .str))))))) (.sl false 167 (.st (.pair (.int .i64) (.int .i64)))))))
abbrev sh30 : Sh := (.pt true 110 (.st (.pair (.int .i64) (.pair (.int .i64) (.pair (.int .i64) (.pair (.int .i64) (.pair (.int .i64) .str)))))))
abbrev sh31 : Sh := (.st (.pair (.sl true 176 (.st (.pair (.int .i64) (.st (.pair (.int .i64) (.int .i64)))))) (.pair (.sl true 110 (.st (.pair (.int .i64) (.pair (.int .i64) (.pair (.int .i64) (.pair (.int .i64) (.pair (.int .i64) .str))))))) (.sl true 167 (.st (.pair (.int .i64) (.int .i64)))))))
abbrev sh32 : Sh := (.pt true 273 (.st (.pair .str .str)))
abbrev sh33 : Sh := (.mp true (.int .i64) .bool)
abbrev sh34 : Sh := (.sl false 188 (.st (.pair (.int .i64) (.pair (.st (.pair (.int .i64) (.int .i64))) (.sl false 273 (.st (.pair .str .str)))))))
abbrev sh35 : Sh := (.sl false 184 (.st (.pair (.int .i64) (.pair (.sl false 2 (.int .i64)) (.sl false 273 (.st (.pair .str .str)))))))
abbrev sh36 : Sh := (.sl false 270 (.st (.pair (.int .i64) (.pair (.sl false 278 (.st (.pair (.int .i64) .bool))) (.sl false 273 (.st (.pair .str .str)))))))
abbrev sh37 : Sh := (.sl false 278 (.st (.pair (.int .i64) .bool)))
abbrev sh38 : Sh := (.mp true (.int .i64) (.st (.pair (.int .i64) (.int .i64))))
abbrev sh39 : Sh := (.mp true (.int .i64) (.int .i64))
abbrev sh40 : Sh := (.sl false 176 (.st (.pair (.int .i64) (.st (.pair (.int .i64) (.int .i64))))))
abbrev sh41 : Sh := (.sl false 110 (.st (.pair (.int .i64) (.pair (.int .i64) (.pair (.int .i64) (.pair (.int .i64) (.pair (.int .i64) .str)))))))
abbrev sh42 : Sh := (.sl false 167 (.st (.pair (.int .i64) (.int .i64))))
abbrev sh43 : Sh := (.pt true 167 (.st (.pair (.int .i64) (.int .i64))))
abbrev sh44 : Sh := (.st (.pair (.int .i64) (.st (.pair (.int .i64) (.int .i64)))))
abbrev sh45 : Sh := (.st (.pair (.int .i64) (.pair (.int .i64) (.pair (.int .i64) (.pair (.int .i64) (.pair (.int .i64) .str))))))
abbrev sh46 : Sh := (.st (.pair (.int .i64) (.pair (.st (.pair (.int .i64) (.int .i64))) (.sl false 273 (.st (.pair .str .str))))))
abbrev sh47 : Sh := (.sl true 176 (.st (.pair (.int .i64) (.st (.pair (.int .i64) (.int .i64))))))
abbrev sh48 : Sh := (.sl true 110 (.st (.pair (.int .i64) (.pair (.int .i64) (.pair (.int .i64) (.pair (.int .i64) (.pair (.int .i64) .str)))))))
abbrev sh49 : Sh := (.sl true 167 (.st (.pair (.int .i64) (.int .i64))))
def tbl : Tbl := [⟨2, .int .i64, 1, 8, (.int .i64)⟩,
  ⟨3, .int .i64, 1, 8, (.int .i64)⟩,
  ⟨4, .bool, 1, 1, .bool⟩,
  ⟨5, .int .u8, 1, 1, (.int .u8)⟩,
  ⟨9, .string, 1, 16, .str⟩,
  ⟨27, .slice 2, 1, 24, (.sl true 2 (.int .i64))⟩,
  ⟨31, .slice 176, 1, 24, (.sl true 176 (.st (.pair (.int .i64) (.st (.pair (.int .i64) (.int .i64))))))⟩,
  ⟨32, .slice 110, 1, 24, (.sl true 110 (.st (.pair (.int .i64) (.pair (.int .i64) (.pair (.int .i64) (.pair (.int .i64) (.pair (.int .i64) .str)))))))⟩,
  ⟨33, .slice 167, 1, 24, (.sl true 167 (.st (.pair (.int .i64) (.int .i64))))⟩,
  ⟨35, .struct [(31, 0), (32, 1), (33, 2)], 3, 72, (.st (.pair (.sl true 176 (.st (.pair (.int .i64) (.st (.pair (.int .i64) (.int .i64)))))) (.pair (.sl true 110 (.st (.pair (.int .i64) (.pair (.int .i64) (.pair (.int .i64) (.pair (.int .i64) (.pair (.int .i64) .str))))))) (.sl true 167 (.st (.pair (.int .i64) (.int .i64)))))))⟩,
  ⟨87, .slice 257, 1, 24, (.sl true 257 (.st (.pair (.int .i64) (.pair (.st (.pair (.int .i64) (.int .i64))) (.sl true 328 (.st (.pair .str .str)))))))⟩,
  ⟨88, .slice 260, 1, 24, (.sl true 260 (.st (.pair (.int .i64) (.pair (.sl true 2 (.int .i64)) (.sl true 328 (.st (.pair .str .str)))))))⟩,
  ⟨89, .slice 264, 1, 24, (.sl true 264 (.st (.pair (.int .i64) (.pair (.sl true 331 (.st (.pair (.int .i64) .bool))) (.sl true 328 (.st (.pair .str .str)))))))⟩,
  ⟨91, .struct [(87, 0), (88, 1), (89, 2)], 3, 72, (.st (.pair (.sl true 257 (.st (.pair (.int .i64) (.pair (.st (.pair (.int .i64) (.int .i64))) (.sl true 328 (.st (.pair .str .str))))))) (.pair (.sl true 260 (.st (.pair (.int .i64) (.pair (.sl true 2 (.int .i64)) (.sl true 328 (.st (.pair .str .str))))))) (.sl true 264 (.st (.pair (.int .i64) (.pair (.sl true 331 (.st (.pair (.int .i64) .bool))) (.sl true 328 (.st (.pair .str .str))))))))))⟩,
  ⟨94, .slice 188, 1, 24, (.sl true 188 (.st (.pair (.int .i64) (.pair (.st (.pair (.int .i64) (.int .i64))) (.sl true 273 (.st (.pair .str .str)))))))⟩,
  ⟨95, .slice 184, 1, 24, (.sl true 184 (.st (.pair (.int .i64) (.pair (.sl true 2 (.int .i64)) (.sl true 273 (.st (.pair .str .str)))))))⟩,
  ⟨96, .slice 270, 1, 24, (.sl true 270 (.st (.pair (.int .i64) (.pair (.sl true 278 (.st (.pair (.int .i64) .bool))) (.sl true 273 (.st (.pair .str .str)))))))⟩,
  ⟨98, .struct [(94, 0), (95, 1), (96, 2)], 3, 72, (.st (.pair (.sl true 188 (.st (.pair (.int .i64) (.pair (.st (.pair (.int .i64) (.int .i64))) (.sl true 273 (.st (.pair .str .str))))))) (.pair (.sl true 184 (.st (.pair (.int .i64) (.pair (.sl true 2 (.int .i64)) (.sl true 273 (.st (.pair .str .str))))))) (.sl true 270 (.st (.pair (.int .i64) (.pair (.sl true 278 (.st (.pair (.int .i64) .bool))) (.sl true 273 (.st (.pair .str .str))))))))))⟩,
  ⟨110, .struct [(2, 0), (2, 1), (2, 2), (2, 3), (2, 4), (9, 5)], 6, 56, (.st (.pair (.int .i64) (.pair (.int .i64) (.pair (.int .i64) (.pair (.int .i64) (.pair (.int .i64) .str))))))⟩,
  ⟨167, .struct [(2, 0), (2, 1)], 2, 16, (.st (.pair (.int .i64) (.int .i64)))⟩,
  ⟨174, .struct [(2, 0), (2, 1)], 2, 16, (.st (.pair (.int .i64) (.int .i64)))⟩,
  ⟨176, .struct [(2, 0), (174, 1)], 3, 24, (.st (.pair (.int .i64) (.st (.pair (.int .i64) (.int .i64)))))⟩,
  ⟨181, .slice 4, 1, 24, (.sl true 4 .bool)⟩,
  ⟨182, .slice 273, 1, 24, (.sl true 273 (.st (.pair .str .str)))⟩,
  ⟨184, .struct [(2, 0), (27, 1), (182, 2)], 3, 56, (.st (.pair (.int .i64) (.pair (.sl true 2 (.int .i64)) (.sl true 273 (.st (.pair .str .str))))))⟩,
  ⟨188, .struct [(2, 0), (174, 1), (182, 3)], 4, 48, (.st (.pair (.int .i64) (.pair (.st (.pair (.int .i64) (.int .i64))) (.sl true 273 (.st (.pair .str .str))))))⟩,
  ⟨194, .map 2 174, 1, 8, (.mp true (.int .i64) (.st (.pair (.int .i64) (.int .i64))))⟩,
  ⟨196, .map 2 4, 1, 8, (.mp true (.int .i64) .bool)⟩,
  ⟨197, .map 2 2, 1, 8, (.mp true (.int .i64) (.int .i64))⟩,
  ⟨211, .struct [(2, 0), (2, 1)], 2, 16, (.st (.pair (.int .i64) (.int .i64)))⟩,
  ⟨222, .slice 5, 1, 24, (.sl true 5 (.int .u8))⟩,
  ⟨255, .slice 328, 1, 24, (.sl true 328 (.st (.pair .str .str)))⟩,
  ⟨257, .struct [(2, 0), (211, 1), (255, 3)], 4, 48, (.st (.pair (.int .i64) (.pair (.st (.pair (.int .i64) (.int .i64))) (.sl true 328 (.st (.pair .str .str))))))⟩,
  ⟨260, .struct [(2, 0), (27, 1), (255, 2)], 3, 56, (.st (.pair (.int .i64) (.pair (.sl true 2 (.int .i64)) (.sl true 328 (.st (.pair .str .str))))))⟩,
  ⟨262, .slice 331, 1, 24, (.sl true 331 (.st (.pair (.int .i64) .bool)))⟩,
  ⟨264, .struct [(2, 0), (262, 1), (255, 2)], 3, 56, (.st (.pair (.int .i64) (.pair (.sl true 331 (.st (.pair (.int .i64) .bool))) (.sl true 328 (.st (.pair .str .str))))))⟩,
  ⟨268, .slice 278, 1, 24, (.sl true 278 (.st (.pair (.int .i64) .bool)))⟩,
  ⟨270, .struct [(2, 0), (268, 1), (182, 2)], 3, 56, (.st (.pair (.int .i64) (.pair (.sl true 278 (.st (.pair (.int .i64) .bool))) (.sl true 273 (.st (.pair .str .str))))))⟩,
  ⟨273, .struct [(9, 0), (9, 1)], 2, 32, (.st (.pair .str .str))⟩,
  ⟨278, .struct [(2, 0), (4, 1)], 2, 16, (.st (.pair (.int .i64) .bool))⟩,
  ⟨311, .int .u64, 1, 8, (.int .u64)⟩,
  ⟨328, .struct [(9, 0), (9, 1)], 2, 32, (.st (.pair .str .str))⟩,
  ⟨331, .struct [(2, 0), (4, 1)], 2, 16, (.st (.pair (.int .i64) .bool))⟩]
theorem tok : TOk Try.prog tbl := by unfold TOk; kernel_rfl

def f263 (k : Nat) (x0 : (ByteArray × ByteArray)) (x1 : Int) : Option Int := if (decide (((IntKind.i64.wrap (x1 - (ByteArray.size x0.1 : Int))) : Int) < (0 : Int))) then (some (-1 : Int)) else (if (decide (((IntKind.i64.wrap ((IntKind.i64.wrap (x1 - (ByteArray.size x0.1 : Int))) - (ByteArray.size x0.2 : Int))) : Int) < (0 : Int))) then (some (-1 : Int)) else (some (IntKind.i64.wrap ((IntKind.i64.wrap (x1 - (ByteArray.size x0.1 : Int))) - (ByteArray.size x0.2 : Int)))))
set_option maxRecDepth 100000 in
/-- 'laws.szTag'. -/
theorem c263 (k : Nat) (x0 : (ByteArray × ByteArray)) (x1 : Int) (r : Int) (hF : f263 k x0 x1 = some r) : PCall Try.prog 263 [⟨(.st (.pair .str .str)), x0⟩, ⟨(.int .i64), x1⟩] [⟨(.int .i64), r⟩] := by
  refine pcall_intro Try.func263 rfl rfl (Nat.le_of_ble_eq_true rfl) ?_
  intro w0 Zi a w h
  rw [f263] at hF
  refine wp_reg_seq tok (orc := orcL []) (fz := []) (l := [1, 2]) (c := _) (.inr fun i h => h) h (by kernel_rfl) (AllP.nil) ?_
  intro a w h
  refine wp_reg_seq tok (orc := orcL []) (fz := []) (l := [1, 2]) (c := _) (.inr fun i h => h) h (by kernel_rfl) (AllP.nil) ?_
  intro a w h
  refine wp_seq ?_
  refine wp_reg_seq tok (orc := orcL []) (fz := []) (l := [1, 2, 11]) (c := _) (.inr fun i h => h) h (by kernel_rfl) (AllP.nil) ?_
  intro a w h
  refine wp_if h (b := (decide (((IntKind.i64.wrap (x1 - (ByteArray.size x0.1 : Int))) : Int) < (0 : Int)))) (by kernel_rfl) (fun hb => ?_) (fun hb => ?_)
  · replace hF := of_t hb hF
    refine wp_reg_seq tok (orc := orcL []) (fz := []) (l := [4]) (c := _) (.inr fun i h => h) h (by kernel_rfl) (AllP.nil) ?_
    intro a w h
    cases hF
    exact wp_ret (ret_okR tok h rfl (by kernel_rfl)).1
  · replace hF := of_f hb hF
    refine wp_skip ?_
    refine wp_reg_seq tok (orc := orcL []) (fz := []) (l := [1]) (c := _) (.inr fun i h => h) h (by kernel_rfl) (AllP.nil) ?_
    intro a w h
    refine wp_seq ?_
    refine wp_reg_seq tok (orc := orcL []) (fz := []) (l := [1, 18]) (c := _) (.inr fun i h => h) h (by kernel_rfl) (AllP.nil) ?_
    intro a w h
    refine wp_if h (b := (decide (((IntKind.i64.wrap ((IntKind.i64.wrap (x1 - (ByteArray.size x0.1 : Int))) - (ByteArray.size x0.2 : Int))) : Int) < (0 : Int)))) (by kernel_rfl) (fun hb => ?_) (fun hb => ?_)
    · replace hF := of_t hb hF
      refine wp_reg_seq tok (orc := orcL []) (fz := []) (l := [4]) (c := _) (.inr fun i h => h) h (by kernel_rfl) (AllP.nil) ?_
      intro a w h
      cases hF
      exact wp_ret (ret_okR tok h rfl (by kernel_rfl)).1
    · replace hF := of_f hb hF
      refine wp_skip ?_
      refine wp_reg_seq tok (orc := orcL []) (fz := []) (l := [4]) (c := _) (.inr fun i h => h) h (by kernel_rfl) (AllP.nil) ?_
      intro a w h
      cases hF
      exact wp_ret (ret_okR tok h rfl (by kernel_rfl)).1

def f239.l28 (k : Nat) (x0 : (List (ByteArray × ByteArray))) : Nat → (Int × Int) → Option Int
  | 0, _ => none
  | m28 + 1, (v47, v48) => if (decide ((v48 : Int) < (List.length x0 : Int))) then (if (0 ≤ v48 ∧ v48 < (List.length x0 : Int)) then ((f263 k (List.getD x0 (Int.toNat v48) ((⟨#[]⟩ : ByteArray), (⟨#[]⟩ : ByteArray))) v47).bind fun r52 => (if (decide ((r52 : Int) < (0 : Int))) then (some (-1 : Int)) else ((f239.l28 k x0) m28 (r52, (IntKind.i64.wrap (v48 + (1 : Int))))))) else none) else (some v47)
def f239 (k : Nat) (x0 : (List (ByteArray × ByteArray))) (x1 : Int) : Option Int := if (decide (((IntKind.i64.wrap (x1 - (List.length x0 : Int))) : Int) < (0 : Int))) then (some (-1 : Int)) else (f239.l28 k x0 k ((IntKind.i64.wrap (x1 - (List.length x0 : Int))), (0 : Int)))
set_option maxRecDepth 100000 in
/-- 'laws.szTagS'. -/
theorem c239 (k : Nat) (x0 : (List (ByteArray × ByteArray))) (x1 : Int) (r : Int) (hF : f239 k x0 x1 = some r) : PCall Try.prog 239 [⟨sh0, x0⟩, ⟨(.int .i64), x1⟩] [⟨(.int .i64), r⟩] := by
  refine pcall_intro Try.func239 rfl rfl (Nat.le_of_ble_eq_true rfl) ?_
  intro w0 Zi a w h
  rw [f239] at hF
  refine wp_reg_seq tok (orc := orcL []) (fz := []) (l := [0, 1]) (c := _) (.inr fun i h => h) h (by kernel_rfl) (AllP.nil) ?_
  intro a w h
  refine wp_reg_seq tok (orc := orcL []) (fz := []) (l := [0, 1]) (c := _) (.inr fun i h => h) h (by kernel_rfl) (AllP.nil) ?_
  intro a w h
  refine wp_seq ?_
  refine wp_reg_seq tok (orc := orcL []) (fz := []) (l := [0, 1, 11]) (c := _) (.inr fun i h => h) h (by kernel_rfl) (AllP.nil) ?_
  intro a w h
  refine wp_if h (b := (decide (((IntKind.i64.wrap (x1 - (List.length x0 : Int))) : Int) < (0 : Int)))) (by kernel_rfl) (fun hb => ?_) (fun hb => ?_)
  · replace hF := of_t hb hF
    refine wp_reg_seq tok (orc := orcL []) (fz := []) (l := [4]) (c := _) (.inr fun i h => h) h (by kernel_rfl) (AllP.nil) ?_
    intro a w h
    cases hF
    exact wp_ret (ret_okR tok h rfl (by kernel_rfl)).1
  · replace hF := of_f hb hF
    refine wp_skip ?_
    refine wp_seq ?_
    refine wp_reg_seq tok (orc := orcL []) (fz := []) (l := [0, 1, 5]) (c := _) (.inr fun i h => h) h (by kernel_rfl) (AllP.nil) ?_
    intro a w h
    refine wp_block ?_
    refine wp_loop_fuel (f239.l28 k x0) (fun ((v47, v48) : (Int × Int)) => [(0, .val sh0 x0), (1, .val (.int .i64) v47), (5, .val (.int .i64) v48)]) (fun v h => by obtain ⟨v47, v48⟩ := v; rw [f239.l28] at h; cases h) ?_ hF (h.arrive (fz := []) (l := [0, 1, 5]) (.inr fun i h => h) (by kernel_rfl))
    intro m28 v a w hF h
    obtain ⟨v47, v48⟩ := v
    rw [f239.l28] at hF
    refine wp_seq ?_
    refine wp_reg_seq tok (orc := orcL []) (fz := []) (l := [0, 1, 5, 15]) (c := _) (.inr fun i h => h) h (by kernel_rfl) (AllP.nil) ?_
    intro a w h
    refine wp_if h (b := (decide ((v48 : Int) < (List.length x0 : Int)))) (by kernel_rfl) (fun hb => ?_) (fun hb => ?_)
    · replace hF := of_t hb hF
      refine wp_skip ?_
      refine wp_seq <| wp_block ?_
      obtain ⟨hc53, hF⟩ := of_if hF
      obtain ⟨r52, hr54, hF⟩ := of_bind hF
      refine wp_reg_seq tok (orc := orcL [(23, [⟨(.int .i64), r52⟩])]) (fz := []) (l := [0, 1, 5]) (c := _) (.inr fun i h => h) h (by kernel_rfl) (AllP.cons hc53 (AllP.cons (c263 k (List.getD x0 (Int.toNat v48) ((⟨#[]⟩ : ByteArray), (⟨#[]⟩ : ByteArray))) v47 r52 hr54) AllP.nil)) ?_
      intro a w h
      refine wp_reg_seq tok (orc := orcL []) (fz := []) (l := [0, 1, 5, 25]) (c := _) (.inr fun i h => h) h (by kernel_rfl) (AllP.nil) ?_
      intro a w h
      refine wp_if h (b := (decide ((r52 : Int) < (0 : Int)))) (by kernel_rfl) (fun hb => ?_) (fun hb => ?_)
      · replace hF := of_t hb hF
        refine wp_reg_seq tok (orc := orcL []) (fz := []) (l := [4]) (c := _) (.inr fun i h => h) h (by kernel_rfl) (AllP.nil) ?_
        intro a w h
        cases hF
        exact wp_ret (ret_okR tok h rfl (by kernel_rfl)).1
      · replace hF := of_f hb hF
        refine wp_skip ?_
        refine wp_reg tok (orc := orcL []) (fz := []) (l := [0, 1, 5]) (c := _) (.inr fun i h => h) h (by kernel_rfl) (AllP.nil) ?_
        intro a w h
        exact ⟨(r52, (IntKind.i64.wrap (v48 + (1 : Int)))), hF, h.arrive (fz := []) (l := [0, 1, 5]) (.inr fun i h => h) (by kernel_rfl)⟩
    · replace hF := of_f hb hF
      refine wp_exit ?_
      refine wp_reg_seq tok (orc := orcL []) (fz := []) (l := [4]) (c := _) (.inr fun i h => h) h (by kernel_rfl) (AllP.nil) ?_
      intro a w h
      cases hF
      exact wp_ret (ret_okR tok h rfl (by kernel_rfl)).1

def f196 (k : Nat) (x0 : (Int × ((Int × Int) × (List (ByteArray × ByteArray))))) (x1 : Int) : Option Int := (f239 k x0.2.2 x1).bind fun r1 => (if (decide ((r1 : Int) < (0 : Int))) then (some (-1 : Int)) else (some r1))
set_option maxRecDepth 100000 in
/-- 'laws.szNode'. -/
theorem c196 (k : Nat) (x0 : (Int × ((Int × Int) × (List (ByteArray × ByteArray))))) (x1 : Int) (r : Int) (hF : f196 k x0 x1 = some r) : PCall Try.prog 196 [⟨sh1, x0⟩, ⟨(.int .i64), x1⟩] [⟨(.int .i64), r⟩] := by
  refine pcall_intro Try.func196 rfl rfl (Nat.le_of_ble_eq_true rfl) ?_
  intro w0 Zi a w h
  rw [f196] at hF
  refine wp_reg_seq tok (orc := orcL []) (fz := []) (l := [1, 2]) (c := _) (.inr fun i h => h) h (by kernel_rfl) (AllP.nil) ?_
  intro a w h
  obtain ⟨r1, hr2, hF⟩ := of_bind hF
  refine wp_reg_seq tok (orc := orcL [(8, [⟨(.int .i64), r1⟩])]) (fz := []) (l := [1]) (c := _) (.inr fun i h => h) h (by kernel_rfl) (AllP.cons (c239 k x0.2.2 x1 r1 hr2) AllP.nil) ?_
  intro a w h
  refine wp_seq ?_
  refine wp_reg_seq tok (orc := orcL []) (fz := []) (l := [1, 10]) (c := _) (.inr fun i h => h) h (by kernel_rfl) (AllP.nil) ?_
  intro a w h
  refine wp_if h (b := (decide ((r1 : Int) < (0 : Int)))) (by kernel_rfl) (fun hb => ?_) (fun hb => ?_)
  · replace hF := of_t hb hF
    refine wp_reg_seq tok (orc := orcL []) (fz := []) (l := [4]) (c := _) (.inr fun i h => h) h (by kernel_rfl) (AllP.nil) ?_
    intro a w h
    cases hF
    exact wp_ret (ret_okR tok h rfl (by kernel_rfl)).1
  · replace hF := of_f hb hF
    refine wp_skip ?_
    refine wp_reg_seq tok (orc := orcL []) (fz := []) (l := [4]) (c := _) (.inr fun i h => h) h (by kernel_rfl) (AllP.nil) ?_
    intro a w h
    cases hF
    exact wp_ret (ret_okR tok h rfl (by kernel_rfl)).1

def f133.l28 (k : Nat) (x0 : (List (Int × ((Int × Int) × (List (ByteArray × ByteArray)))))) : Nat → (Int × Int) → Option Int
  | 0, _ => none
  | m28 + 1, (v47, v48) => if (decide ((v48 : Int) < (List.length x0 : Int))) then (if (0 ≤ v48 ∧ v48 < (List.length x0 : Int)) then ((f196 k (List.getD x0 (Int.toNat v48) ((0 : Int), (((0 : Int), (0 : Int)), ([] : (List (ByteArray × ByteArray)))))) v47).bind fun r52 => (if (decide ((r52 : Int) < (0 : Int))) then (some (-1 : Int)) else ((f133.l28 k x0) m28 (r52, (IntKind.i64.wrap (v48 + (1 : Int))))))) else none) else (some v47)
def f133 (k : Nat) (x0 : (List (Int × ((Int × Int) × (List (ByteArray × ByteArray)))))) (x1 : Int) : Option Int := if (decide (((IntKind.i64.wrap (x1 - (List.length x0 : Int))) : Int) < (0 : Int))) then (some (-1 : Int)) else (f133.l28 k x0 k ((IntKind.i64.wrap (x1 - (List.length x0 : Int))), (0 : Int)))
set_option maxRecDepth 100000 in
/-- 'laws.szNodeS'. -/
theorem c133 (k : Nat) (x0 : (List (Int × ((Int × Int) × (List (ByteArray × ByteArray)))))) (x1 : Int) (r : Int) (hF : f133 k x0 x1 = some r) : PCall Try.prog 133 [⟨sh2, x0⟩, ⟨(.int .i64), x1⟩] [⟨(.int .i64), r⟩] := by
  refine pcall_intro Try.func133 rfl rfl (Nat.le_of_ble_eq_true rfl) ?_
  intro w0 Zi a w h
  rw [f133] at hF
  refine wp_reg_seq tok (orc := orcL []) (fz := []) (l := [0, 1]) (c := _) (.inr fun i h => h) h (by kernel_rfl) (AllP.nil) ?_
  intro a w h
  refine wp_reg_seq tok (orc := orcL []) (fz := []) (l := [0, 1]) (c := _) (.inr fun i h => h) h (by kernel_rfl) (AllP.nil) ?_
  intro a w h
  refine wp_seq ?_
  refine wp_reg_seq tok (orc := orcL []) (fz := []) (l := [0, 1, 11]) (c := _) (.inr fun i h => h) h (by kernel_rfl) (AllP.nil) ?_
  intro a w h
  refine wp_if h (b := (decide (((IntKind.i64.wrap (x1 - (List.length x0 : Int))) : Int) < (0 : Int)))) (by kernel_rfl) (fun hb => ?_) (fun hb => ?_)
  · replace hF := of_t hb hF
    refine wp_reg_seq tok (orc := orcL []) (fz := []) (l := [4]) (c := _) (.inr fun i h => h) h (by kernel_rfl) (AllP.nil) ?_
    intro a w h
    cases hF
    exact wp_ret (ret_okR tok h rfl (by kernel_rfl)).1
  · replace hF := of_f hb hF
    refine wp_skip ?_
    refine wp_seq ?_
    refine wp_reg_seq tok (orc := orcL []) (fz := []) (l := [0, 1, 5]) (c := _) (.inr fun i h => h) h (by kernel_rfl) (AllP.nil) ?_
    intro a w h
    refine wp_block ?_
    refine wp_loop_fuel (f133.l28 k x0) (fun ((v47, v48) : (Int × Int)) => [(0, .val sh2 x0), (1, .val (.int .i64) v47), (5, .val (.int .i64) v48)]) (fun v h => by obtain ⟨v47, v48⟩ := v; rw [f133.l28] at h; cases h) ?_ hF (h.arrive (fz := []) (l := [0, 1, 5]) (.inr fun i h => h) (by kernel_rfl))
    intro m28 v a w hF h
    obtain ⟨v47, v48⟩ := v
    rw [f133.l28] at hF
    refine wp_seq ?_
    refine wp_reg_seq tok (orc := orcL []) (fz := []) (l := [0, 1, 5, 15]) (c := _) (.inr fun i h => h) h (by kernel_rfl) (AllP.nil) ?_
    intro a w h
    refine wp_if h (b := (decide ((v48 : Int) < (List.length x0 : Int)))) (by kernel_rfl) (fun hb => ?_) (fun hb => ?_)
    · replace hF := of_t hb hF
      refine wp_skip ?_
      refine wp_seq <| wp_block ?_
      obtain ⟨hc53, hF⟩ := of_if hF
      obtain ⟨r52, hr54, hF⟩ := of_bind hF
      refine wp_reg_seq tok (orc := orcL [(23, [⟨(.int .i64), r52⟩])]) (fz := []) (l := [0, 1, 5]) (c := _) (.inr fun i h => h) h (by kernel_rfl) (AllP.cons hc53 (AllP.cons (c196 k (List.getD x0 (Int.toNat v48) ((0 : Int), (((0 : Int), (0 : Int)), ([] : (List (ByteArray × ByteArray)))))) v47 r52 hr54) AllP.nil)) ?_
      intro a w h
      refine wp_reg_seq tok (orc := orcL []) (fz := []) (l := [0, 1, 5, 25]) (c := _) (.inr fun i h => h) h (by kernel_rfl) (AllP.nil) ?_
      intro a w h
      refine wp_if h (b := (decide ((r52 : Int) < (0 : Int)))) (by kernel_rfl) (fun hb => ?_) (fun hb => ?_)
      · replace hF := of_t hb hF
        refine wp_reg_seq tok (orc := orcL []) (fz := []) (l := [4]) (c := _) (.inr fun i h => h) h (by kernel_rfl) (AllP.nil) ?_
        intro a w h
        cases hF
        exact wp_ret (ret_okR tok h rfl (by kernel_rfl)).1
      · replace hF := of_f hb hF
        refine wp_skip ?_
        refine wp_reg tok (orc := orcL []) (fz := []) (l := [0, 1, 5]) (c := _) (.inr fun i h => h) h (by kernel_rfl) (AllP.nil) ?_
        intro a w h
        exact ⟨(r52, (IntKind.i64.wrap (v48 + (1 : Int)))), hF, h.arrive (fz := []) (l := [0, 1, 5]) (.inr fun i h => h) (by kernel_rfl)⟩
    · replace hF := of_f hb hF
      refine wp_exit ?_
      refine wp_reg_seq tok (orc := orcL []) (fz := []) (l := [4]) (c := _) (.inr fun i h => h) h (by kernel_rfl) (AllP.nil) ?_
      intro a w h
      cases hF
      exact wp_ret (ret_okR tok h rfl (by kernel_rfl)).1

def f106 (k : Nat) (x0 : (List Int)) (x1 : Int) : Option Int := if (decide (((IntKind.i64.wrap (x1 - (List.length x0 : Int))) : Int) < (0 : Int))) then (some (-1 : Int)) else (some (IntKind.i64.wrap (x1 - (List.length x0 : Int))))
set_option maxRecDepth 100000 in
/-- 'laws.szInt64S'. -/
theorem c106 (k : Nat) (x0 : (List Int)) (x1 : Int) (r : Int) (hF : f106 k x0 x1 = some r) : PCall Try.prog 106 [⟨(.sl false 2 (.int .i64)), x0⟩, ⟨(.int .i64), x1⟩] [⟨(.int .i64), r⟩] := by
  refine pcall_intro Try.func106 rfl rfl (Nat.le_of_ble_eq_true rfl) ?_
  intro w0 Zi a w h
  rw [f106] at hF
  refine wp_reg_seq tok (orc := orcL []) (fz := []) (l := [0, 1]) (c := _) (.inr fun i h => h) h (by kernel_rfl) (AllP.nil) ?_
  intro a w h
  refine wp_reg_seq tok (orc := orcL []) (fz := []) (l := [1]) (c := _) (.inr fun i h => h) h (by kernel_rfl) (AllP.nil) ?_
  intro a w h
  refine wp_seq ?_
  refine wp_reg_seq tok (orc := orcL []) (fz := []) (l := [1, 10]) (c := _) (.inr fun i h => h) h (by kernel_rfl) (AllP.nil) ?_
  intro a w h
  refine wp_if h (b := (decide (((IntKind.i64.wrap (x1 - (List.length x0 : Int))) : Int) < (0 : Int)))) (by kernel_rfl) (fun hb => ?_) (fun hb => ?_)
  · replace hF := of_t hb hF
    refine wp_reg_seq tok (orc := orcL []) (fz := []) (l := [4]) (c := _) (.inr fun i h => h) h (by kernel_rfl) (AllP.nil) ?_
    intro a w h
    cases hF
    exact wp_ret (ret_okR tok h rfl (by kernel_rfl)).1
  · replace hF := of_f hb hF
    refine wp_skip ?_
    refine wp_reg_seq tok (orc := orcL []) (fz := []) (l := [4]) (c := _) (.inr fun i h => h) h (by kernel_rfl) (AllP.nil) ?_
    intro a w h
    cases hF
    exact wp_ret (ret_okR tok h rfl (by kernel_rfl)).1

def f197 (k : Nat) (x0 : (Int × ((List Int) × (List (ByteArray × ByteArray))))) (x1 : Int) : Option Int := (f106 k x0.2.1 x1).bind fun r1 => (if (decide ((r1 : Int) < (0 : Int))) then (some (-1 : Int)) else ((f239 k x0.2.2 r1).bind fun r2 => (if (decide ((r2 : Int) < (0 : Int))) then (some (-1 : Int)) else (some r2))))
set_option maxRecDepth 100000 in
/-- 'laws.szWay'. -/
theorem c197 (k : Nat) (x0 : (Int × ((List Int) × (List (ByteArray × ByteArray))))) (x1 : Int) (r : Int) (hF : f197 k x0 x1 = some r) : PCall Try.prog 197 [⟨sh3, x0⟩, ⟨(.int .i64), x1⟩] [⟨(.int .i64), r⟩] := by
  refine pcall_intro Try.func197 rfl rfl (Nat.le_of_ble_eq_true rfl) ?_
  intro w0 Zi a w h
  rw [f197] at hF
  refine wp_reg_seq tok (orc := orcL []) (fz := []) (l := [1, 2]) (c := _) (.inr fun i h => h) h (by kernel_rfl) (AllP.nil) ?_
  intro a w h
  obtain ⟨r1, hr4, hF⟩ := of_bind hF
  refine wp_reg_seq tok (orc := orcL [(8, [⟨(.int .i64), r1⟩])]) (fz := []) (l := [1, 2]) (c := _) (.inr fun i h => h) h (by kernel_rfl) (AllP.cons (c106 k x0.2.1 x1 r1 hr4) AllP.nil) ?_
  intro a w h
  refine wp_seq ?_
  refine wp_reg_seq tok (orc := orcL []) (fz := []) (l := [1, 2, 10]) (c := _) (.inr fun i h => h) h (by kernel_rfl) (AllP.nil) ?_
  intro a w h
  refine wp_if h (b := (decide ((r1 : Int) < (0 : Int)))) (by kernel_rfl) (fun hb => ?_) (fun hb => ?_)
  · replace hF := of_t hb hF
    refine wp_reg_seq tok (orc := orcL []) (fz := []) (l := [4]) (c := _) (.inr fun i h => h) h (by kernel_rfl) (AllP.nil) ?_
    intro a w h
    cases hF
    exact wp_ret (ret_okR tok h rfl (by kernel_rfl)).1
  · replace hF := of_f hb hF
    refine wp_skip ?_
    obtain ⟨r2, hr3, hF⟩ := of_bind hF
    refine wp_reg_seq tok (orc := orcL [(14, [⟨(.int .i64), r2⟩])]) (fz := []) (l := [1]) (c := _) (.inr fun i h => h) h (by kernel_rfl) (AllP.cons (c239 k x0.2.2 r1 r2 hr3) AllP.nil) ?_
    intro a w h
    refine wp_seq ?_
    refine wp_reg_seq tok (orc := orcL []) (fz := []) (l := [1, 16]) (c := _) (.inr fun i h => h) h (by kernel_rfl) (AllP.nil) ?_
    intro a w h
    refine wp_if h (b := (decide ((r2 : Int) < (0 : Int)))) (by kernel_rfl) (fun hb => ?_) (fun hb => ?_)
    · replace hF := of_t hb hF
      refine wp_reg_seq tok (orc := orcL []) (fz := []) (l := [4]) (c := _) (.inr fun i h => h) h (by kernel_rfl) (AllP.nil) ?_
      intro a w h
      cases hF
      exact wp_ret (ret_okR tok h rfl (by kernel_rfl)).1
    · replace hF := of_f hb hF
      refine wp_skip ?_
      refine wp_reg_seq tok (orc := orcL []) (fz := []) (l := [4]) (c := _) (.inr fun i h => h) h (by kernel_rfl) (AllP.nil) ?_
      intro a w h
      cases hF
      exact wp_ret (ret_okR tok h rfl (by kernel_rfl)).1

def f134.l28 (k : Nat) (x0 : (List (Int × ((List Int) × (List (ByteArray × ByteArray)))))) : Nat → (Int × Int) → Option Int
  | 0, _ => none
  | m28 + 1, (v47, v48) => if (decide ((v48 : Int) < (List.length x0 : Int))) then (if (0 ≤ v48 ∧ v48 < (List.length x0 : Int)) then ((f197 k (List.getD x0 (Int.toNat v48) ((0 : Int), (([] : (List Int)), ([] : (List (ByteArray × ByteArray)))))) v47).bind fun r52 => (if (decide ((r52 : Int) < (0 : Int))) then (some (-1 : Int)) else ((f134.l28 k x0) m28 (r52, (IntKind.i64.wrap (v48 + (1 : Int))))))) else none) else (some v47)
def f134 (k : Nat) (x0 : (List (Int × ((List Int) × (List (ByteArray × ByteArray)))))) (x1 : Int) : Option Int := if (decide (((IntKind.i64.wrap (x1 - (List.length x0 : Int))) : Int) < (0 : Int))) then (some (-1 : Int)) else (f134.l28 k x0 k ((IntKind.i64.wrap (x1 - (List.length x0 : Int))), (0 : Int)))
set_option maxRecDepth 100000 in
/-- 'laws.szWayS'. -/
theorem c134 (k : Nat) (x0 : (List (Int × ((List Int) × (List (ByteArray × ByteArray)))))) (x1 : Int) (r : Int) (hF : f134 k x0 x1 = some r) : PCall Try.prog 134 [⟨sh4, x0⟩, ⟨(.int .i64), x1⟩] [⟨(.int .i64), r⟩] := by
  refine pcall_intro Try.func134 rfl rfl (Nat.le_of_ble_eq_true rfl) ?_
  intro w0 Zi a w h
  rw [f134] at hF
  refine wp_reg_seq tok (orc := orcL []) (fz := []) (l := [0, 1]) (c := _) (.inr fun i h => h) h (by kernel_rfl) (AllP.nil) ?_
  intro a w h
  refine wp_reg_seq tok (orc := orcL []) (fz := []) (l := [0, 1]) (c := _) (.inr fun i h => h) h (by kernel_rfl) (AllP.nil) ?_
  intro a w h
  refine wp_seq ?_
  refine wp_reg_seq tok (orc := orcL []) (fz := []) (l := [0, 1, 11]) (c := _) (.inr fun i h => h) h (by kernel_rfl) (AllP.nil) ?_
  intro a w h
  refine wp_if h (b := (decide (((IntKind.i64.wrap (x1 - (List.length x0 : Int))) : Int) < (0 : Int)))) (by kernel_rfl) (fun hb => ?_) (fun hb => ?_)
  · replace hF := of_t hb hF
    refine wp_reg_seq tok (orc := orcL []) (fz := []) (l := [4]) (c := _) (.inr fun i h => h) h (by kernel_rfl) (AllP.nil) ?_
    intro a w h
    cases hF
    exact wp_ret (ret_okR tok h rfl (by kernel_rfl)).1
  · replace hF := of_f hb hF
    refine wp_skip ?_
    refine wp_seq ?_
    refine wp_reg_seq tok (orc := orcL []) (fz := []) (l := [0, 1, 5]) (c := _) (.inr fun i h => h) h (by kernel_rfl) (AllP.nil) ?_
    intro a w h
    refine wp_block ?_
    refine wp_loop_fuel (f134.l28 k x0) (fun ((v47, v48) : (Int × Int)) => [(0, .val sh4 x0), (1, .val (.int .i64) v47), (5, .val (.int .i64) v48)]) (fun v h => by obtain ⟨v47, v48⟩ := v; rw [f134.l28] at h; cases h) ?_ hF (h.arrive (fz := []) (l := [0, 1, 5]) (.inr fun i h => h) (by kernel_rfl))
    intro m28 v a w hF h
    obtain ⟨v47, v48⟩ := v
    rw [f134.l28] at hF
    refine wp_seq ?_
    refine wp_reg_seq tok (orc := orcL []) (fz := []) (l := [0, 1, 5, 15]) (c := _) (.inr fun i h => h) h (by kernel_rfl) (AllP.nil) ?_
    intro a w h
    refine wp_if h (b := (decide ((v48 : Int) < (List.length x0 : Int)))) (by kernel_rfl) (fun hb => ?_) (fun hb => ?_)
    · replace hF := of_t hb hF
      refine wp_skip ?_
      refine wp_seq <| wp_block ?_
      obtain ⟨hc53, hF⟩ := of_if hF
      obtain ⟨r52, hr54, hF⟩ := of_bind hF
      refine wp_reg_seq tok (orc := orcL [(23, [⟨(.int .i64), r52⟩])]) (fz := []) (l := [0, 1, 5]) (c := _) (.inr fun i h => h) h (by kernel_rfl) (AllP.cons hc53 (AllP.cons (c197 k (List.getD x0 (Int.toNat v48) ((0 : Int), (([] : (List Int)), ([] : (List (ByteArray × ByteArray)))))) v47 r52 hr54) AllP.nil)) ?_
      intro a w h
      refine wp_reg_seq tok (orc := orcL []) (fz := []) (l := [0, 1, 5, 25]) (c := _) (.inr fun i h => h) h (by kernel_rfl) (AllP.nil) ?_
      intro a w h
      refine wp_if h (b := (decide ((r52 : Int) < (0 : Int)))) (by kernel_rfl) (fun hb => ?_) (fun hb => ?_)
      · replace hF := of_t hb hF
        refine wp_reg_seq tok (orc := orcL []) (fz := []) (l := [4]) (c := _) (.inr fun i h => h) h (by kernel_rfl) (AllP.nil) ?_
        intro a w h
        cases hF
        exact wp_ret (ret_okR tok h rfl (by kernel_rfl)).1
      · replace hF := of_f hb hF
        refine wp_skip ?_
        refine wp_reg tok (orc := orcL []) (fz := []) (l := [0, 1, 5]) (c := _) (.inr fun i h => h) h (by kernel_rfl) (AllP.nil) ?_
        intro a w h
        exact ⟨(r52, (IntKind.i64.wrap (v48 + (1 : Int)))), hF, h.arrive (fz := []) (l := [0, 1, 5]) (.inr fun i h => h) (by kernel_rfl)⟩
    · replace hF := of_f hb hF
      refine wp_exit ?_
      refine wp_reg_seq tok (orc := orcL []) (fz := []) (l := [4]) (c := _) (.inr fun i h => h) h (by kernel_rfl) (AllP.nil) ?_
      intro a w h
      cases hF
      exact wp_ret (ret_okR tok h rfl (by kernel_rfl)).1

def f240 (k : Nat) (x0 : (List (Int × Bool))) (x1 : Int) : Option Int := if (decide (((IntKind.i64.wrap (x1 - (List.length x0 : Int))) : Int) < (0 : Int))) then (some (-1 : Int)) else (some (IntKind.i64.wrap (x1 - (List.length x0 : Int))))
set_option maxRecDepth 100000 in
/-- 'laws.szPartS'. -/
theorem c240 (k : Nat) (x0 : (List (Int × Bool))) (x1 : Int) (r : Int) (hF : f240 k x0 x1 = some r) : PCall Try.prog 240 [⟨sh5, x0⟩, ⟨(.int .i64), x1⟩] [⟨(.int .i64), r⟩] := by
  refine pcall_intro Try.func240 rfl rfl (Nat.le_of_ble_eq_true rfl) ?_
  intro w0 Zi a w h
  rw [f240] at hF
  refine wp_reg_seq tok (orc := orcL []) (fz := []) (l := [0, 1]) (c := _) (.inr fun i h => h) h (by kernel_rfl) (AllP.nil) ?_
  intro a w h
  refine wp_reg_seq tok (orc := orcL []) (fz := []) (l := [1]) (c := _) (.inr fun i h => h) h (by kernel_rfl) (AllP.nil) ?_
  intro a w h
  refine wp_seq ?_
  refine wp_reg_seq tok (orc := orcL []) (fz := []) (l := [1, 10]) (c := _) (.inr fun i h => h) h (by kernel_rfl) (AllP.nil) ?_
  intro a w h
  refine wp_if h (b := (decide (((IntKind.i64.wrap (x1 - (List.length x0 : Int))) : Int) < (0 : Int)))) (by kernel_rfl) (fun hb => ?_) (fun hb => ?_)
  · replace hF := of_t hb hF
    refine wp_reg_seq tok (orc := orcL []) (fz := []) (l := [4]) (c := _) (.inr fun i h => h) h (by kernel_rfl) (AllP.nil) ?_
    intro a w h
    cases hF
    exact wp_ret (ret_okR tok h rfl (by kernel_rfl)).1
  · replace hF := of_f hb hF
    refine wp_skip ?_
    refine wp_reg_seq tok (orc := orcL []) (fz := []) (l := [4]) (c := _) (.inr fun i h => h) h (by kernel_rfl) (AllP.nil) ?_
    intro a w h
    cases hF
    exact wp_ret (ret_okR tok h rfl (by kernel_rfl)).1

def f198 (k : Nat) (x0 : (Int × ((List (Int × Bool)) × (List (ByteArray × ByteArray))))) (x1 : Int) : Option Int := (f240 k x0.2.1 x1).bind fun r1 => (if (decide ((r1 : Int) < (0 : Int))) then (some (-1 : Int)) else ((f239 k x0.2.2 r1).bind fun r2 => (if (decide ((r2 : Int) < (0 : Int))) then (some (-1 : Int)) else (some r2))))
set_option maxRecDepth 100000 in
/-- 'laws.szArea'. -/
theorem c198 (k : Nat) (x0 : (Int × ((List (Int × Bool)) × (List (ByteArray × ByteArray))))) (x1 : Int) (r : Int) (hF : f198 k x0 x1 = some r) : PCall Try.prog 198 [⟨sh6, x0⟩, ⟨(.int .i64), x1⟩] [⟨(.int .i64), r⟩] := by
  refine pcall_intro Try.func198 rfl rfl (Nat.le_of_ble_eq_true rfl) ?_
  intro w0 Zi a w h
  rw [f198] at hF
  refine wp_reg_seq tok (orc := orcL []) (fz := []) (l := [1, 2]) (c := _) (.inr fun i h => h) h (by kernel_rfl) (AllP.nil) ?_
  intro a w h
  obtain ⟨r1, hr4, hF⟩ := of_bind hF
  refine wp_reg_seq tok (orc := orcL [(8, [⟨(.int .i64), r1⟩])]) (fz := []) (l := [1, 2]) (c := _) (.inr fun i h => h) h (by kernel_rfl) (AllP.cons (c240 k x0.2.1 x1 r1 hr4) AllP.nil) ?_
  intro a w h
  refine wp_seq ?_
  refine wp_reg_seq tok (orc := orcL []) (fz := []) (l := [1, 2, 10]) (c := _) (.inr fun i h => h) h (by kernel_rfl) (AllP.nil) ?_
  intro a w h
  refine wp_if h (b := (decide ((r1 : Int) < (0 : Int)))) (by kernel_rfl) (fun hb => ?_) (fun hb => ?_)
  · replace hF := of_t hb hF
    refine wp_reg_seq tok (orc := orcL []) (fz := []) (l := [4]) (c := _) (.inr fun i h => h) h (by kernel_rfl) (AllP.nil) ?_
    intro a w h
    cases hF
    exact wp_ret (ret_okR tok h rfl (by kernel_rfl)).1
  · replace hF := of_f hb hF
    refine wp_skip ?_
    obtain ⟨r2, hr3, hF⟩ := of_bind hF
    refine wp_reg_seq tok (orc := orcL [(14, [⟨(.int .i64), r2⟩])]) (fz := []) (l := [1]) (c := _) (.inr fun i h => h) h (by kernel_rfl) (AllP.cons (c239 k x0.2.2 r1 r2 hr3) AllP.nil) ?_
    intro a w h
    refine wp_seq ?_
    refine wp_reg_seq tok (orc := orcL []) (fz := []) (l := [1, 16]) (c := _) (.inr fun i h => h) h (by kernel_rfl) (AllP.nil) ?_
    intro a w h
    refine wp_if h (b := (decide ((r2 : Int) < (0 : Int)))) (by kernel_rfl) (fun hb => ?_) (fun hb => ?_)
    · replace hF := of_t hb hF
      refine wp_reg_seq tok (orc := orcL []) (fz := []) (l := [4]) (c := _) (.inr fun i h => h) h (by kernel_rfl) (AllP.nil) ?_
      intro a w h
      cases hF
      exact wp_ret (ret_okR tok h rfl (by kernel_rfl)).1
    · replace hF := of_f hb hF
      refine wp_skip ?_
      refine wp_reg_seq tok (orc := orcL []) (fz := []) (l := [4]) (c := _) (.inr fun i h => h) h (by kernel_rfl) (AllP.nil) ?_
      intro a w h
      cases hF
      exact wp_ret (ret_okR tok h rfl (by kernel_rfl)).1

def f135.l28 (k : Nat) (x0 : (List (Int × ((List (Int × Bool)) × (List (ByteArray × ByteArray)))))) : Nat → (Int × Int) → Option Int
  | 0, _ => none
  | m28 + 1, (v47, v48) => if (decide ((v48 : Int) < (List.length x0 : Int))) then (if (0 ≤ v48 ∧ v48 < (List.length x0 : Int)) then ((f198 k (List.getD x0 (Int.toNat v48) ((0 : Int), (([] : (List (Int × Bool))), ([] : (List (ByteArray × ByteArray)))))) v47).bind fun r52 => (if (decide ((r52 : Int) < (0 : Int))) then (some (-1 : Int)) else ((f135.l28 k x0) m28 (r52, (IntKind.i64.wrap (v48 + (1 : Int))))))) else none) else (some v47)
def f135 (k : Nat) (x0 : (List (Int × ((List (Int × Bool)) × (List (ByteArray × ByteArray)))))) (x1 : Int) : Option Int := if (decide (((IntKind.i64.wrap (x1 - (List.length x0 : Int))) : Int) < (0 : Int))) then (some (-1 : Int)) else (f135.l28 k x0 k ((IntKind.i64.wrap (x1 - (List.length x0 : Int))), (0 : Int)))
set_option maxRecDepth 100000 in
/-- 'laws.szAreaS'. -/
theorem c135 (k : Nat) (x0 : (List (Int × ((List (Int × Bool)) × (List (ByteArray × ByteArray)))))) (x1 : Int) (r : Int) (hF : f135 k x0 x1 = some r) : PCall Try.prog 135 [⟨sh7, x0⟩, ⟨(.int .i64), x1⟩] [⟨(.int .i64), r⟩] := by
  refine pcall_intro Try.func135 rfl rfl (Nat.le_of_ble_eq_true rfl) ?_
  intro w0 Zi a w h
  rw [f135] at hF
  refine wp_reg_seq tok (orc := orcL []) (fz := []) (l := [0, 1]) (c := _) (.inr fun i h => h) h (by kernel_rfl) (AllP.nil) ?_
  intro a w h
  refine wp_reg_seq tok (orc := orcL []) (fz := []) (l := [0, 1]) (c := _) (.inr fun i h => h) h (by kernel_rfl) (AllP.nil) ?_
  intro a w h
  refine wp_seq ?_
  refine wp_reg_seq tok (orc := orcL []) (fz := []) (l := [0, 1, 11]) (c := _) (.inr fun i h => h) h (by kernel_rfl) (AllP.nil) ?_
  intro a w h
  refine wp_if h (b := (decide (((IntKind.i64.wrap (x1 - (List.length x0 : Int))) : Int) < (0 : Int)))) (by kernel_rfl) (fun hb => ?_) (fun hb => ?_)
  · replace hF := of_t hb hF
    refine wp_reg_seq tok (orc := orcL []) (fz := []) (l := [4]) (c := _) (.inr fun i h => h) h (by kernel_rfl) (AllP.nil) ?_
    intro a w h
    cases hF
    exact wp_ret (ret_okR tok h rfl (by kernel_rfl)).1
  · replace hF := of_f hb hF
    refine wp_skip ?_
    refine wp_seq ?_
    refine wp_reg_seq tok (orc := orcL []) (fz := []) (l := [0, 1, 5]) (c := _) (.inr fun i h => h) h (by kernel_rfl) (AllP.nil) ?_
    intro a w h
    refine wp_block ?_
    refine wp_loop_fuel (f135.l28 k x0) (fun ((v47, v48) : (Int × Int)) => [(0, .val sh7 x0), (1, .val (.int .i64) v47), (5, .val (.int .i64) v48)]) (fun v h => by obtain ⟨v47, v48⟩ := v; rw [f135.l28] at h; cases h) ?_ hF (h.arrive (fz := []) (l := [0, 1, 5]) (.inr fun i h => h) (by kernel_rfl))
    intro m28 v a w hF h
    obtain ⟨v47, v48⟩ := v
    rw [f135.l28] at hF
    refine wp_seq ?_
    refine wp_reg_seq tok (orc := orcL []) (fz := []) (l := [0, 1, 5, 15]) (c := _) (.inr fun i h => h) h (by kernel_rfl) (AllP.nil) ?_
    intro a w h
    refine wp_if h (b := (decide ((v48 : Int) < (List.length x0 : Int)))) (by kernel_rfl) (fun hb => ?_) (fun hb => ?_)
    · replace hF := of_t hb hF
      refine wp_skip ?_
      refine wp_seq <| wp_block ?_
      obtain ⟨hc53, hF⟩ := of_if hF
      obtain ⟨r52, hr54, hF⟩ := of_bind hF
      refine wp_reg_seq tok (orc := orcL [(23, [⟨(.int .i64), r52⟩])]) (fz := []) (l := [0, 1, 5]) (c := _) (.inr fun i h => h) h (by kernel_rfl) (AllP.cons hc53 (AllP.cons (c198 k (List.getD x0 (Int.toNat v48) ((0 : Int), (([] : (List (Int × Bool))), ([] : (List (ByteArray × ByteArray)))))) v47 r52 hr54) AllP.nil)) ?_
      intro a w h
      refine wp_reg_seq tok (orc := orcL []) (fz := []) (l := [0, 1, 5, 25]) (c := _) (.inr fun i h => h) h (by kernel_rfl) (AllP.nil) ?_
      intro a w h
      refine wp_if h (b := (decide ((r52 : Int) < (0 : Int)))) (by kernel_rfl) (fun hb => ?_) (fun hb => ?_)
      · replace hF := of_t hb hF
        refine wp_reg_seq tok (orc := orcL []) (fz := []) (l := [4]) (c := _) (.inr fun i h => h) h (by kernel_rfl) (AllP.nil) ?_
        intro a w h
        cases hF
        exact wp_ret (ret_okR tok h rfl (by kernel_rfl)).1
      · replace hF := of_f hb hF
        refine wp_skip ?_
        refine wp_reg tok (orc := orcL []) (fz := []) (l := [0, 1, 5]) (c := _) (.inr fun i h => h) h (by kernel_rfl) (AllP.nil) ?_
        intro a w h
        exact ⟨(r52, (IntKind.i64.wrap (v48 + (1 : Int)))), hF, h.arrive (fz := []) (l := [0, 1, 5]) (.inr fun i h => h) (by kernel_rfl)⟩
    · replace hF := of_f hb hF
      refine wp_exit ?_
      refine wp_reg_seq tok (orc := orcL []) (fz := []) (l := [4]) (c := _) (.inr fun i h => h) h (by kernel_rfl) (AllP.nil) ?_
      intro a w h
      cases hF
      exact wp_ret (ret_okR tok h rfl (by kernel_rfl)).1

def f61 (k : Nat) (x0 : ((List (Int × ((Int × Int) × (List (ByteArray × ByteArray))))) × ((List (Int × ((List Int) × (List (ByteArray × ByteArray))))) × (List (Int × ((List (Int × Bool)) × (List (ByteArray × ByteArray)))))))) (x1 : Int) : Option Int := (f133 k x0.1 x1).bind fun r1 => (if (decide ((r1 : Int) < (0 : Int))) then (some (-1 : Int)) else ((f134 k x0.2.1 r1).bind fun r2 => (if (decide ((r2 : Int) < (0 : Int))) then (some (-1 : Int)) else ((f135 k x0.2.2 r2).bind fun r3 => (if (decide ((r3 : Int) < (0 : Int))) then (some (-1 : Int)) else (some r3))))))
set_option maxRecDepth 100000 in
/-- 'laws.szMap'. -/
theorem c61 (k : Nat) (x0 : ((List (Int × ((Int × Int) × (List (ByteArray × ByteArray))))) × ((List (Int × ((List Int) × (List (ByteArray × ByteArray))))) × (List (Int × ((List (Int × Bool)) × (List (ByteArray × ByteArray)))))))) (x1 : Int) (r : Int) (hF : f61 k x0 x1 = some r) : PCall Try.prog 61 [⟨sh8, x0⟩, ⟨(.int .i64), x1⟩] [⟨(.int .i64), r⟩] := by
  refine pcall_intro Try.func61 rfl rfl (Nat.le_of_ble_eq_true rfl) ?_
  intro w0 Zi a w h
  rw [f61] at hF
  refine wp_reg_seq tok (orc := orcL []) (fz := []) (l := [1, 2]) (c := _) (.inr fun i h => h) h (by kernel_rfl) (AllP.nil) ?_
  intro a w h
  obtain ⟨r1, hr6, hF⟩ := of_bind hF
  refine wp_reg_seq tok (orc := orcL [(8, [⟨(.int .i64), r1⟩])]) (fz := []) (l := [1, 2]) (c := _) (.inr fun i h => h) h (by kernel_rfl) (AllP.cons (c133 k x0.1 x1 r1 hr6) AllP.nil) ?_
  intro a w h
  refine wp_seq ?_
  refine wp_reg_seq tok (orc := orcL []) (fz := []) (l := [1, 2, 10]) (c := _) (.inr fun i h => h) h (by kernel_rfl) (AllP.nil) ?_
  intro a w h
  refine wp_if h (b := (decide ((r1 : Int) < (0 : Int)))) (by kernel_rfl) (fun hb => ?_) (fun hb => ?_)
  · replace hF := of_t hb hF
    refine wp_reg_seq tok (orc := orcL []) (fz := []) (l := [4]) (c := _) (.inr fun i h => h) h (by kernel_rfl) (AllP.nil) ?_
    intro a w h
    cases hF
    exact wp_ret (ret_okR tok h rfl (by kernel_rfl)).1
  · replace hF := of_f hb hF
    refine wp_skip ?_
    obtain ⟨r2, hr5, hF⟩ := of_bind hF
    refine wp_reg_seq tok (orc := orcL [(14, [⟨(.int .i64), r2⟩])]) (fz := []) (l := [1, 2]) (c := _) (.inr fun i h => h) h (by kernel_rfl) (AllP.cons (c134 k x0.2.1 r1 r2 hr5) AllP.nil) ?_
    intro a w h
    refine wp_seq ?_
    refine wp_reg_seq tok (orc := orcL []) (fz := []) (l := [1, 2, 16]) (c := _) (.inr fun i h => h) h (by kernel_rfl) (AllP.nil) ?_
    intro a w h
    refine wp_if h (b := (decide ((r2 : Int) < (0 : Int)))) (by kernel_rfl) (fun hb => ?_) (fun hb => ?_)
    · replace hF := of_t hb hF
      refine wp_reg_seq tok (orc := orcL []) (fz := []) (l := [4]) (c := _) (.inr fun i h => h) h (by kernel_rfl) (AllP.nil) ?_
      intro a w h
      cases hF
      exact wp_ret (ret_okR tok h rfl (by kernel_rfl)).1
    · replace hF := of_f hb hF
      refine wp_skip ?_
      obtain ⟨r3, hr4, hF⟩ := of_bind hF
      refine wp_reg_seq tok (orc := orcL [(20, [⟨(.int .i64), r3⟩])]) (fz := []) (l := [1]) (c := _) (.inr fun i h => h) h (by kernel_rfl) (AllP.cons (c135 k x0.2.2 r2 r3 hr4) AllP.nil) ?_
      intro a w h
      refine wp_seq ?_
      refine wp_reg_seq tok (orc := orcL []) (fz := []) (l := [1, 22]) (c := _) (.inr fun i h => h) h (by kernel_rfl) (AllP.nil) ?_
      intro a w h
      refine wp_if h (b := (decide ((r3 : Int) < (0 : Int)))) (by kernel_rfl) (fun hb => ?_) (fun hb => ?_)
      · replace hF := of_t hb hF
        refine wp_reg_seq tok (orc := orcL []) (fz := []) (l := [4]) (c := _) (.inr fun i h => h) h (by kernel_rfl) (AllP.nil) ?_
        intro a w h
        cases hF
        exact wp_ret (ret_okR tok h rfl (by kernel_rfl)).1
      · replace hF := of_f hb hF
        refine wp_skip ?_
        refine wp_reg_seq tok (orc := orcL []) (fz := []) (l := [4]) (c := _) (.inr fun i h => h) h (by kernel_rfl) (AllP.nil) ?_
        intro a w h
        cases hF
        exact wp_ret (ret_okR tok h rfl (by kernel_rfl)).1

def f220 (k : Nat) (x0 : (Int × Int)) : Option (Int × Int) := some (x0.1, x0.2)
set_option maxRecDepth 100000 in
/-- 'laws.toPoint'. -/
theorem c220 (k : Nat) (x0 : (Int × Int)) (r : (Int × Int)) (hF : f220 k x0 = some r) : PCall Try.prog 220 [⟨sh9, x0⟩] [⟨sh9, r⟩] := by
  refine pcall_intro Try.func220 rfl rfl (Nat.le_of_ble_eq_true rfl) ?_
  intro w0 Zi a w h
  rw [f220] at hF
  refine wp_reg_seq tok (orc := orcL []) (fz := []) (l := [1, 2]) (c := _) (.inr fun i h => h) h (by kernel_rfl) (AllP.nil) ?_
  intro a w h
  refine wp_reg_seq tok (orc := orcL []) (fz := []) (l := [1, 2, 3]) (c := _) (.inr fun i h => h) h (by kernel_rfl) (AllP.nil) ?_
  intro a w h
  refine wp_reg_seq tok (orc := orcL []) (fz := []) (l := [1, 2, 3]) (c := _) (.inr fun i h => h) h (by kernel_rfl) (AllP.nil) ?_
  intro a w h
  refine wp_reg_seq tok (orc := orcL []) (fz := []) (l := [2, 3]) (c := _) (.inr fun i h => h) h (by kernel_rfl) (AllP.nil) ?_
  intro a w h
  refine wp_reg_seq tok (orc := orcL []) (fz := []) (l := [2]) (c := _) (.inr fun i h => h) h (by kernel_rfl) (AllP.nil) ?_
  intro a w h
  cases hF
  exact wp_ret (ret_okR tok h rfl (by kernel_rfl)).1

def f264 (k : Nat) (x0 : (ByteArray × ByteArray)) : Option (ByteArray × ByteArray) := some (x0.1, x0.2)
set_option maxRecDepth 100000 in
/-- 'laws.toTag'. -/
theorem c264 (k : Nat) (x0 : (ByteArray × ByteArray)) (r : (ByteArray × ByteArray)) (hF : f264 k x0 = some r) : PCall Try.prog 264 [⟨(.st (.pair .str .str)), x0⟩] [⟨(.st (.pair .str .str)), r⟩] := by
  refine pcall_intro Try.func264 rfl rfl (Nat.le_of_ble_eq_true rfl) ?_
  intro w0 Zi a w h
  rw [f264] at hF
  refine wp_reg_seq tok (orc := orcL []) (fz := []) (l := [1, 2]) (c := _) (.inr fun i h => h) h (by kernel_rfl) (AllP.nil) ?_
  intro a w h
  refine wp_reg_seq tok (orc := orcL []) (fz := []) (l := [1, 2, 3]) (c := _) (.inr fun i h => h) h (by kernel_rfl) (AllP.nil) ?_
  intro a w h
  refine wp_reg_seq tok (orc := orcL []) (fz := []) (l := [1, 2, 3]) (c := _) (.inr fun i h => h) h (by kernel_rfl) (AllP.nil) ?_
  intro a w h
  refine wp_reg_seq tok (orc := orcL []) (fz := []) (l := [2, 3]) (c := _) (.inr fun i h => h) h (by kernel_rfl) (AllP.nil) ?_
  intro a w h
  refine wp_reg_seq tok (orc := orcL []) (fz := []) (l := [2]) (c := _) (.inr fun i h => h) h (by kernel_rfl) (AllP.nil) ?_
  intro a w h
  cases hF
  exact wp_ret (ret_okR tok h rfl (by kernel_rfl)).1

def f244.l34 (k : Nat) (x0 : (List (ByteArray × ByteArray))) : Nat → ((List (ByteArray × ByteArray)) × Int) → Option (List (ByteArray × ByteArray))
  | 0, _ => none
  | m34 + 1, (v57, v58) => if (decide ((v58 : Int) < (List.length x0 : Int))) then (if (0 ≤ v58 ∧ v58 < (List.length x0 : Int)) then ((f264 k (List.getD x0 (Int.toNat v58) ((⟨#[]⟩ : ByteArray), (⟨#[]⟩ : ByteArray)))).bind fun r63 => (if (0 ≤ v58 ∧ v58 < (List.length v57 : Int)) then ((f244.l34 k x0) m34 ((List.set v57 (Int.toNat v58) r63), (IntKind.i64.wrap (v58 + (1 : Int))))) else none)) else none) else (some v57)
def f244 (k : Nat) (x0 : (List (ByteArray × ByteArray))) : Option (List (ByteArray × ByteArray)) := if (0 ≤ (List.length x0 : Int) ∧ Int.toNat (List.length x0 : Int) * 32 ≤ 140737488355328) then (f244.l34 k x0 k ((List.replicate (Int.toNat (List.length x0 : Int)) ((⟨#[]⟩ : ByteArray), (⟨#[]⟩ : ByteArray))), (0 : Int))) else none
set_option maxRecDepth 100000 in
/-- 'laws.toTagS'. -/
theorem c244 (k : Nat) (x0 : (List (ByteArray × ByteArray))) (r : (List (ByteArray × ByteArray))) (hF : f244 k x0 = some r) : PCall Try.prog 244 [⟨sh0, x0⟩] [⟨sh10, r⟩] := by
  refine pcall_intro Try.func244 rfl rfl (Nat.le_of_ble_eq_true rfl) ?_
  intro w0 Zi a w h
  rw [f244] at hF
  refine wp_reg_seq tok (orc := orcL []) (fz := []) (l := [0]) (c := _) (.inr fun i h => h) h (by kernel_rfl) (AllP.nil) ?_
  intro a w h
  obtain ⟨hc67, hF⟩ := of_if hF
  refine wp_reg_seq tok (orc := orcL []) (fz := []) (l := [0, 3]) (c := _) (.inr fun i h => h) h (by kernel_rfl) (AllP.cons hc67 AllP.nil) ?_
  intro a w h
  refine wp_seq ?_
  refine wp_reg_seq tok (orc := orcL []) (fz := []) (l := [0, 3, 4]) (c := _) (.inr fun i h => h) h (by kernel_rfl) (AllP.nil) ?_
  intro a w h
  refine wp_block ?_
  refine wp_loop_fuel (f244.l34 k x0) (fun ((v57, v58) : ((List (ByteArray × ByteArray)) × Int)) => [(0, .val sh0 x0), (3, .val sh10 v57), (4, .val (.int .i64) v58)]) (fun v h => by obtain ⟨v57, v58⟩ := v; rw [f244.l34] at h; cases h) ?_ hF (h.arrive (fz := []) (l := [0, 3, 4]) (.inr fun i h => h) (by kernel_rfl))
  intro m34 v a w hF h
  obtain ⟨v57, v58⟩ := v
  rw [f244.l34] at hF
  refine wp_seq ?_
  refine wp_reg_seq tok (orc := orcL []) (fz := []) (l := [0, 3, 4, 11]) (c := _) (.inr fun i h => h) h (by kernel_rfl) (AllP.nil) ?_
  intro a w h
  refine wp_if h (b := (decide ((v58 : Int) < (List.length x0 : Int)))) (by kernel_rfl) (fun hb => ?_) (fun hb => ?_)
  · replace hF := of_t hb hF
    refine wp_skip ?_
    refine wp_seq <| wp_block ?_
    obtain ⟨hc64, hF⟩ := of_if hF
    obtain ⟨r63, hr65, hF⟩ := of_bind hF
    obtain ⟨hc66, hF⟩ := of_if hF
    refine wp_reg tok (orc := orcL [(20, [⟨(.st (.pair .str .str)), r63⟩])]) (fz := []) (l := [0, 3, 4]) (c := _) (.inr fun i h => h) h (by kernel_rfl) (AllP.cons hc64 (AllP.cons (c264 k (List.getD x0 (Int.toNat v58) ((⟨#[]⟩ : ByteArray), (⟨#[]⟩ : ByteArray))) r63 hr65) (AllP.cons hc66 AllP.nil))) ?_
    intro a w h
    refine wp_reg tok (orc := orcL []) (fz := []) (l := [0, 3, 4]) (c := _) (.inr fun i h => h) h (by kernel_rfl) (AllP.nil) ?_
    intro a w h
    exact ⟨((List.set v57 (Int.toNat v58) r63), (IntKind.i64.wrap (v58 + (1 : Int)))), hF, h.arrive (fz := []) (l := [0, 3, 4]) (.inr fun i h => h) (by kernel_rfl)⟩
  · replace hF := of_f hb hF
    refine wp_exit ?_
    refine wp_reg_seq tok (orc := orcL []) (fz := []) (l := [2, 3]) (c := _) (.inr fun i h => h) h (by kernel_rfl) (AllP.nil) ?_
    intro a w h
    cases hF
    exact wp_ret (ret_okR tok h rfl (by kernel_rfl)).1

def f205 (k : Nat) (x0 : (Int × ((Int × Int) × (List (ByteArray × ByteArray))))) : Option (Int × ((Int × Int) × (List (ByteArray × ByteArray)))) := (f220 k x0.2.1).bind fun r1 => ((f244 k x0.2.2).bind fun r2 => (some (x0.1, (r1, r2))))
set_option maxRecDepth 100000 in
/-- 'laws.toNode'. -/
theorem c205 (k : Nat) (x0 : (Int × ((Int × Int) × (List (ByteArray × ByteArray))))) (r : (Int × ((Int × Int) × (List (ByteArray × ByteArray))))) (hF : f205 k x0 = some r) : PCall Try.prog 205 [⟨sh1, x0⟩] [⟨sh11, r⟩] := by
  refine pcall_intro Try.func205 rfl rfl (Nat.le_of_ble_eq_true rfl) ?_
  intro w0 Zi a w h
  rw [f205] at hF
  refine wp_reg_seq tok (orc := orcL []) (fz := []) (l := [1, 2]) (c := _) (.inr fun i h => h) h (by kernel_rfl) (AllP.nil) ?_
  intro a w h
  refine wp_reg_seq tok (orc := orcL []) (fz := []) (l := [1, 2, 3]) (c := _) (.inr fun i h => h) h (by kernel_rfl) (AllP.nil) ?_
  intro a w h
  refine wp_reg_seq tok (orc := orcL []) (fz := []) (l := [1, 2, 3]) (c := _) (.inr fun i h => h) h (by kernel_rfl) (AllP.nil) ?_
  intro a w h
  obtain ⟨r1, hr4, hF⟩ := of_bind hF
  refine wp_reg_seq tok (orc := orcL [(9, [⟨sh9, r1⟩])]) (fz := []) (l := [1, 2, 3]) (c := _) (.inr fun i h => h) h (by kernel_rfl) (AllP.cons (c220 k x0.2.1 r1 hr4) AllP.nil) ?_
  intro a w h
  obtain ⟨r2, hr3, hF⟩ := of_bind hF
  refine wp_reg_seq tok (orc := orcL [(13, [⟨sh10, r2⟩])]) (fz := []) (l := [2, 3]) (c := _) (.inr fun i h => h) h (by kernel_rfl) (AllP.cons (c244 k x0.2.2 r2 hr3) AllP.nil) ?_
  intro a w h
  refine wp_reg_seq tok (orc := orcL []) (fz := []) (l := [2]) (c := _) (.inr fun i h => h) h (by kernel_rfl) (AllP.nil) ?_
  intro a w h
  cases hF
  exact wp_ret (ret_okR tok h rfl (by kernel_rfl)).1

def f142.l34 (k : Nat) (x0 : (List (Int × ((Int × Int) × (List (ByteArray × ByteArray)))))) : Nat → ((List (Int × ((Int × Int) × (List (ByteArray × ByteArray))))) × Int) → Option (List (Int × ((Int × Int) × (List (ByteArray × ByteArray)))))
  | 0, _ => none
  | m34 + 1, (v57, v58) => if (decide ((v58 : Int) < (List.length x0 : Int))) then (if (0 ≤ v58 ∧ v58 < (List.length x0 : Int)) then ((f205 k (List.getD x0 (Int.toNat v58) ((0 : Int), (((0 : Int), (0 : Int)), ([] : (List (ByteArray × ByteArray))))))).bind fun r63 => (if (0 ≤ v58 ∧ v58 < (List.length v57 : Int)) then ((f142.l34 k x0) m34 ((List.set v57 (Int.toNat v58) r63), (IntKind.i64.wrap (v58 + (1 : Int))))) else none)) else none) else (some v57)
def f142 (k : Nat) (x0 : (List (Int × ((Int × Int) × (List (ByteArray × ByteArray)))))) : Option (List (Int × ((Int × Int) × (List (ByteArray × ByteArray))))) := if (0 ≤ (List.length x0 : Int) ∧ Int.toNat (List.length x0 : Int) * 48 ≤ 140737488355328) then (f142.l34 k x0 k ((List.replicate (Int.toNat (List.length x0 : Int)) ((0 : Int), (((0 : Int), (0 : Int)), ([] : (List (ByteArray × ByteArray)))))), (0 : Int))) else none
set_option maxRecDepth 100000 in
/-- 'laws.toNodeS'. -/
theorem c142 (k : Nat) (x0 : (List (Int × ((Int × Int) × (List (ByteArray × ByteArray)))))) (r : (List (Int × ((Int × Int) × (List (ByteArray × ByteArray)))))) (hF : f142 k x0 = some r) : PCall Try.prog 142 [⟨sh2, x0⟩] [⟨sh12, r⟩] := by
  refine pcall_intro Try.func142 rfl rfl (Nat.le_of_ble_eq_true rfl) ?_
  intro w0 Zi a w h
  rw [f142] at hF
  refine wp_reg_seq tok (orc := orcL []) (fz := []) (l := [0]) (c := _) (.inr fun i h => h) h (by kernel_rfl) (AllP.nil) ?_
  intro a w h
  obtain ⟨hc67, hF⟩ := of_if hF
  refine wp_reg_seq tok (orc := orcL []) (fz := []) (l := [0, 3]) (c := _) (.inr fun i h => h) h (by kernel_rfl) (AllP.cons hc67 AllP.nil) ?_
  intro a w h
  refine wp_seq ?_
  refine wp_reg_seq tok (orc := orcL []) (fz := []) (l := [0, 3, 4]) (c := _) (.inr fun i h => h) h (by kernel_rfl) (AllP.nil) ?_
  intro a w h
  refine wp_block ?_
  refine wp_loop_fuel (f142.l34 k x0) (fun ((v57, v58) : ((List (Int × ((Int × Int) × (List (ByteArray × ByteArray))))) × Int)) => [(0, .val sh2 x0), (3, .val sh12 v57), (4, .val (.int .i64) v58)]) (fun v h => by obtain ⟨v57, v58⟩ := v; rw [f142.l34] at h; cases h) ?_ hF (h.arrive (fz := []) (l := [0, 3, 4]) (.inr fun i h => h) (by kernel_rfl))
  intro m34 v a w hF h
  obtain ⟨v57, v58⟩ := v
  rw [f142.l34] at hF
  refine wp_seq ?_
  refine wp_reg_seq tok (orc := orcL []) (fz := []) (l := [0, 3, 4, 11]) (c := _) (.inr fun i h => h) h (by kernel_rfl) (AllP.nil) ?_
  intro a w h
  refine wp_if h (b := (decide ((v58 : Int) < (List.length x0 : Int)))) (by kernel_rfl) (fun hb => ?_) (fun hb => ?_)
  · replace hF := of_t hb hF
    refine wp_skip ?_
    refine wp_seq <| wp_block ?_
    obtain ⟨hc64, hF⟩ := of_if hF
    obtain ⟨r63, hr65, hF⟩ := of_bind hF
    obtain ⟨hc66, hF⟩ := of_if hF
    refine wp_reg tok (orc := orcL [(20, [⟨sh11, r63⟩])]) (fz := []) (l := [0, 3, 4]) (c := _) (.inr fun i h => h) h (by kernel_rfl) (AllP.cons hc64 (AllP.cons (c205 k (List.getD x0 (Int.toNat v58) ((0 : Int), (((0 : Int), (0 : Int)), ([] : (List (ByteArray × ByteArray)))))) r63 hr65) (AllP.cons hc66 AllP.nil))) ?_
    intro a w h
    refine wp_reg tok (orc := orcL []) (fz := []) (l := [0, 3, 4]) (c := _) (.inr fun i h => h) h (by kernel_rfl) (AllP.nil) ?_
    intro a w h
    exact ⟨((List.set v57 (Int.toNat v58) r63), (IntKind.i64.wrap (v58 + (1 : Int)))), hF, h.arrive (fz := []) (l := [0, 3, 4]) (.inr fun i h => h) (by kernel_rfl)⟩
  · replace hF := of_f hb hF
    refine wp_exit ?_
    refine wp_reg_seq tok (orc := orcL []) (fz := []) (l := [2, 3]) (c := _) (.inr fun i h => h) h (by kernel_rfl) (AllP.nil) ?_
    intro a w h
    cases hF
    exact wp_ret (ret_okR tok h rfl (by kernel_rfl)).1

def f17.l22 (k : Nat) (x0 : (List Int)) : Nat → ((List Int) × Int) → Option (List Int)
  | 0, _ => none
  | m22 + 1, (v37, v38) => if (decide ((v38 : Int) < (List.length x0 : Int))) then (if (0 ≤ v38 ∧ v38 < (List.length x0 : Int)) then (if (0 ≤ v38 ∧ v38 < (List.length v37 : Int)) then ((f17.l22 k x0) m22 ((List.set v37 (Int.toNat v38) (List.getD x0 (Int.toNat v38) (0 : Int))), (IntKind.i64.wrap (v38 + (1 : Int))))) else none) else none) else (some v37)
def f17 (k : Nat) (x0 : (List Int)) : Option (List Int) := if (0 ≤ (List.length x0 : Int) ∧ Int.toNat (List.length x0 : Int) * 8 ≤ 140737488355328) then (f17.l22 k x0 k ((List.replicate (Int.toNat (List.length x0 : Int)) (0 : Int)), (0 : Int))) else none
set_option maxRecDepth 100000 in
/-- 'laws.toInt64S'. -/
theorem c17 (k : Nat) (x0 : (List Int)) (r : (List Int)) (hF : f17 k x0 = some r) : PCall Try.prog 17 [⟨(.sl false 2 (.int .i64)), x0⟩] [⟨(.sl true 2 (.int .i64)), r⟩] := by
  refine pcall_intro Try.func17 rfl rfl (Nat.le_of_ble_eq_true rfl) ?_
  intro w0 Zi a w h
  rw [f17] at hF
  refine wp_reg_seq tok (orc := orcL []) (fz := []) (l := [0]) (c := _) (.inr fun i h => h) h (by kernel_rfl) (AllP.nil) ?_
  intro a w h
  obtain ⟨hc43, hF⟩ := of_if hF
  refine wp_reg_seq tok (orc := orcL []) (fz := []) (l := [0, 3]) (c := _) (.inr fun i h => h) h (by kernel_rfl) (AllP.cons hc43 AllP.nil) ?_
  intro a w h
  refine wp_seq ?_
  refine wp_reg_seq tok (orc := orcL []) (fz := []) (l := [0, 3, 4]) (c := _) (.inr fun i h => h) h (by kernel_rfl) (AllP.nil) ?_
  intro a w h
  refine wp_block ?_
  refine wp_loop_fuel (f17.l22 k x0) (fun ((v37, v38) : ((List Int) × Int)) => [(0, .val (.sl false 2 (.int .i64)) x0), (3, .val (.sl true 2 (.int .i64)) v37), (4, .val (.int .i64) v38)]) (fun v h => by obtain ⟨v37, v38⟩ := v; rw [f17.l22] at h; cases h) ?_ hF (h.arrive (fz := []) (l := [0, 3, 4]) (.inr fun i h => h) (by kernel_rfl))
  intro m22 v a w hF h
  obtain ⟨v37, v38⟩ := v
  rw [f17.l22] at hF
  refine wp_seq ?_
  refine wp_reg_seq tok (orc := orcL []) (fz := []) (l := [0, 3, 4, 11]) (c := _) (.inr fun i h => h) h (by kernel_rfl) (AllP.nil) ?_
  intro a w h
  refine wp_if h (b := (decide ((v38 : Int) < (List.length x0 : Int)))) (by kernel_rfl) (fun hb => ?_) (fun hb => ?_)
  · replace hF := of_t hb hF
    refine wp_skip ?_
    refine wp_seq <| wp_block ?_
    obtain ⟨hc41, hF⟩ := of_if hF
    obtain ⟨hc42, hF⟩ := of_if hF
    refine wp_reg tok (orc := orcL []) (fz := []) (l := [0, 3, 4]) (c := _) (.inr fun i h => h) h (by kernel_rfl) (AllP.cons hc41 (AllP.cons hc42 AllP.nil)) ?_
    intro a w h
    refine wp_reg tok (orc := orcL []) (fz := []) (l := [0, 3, 4]) (c := _) (.inr fun i h => h) h (by kernel_rfl) (AllP.nil) ?_
    intro a w h
    exact ⟨((List.set v37 (Int.toNat v38) (List.getD x0 (Int.toNat v38) (0 : Int))), (IntKind.i64.wrap (v38 + (1 : Int)))), hF, h.arrive (fz := []) (l := [0, 3, 4]) (.inr fun i h => h) (by kernel_rfl)⟩
  · replace hF := of_f hb hF
    refine wp_exit ?_
    refine wp_reg_seq tok (orc := orcL []) (fz := []) (l := [2, 3]) (c := _) (.inr fun i h => h) h (by kernel_rfl) (AllP.nil) ?_
    intro a w h
    cases hF
    exact wp_ret (ret_okR tok h rfl (by kernel_rfl)).1

def f206 (k : Nat) (x0 : (Int × ((List Int) × (List (ByteArray × ByteArray))))) : Option (Int × ((List Int) × (List (ByteArray × ByteArray)))) := (f17 k x0.2.1).bind fun r1 => ((f244 k x0.2.2).bind fun r2 => (some (x0.1, (r1, r2))))
set_option maxRecDepth 100000 in
/-- 'laws.toWay'. -/
theorem c206 (k : Nat) (x0 : (Int × ((List Int) × (List (ByteArray × ByteArray))))) (r : (Int × ((List Int) × (List (ByteArray × ByteArray))))) (hF : f206 k x0 = some r) : PCall Try.prog 206 [⟨sh3, x0⟩] [⟨sh13, r⟩] := by
  refine pcall_intro Try.func206 rfl rfl (Nat.le_of_ble_eq_true rfl) ?_
  intro w0 Zi a w h
  rw [f206] at hF
  refine wp_reg_seq tok (orc := orcL []) (fz := []) (l := [1, 2]) (c := _) (.inr fun i h => h) h (by kernel_rfl) (AllP.nil) ?_
  intro a w h
  refine wp_reg_seq tok (orc := orcL []) (fz := []) (l := [1, 2, 3]) (c := _) (.inr fun i h => h) h (by kernel_rfl) (AllP.nil) ?_
  intro a w h
  refine wp_reg_seq tok (orc := orcL []) (fz := []) (l := [1, 2, 3]) (c := _) (.inr fun i h => h) h (by kernel_rfl) (AllP.nil) ?_
  intro a w h
  obtain ⟨r1, hr4, hF⟩ := of_bind hF
  refine wp_reg_seq tok (orc := orcL [(9, [⟨(.sl true 2 (.int .i64)), r1⟩])]) (fz := []) (l := [1, 2, 3]) (c := _) (.inr fun i h => h) h (by kernel_rfl) (AllP.cons (c17 k x0.2.1 r1 hr4) AllP.nil) ?_
  intro a w h
  obtain ⟨r2, hr3, hF⟩ := of_bind hF
  refine wp_reg_seq tok (orc := orcL [(13, [⟨sh10, r2⟩])]) (fz := []) (l := [2, 3]) (c := _) (.inr fun i h => h) h (by kernel_rfl) (AllP.cons (c244 k x0.2.2 r2 hr3) AllP.nil) ?_
  intro a w h
  refine wp_reg_seq tok (orc := orcL []) (fz := []) (l := [2]) (c := _) (.inr fun i h => h) h (by kernel_rfl) (AllP.nil) ?_
  intro a w h
  cases hF
  exact wp_ret (ret_okR tok h rfl (by kernel_rfl)).1

def f143.l34 (k : Nat) (x0 : (List (Int × ((List Int) × (List (ByteArray × ByteArray)))))) : Nat → ((List (Int × ((List Int) × (List (ByteArray × ByteArray))))) × Int) → Option (List (Int × ((List Int) × (List (ByteArray × ByteArray)))))
  | 0, _ => none
  | m34 + 1, (v57, v58) => if (decide ((v58 : Int) < (List.length x0 : Int))) then (if (0 ≤ v58 ∧ v58 < (List.length x0 : Int)) then ((f206 k (List.getD x0 (Int.toNat v58) ((0 : Int), (([] : (List Int)), ([] : (List (ByteArray × ByteArray))))))).bind fun r63 => (if (0 ≤ v58 ∧ v58 < (List.length v57 : Int)) then ((f143.l34 k x0) m34 ((List.set v57 (Int.toNat v58) r63), (IntKind.i64.wrap (v58 + (1 : Int))))) else none)) else none) else (some v57)
def f143 (k : Nat) (x0 : (List (Int × ((List Int) × (List (ByteArray × ByteArray)))))) : Option (List (Int × ((List Int) × (List (ByteArray × ByteArray))))) := if (0 ≤ (List.length x0 : Int) ∧ Int.toNat (List.length x0 : Int) * 56 ≤ 140737488355328) then (f143.l34 k x0 k ((List.replicate (Int.toNat (List.length x0 : Int)) ((0 : Int), (([] : (List Int)), ([] : (List (ByteArray × ByteArray)))))), (0 : Int))) else none
set_option maxRecDepth 100000 in
/-- 'laws.toWayS'. -/
theorem c143 (k : Nat) (x0 : (List (Int × ((List Int) × (List (ByteArray × ByteArray)))))) (r : (List (Int × ((List Int) × (List (ByteArray × ByteArray)))))) (hF : f143 k x0 = some r) : PCall Try.prog 143 [⟨sh4, x0⟩] [⟨sh14, r⟩] := by
  refine pcall_intro Try.func143 rfl rfl (Nat.le_of_ble_eq_true rfl) ?_
  intro w0 Zi a w h
  rw [f143] at hF
  refine wp_reg_seq tok (orc := orcL []) (fz := []) (l := [0]) (c := _) (.inr fun i h => h) h (by kernel_rfl) (AllP.nil) ?_
  intro a w h
  obtain ⟨hc67, hF⟩ := of_if hF
  refine wp_reg_seq tok (orc := orcL []) (fz := []) (l := [0, 3]) (c := _) (.inr fun i h => h) h (by kernel_rfl) (AllP.cons hc67 AllP.nil) ?_
  intro a w h
  refine wp_seq ?_
  refine wp_reg_seq tok (orc := orcL []) (fz := []) (l := [0, 3, 4]) (c := _) (.inr fun i h => h) h (by kernel_rfl) (AllP.nil) ?_
  intro a w h
  refine wp_block ?_
  refine wp_loop_fuel (f143.l34 k x0) (fun ((v57, v58) : ((List (Int × ((List Int) × (List (ByteArray × ByteArray))))) × Int)) => [(0, .val sh4 x0), (3, .val sh14 v57), (4, .val (.int .i64) v58)]) (fun v h => by obtain ⟨v57, v58⟩ := v; rw [f143.l34] at h; cases h) ?_ hF (h.arrive (fz := []) (l := [0, 3, 4]) (.inr fun i h => h) (by kernel_rfl))
  intro m34 v a w hF h
  obtain ⟨v57, v58⟩ := v
  rw [f143.l34] at hF
  refine wp_seq ?_
  refine wp_reg_seq tok (orc := orcL []) (fz := []) (l := [0, 3, 4, 11]) (c := _) (.inr fun i h => h) h (by kernel_rfl) (AllP.nil) ?_
  intro a w h
  refine wp_if h (b := (decide ((v58 : Int) < (List.length x0 : Int)))) (by kernel_rfl) (fun hb => ?_) (fun hb => ?_)
  · replace hF := of_t hb hF
    refine wp_skip ?_
    refine wp_seq <| wp_block ?_
    obtain ⟨hc64, hF⟩ := of_if hF
    obtain ⟨r63, hr65, hF⟩ := of_bind hF
    obtain ⟨hc66, hF⟩ := of_if hF
    refine wp_reg tok (orc := orcL [(20, [⟨sh13, r63⟩])]) (fz := []) (l := [0, 3, 4]) (c := _) (.inr fun i h => h) h (by kernel_rfl) (AllP.cons hc64 (AllP.cons (c206 k (List.getD x0 (Int.toNat v58) ((0 : Int), (([] : (List Int)), ([] : (List (ByteArray × ByteArray)))))) r63 hr65) (AllP.cons hc66 AllP.nil))) ?_
    intro a w h
    refine wp_reg tok (orc := orcL []) (fz := []) (l := [0, 3, 4]) (c := _) (.inr fun i h => h) h (by kernel_rfl) (AllP.nil) ?_
    intro a w h
    exact ⟨((List.set v57 (Int.toNat v58) r63), (IntKind.i64.wrap (v58 + (1 : Int)))), hF, h.arrive (fz := []) (l := [0, 3, 4]) (.inr fun i h => h) (by kernel_rfl)⟩
  · replace hF := of_f hb hF
    refine wp_exit ?_
    refine wp_reg_seq tok (orc := orcL []) (fz := []) (l := [2, 3]) (c := _) (.inr fun i h => h) h (by kernel_rfl) (AllP.nil) ?_
    intro a w h
    cases hF
    exact wp_ret (ret_okR tok h rfl (by kernel_rfl)).1

def f265 (k : Nat) (x0 : (Int × Bool)) : Option (Int × Bool) := some (x0.1, x0.2)
set_option maxRecDepth 100000 in
/-- 'laws.toPart'. -/
theorem c265 (k : Nat) (x0 : (Int × Bool)) (r : (Int × Bool)) (hF : f265 k x0 = some r) : PCall Try.prog 265 [⟨sh15, x0⟩] [⟨sh15, r⟩] := by
  refine pcall_intro Try.func265 rfl rfl (Nat.le_of_ble_eq_true rfl) ?_
  intro w0 Zi a w h
  rw [f265] at hF
  refine wp_reg_seq tok (orc := orcL []) (fz := []) (l := [1, 2]) (c := _) (.inr fun i h => h) h (by kernel_rfl) (AllP.nil) ?_
  intro a w h
  refine wp_reg_seq tok (orc := orcL []) (fz := []) (l := [1, 2, 3]) (c := _) (.inr fun i h => h) h (by kernel_rfl) (AllP.nil) ?_
  intro a w h
  refine wp_reg_seq tok (orc := orcL []) (fz := []) (l := [1, 2, 3]) (c := _) (.inr fun i h => h) h (by kernel_rfl) (AllP.nil) ?_
  intro a w h
  refine wp_reg_seq tok (orc := orcL []) (fz := []) (l := [2, 3]) (c := _) (.inr fun i h => h) h (by kernel_rfl) (AllP.nil) ?_
  intro a w h
  refine wp_reg_seq tok (orc := orcL []) (fz := []) (l := [2]) (c := _) (.inr fun i h => h) h (by kernel_rfl) (AllP.nil) ?_
  intro a w h
  cases hF
  exact wp_ret (ret_okR tok h rfl (by kernel_rfl)).1

def f245.l34 (k : Nat) (x0 : (List (Int × Bool))) : Nat → ((List (Int × Bool)) × Int) → Option (List (Int × Bool))
  | 0, _ => none
  | m34 + 1, (v57, v58) => if (decide ((v58 : Int) < (List.length x0 : Int))) then (if (0 ≤ v58 ∧ v58 < (List.length x0 : Int)) then ((f265 k (List.getD x0 (Int.toNat v58) ((0 : Int), false))).bind fun r63 => (if (0 ≤ v58 ∧ v58 < (List.length v57 : Int)) then ((f245.l34 k x0) m34 ((List.set v57 (Int.toNat v58) r63), (IntKind.i64.wrap (v58 + (1 : Int))))) else none)) else none) else (some v57)
def f245 (k : Nat) (x0 : (List (Int × Bool))) : Option (List (Int × Bool)) := if (0 ≤ (List.length x0 : Int) ∧ Int.toNat (List.length x0 : Int) * 16 ≤ 140737488355328) then (f245.l34 k x0 k ((List.replicate (Int.toNat (List.length x0 : Int)) ((0 : Int), false)), (0 : Int))) else none
set_option maxRecDepth 100000 in
/-- 'laws.toPartS'. -/
theorem c245 (k : Nat) (x0 : (List (Int × Bool))) (r : (List (Int × Bool))) (hF : f245 k x0 = some r) : PCall Try.prog 245 [⟨sh5, x0⟩] [⟨sh16, r⟩] := by
  refine pcall_intro Try.func245 rfl rfl (Nat.le_of_ble_eq_true rfl) ?_
  intro w0 Zi a w h
  rw [f245] at hF
  refine wp_reg_seq tok (orc := orcL []) (fz := []) (l := [0]) (c := _) (.inr fun i h => h) h (by kernel_rfl) (AllP.nil) ?_
  intro a w h
  obtain ⟨hc67, hF⟩ := of_if hF
  refine wp_reg_seq tok (orc := orcL []) (fz := []) (l := [0, 3]) (c := _) (.inr fun i h => h) h (by kernel_rfl) (AllP.cons hc67 AllP.nil) ?_
  intro a w h
  refine wp_seq ?_
  refine wp_reg_seq tok (orc := orcL []) (fz := []) (l := [0, 3, 4]) (c := _) (.inr fun i h => h) h (by kernel_rfl) (AllP.nil) ?_
  intro a w h
  refine wp_block ?_
  refine wp_loop_fuel (f245.l34 k x0) (fun ((v57, v58) : ((List (Int × Bool)) × Int)) => [(0, .val sh5 x0), (3, .val sh16 v57), (4, .val (.int .i64) v58)]) (fun v h => by obtain ⟨v57, v58⟩ := v; rw [f245.l34] at h; cases h) ?_ hF (h.arrive (fz := []) (l := [0, 3, 4]) (.inr fun i h => h) (by kernel_rfl))
  intro m34 v a w hF h
  obtain ⟨v57, v58⟩ := v
  rw [f245.l34] at hF
  refine wp_seq ?_
  refine wp_reg_seq tok (orc := orcL []) (fz := []) (l := [0, 3, 4, 11]) (c := _) (.inr fun i h => h) h (by kernel_rfl) (AllP.nil) ?_
  intro a w h
  refine wp_if h (b := (decide ((v58 : Int) < (List.length x0 : Int)))) (by kernel_rfl) (fun hb => ?_) (fun hb => ?_)
  · replace hF := of_t hb hF
    refine wp_skip ?_
    refine wp_seq <| wp_block ?_
    obtain ⟨hc64, hF⟩ := of_if hF
    obtain ⟨r63, hr65, hF⟩ := of_bind hF
    obtain ⟨hc66, hF⟩ := of_if hF
    refine wp_reg tok (orc := orcL [(20, [⟨sh15, r63⟩])]) (fz := []) (l := [0, 3, 4]) (c := _) (.inr fun i h => h) h (by kernel_rfl) (AllP.cons hc64 (AllP.cons (c265 k (List.getD x0 (Int.toNat v58) ((0 : Int), false)) r63 hr65) (AllP.cons hc66 AllP.nil))) ?_
    intro a w h
    refine wp_reg tok (orc := orcL []) (fz := []) (l := [0, 3, 4]) (c := _) (.inr fun i h => h) h (by kernel_rfl) (AllP.nil) ?_
    intro a w h
    exact ⟨((List.set v57 (Int.toNat v58) r63), (IntKind.i64.wrap (v58 + (1 : Int)))), hF, h.arrive (fz := []) (l := [0, 3, 4]) (.inr fun i h => h) (by kernel_rfl)⟩
  · replace hF := of_f hb hF
    refine wp_exit ?_
    refine wp_reg_seq tok (orc := orcL []) (fz := []) (l := [2, 3]) (c := _) (.inr fun i h => h) h (by kernel_rfl) (AllP.nil) ?_
    intro a w h
    cases hF
    exact wp_ret (ret_okR tok h rfl (by kernel_rfl)).1

def f207 (k : Nat) (x0 : (Int × ((List (Int × Bool)) × (List (ByteArray × ByteArray))))) : Option (Int × ((List (Int × Bool)) × (List (ByteArray × ByteArray)))) := (f245 k x0.2.1).bind fun r1 => ((f244 k x0.2.2).bind fun r2 => (some (x0.1, (r1, r2))))
set_option maxRecDepth 100000 in
/-- 'laws.toArea'. -/
theorem c207 (k : Nat) (x0 : (Int × ((List (Int × Bool)) × (List (ByteArray × ByteArray))))) (r : (Int × ((List (Int × Bool)) × (List (ByteArray × ByteArray))))) (hF : f207 k x0 = some r) : PCall Try.prog 207 [⟨sh6, x0⟩] [⟨sh17, r⟩] := by
  refine pcall_intro Try.func207 rfl rfl (Nat.le_of_ble_eq_true rfl) ?_
  intro w0 Zi a w h
  rw [f207] at hF
  refine wp_reg_seq tok (orc := orcL []) (fz := []) (l := [1, 2]) (c := _) (.inr fun i h => h) h (by kernel_rfl) (AllP.nil) ?_
  intro a w h
  refine wp_reg_seq tok (orc := orcL []) (fz := []) (l := [1, 2, 3]) (c := _) (.inr fun i h => h) h (by kernel_rfl) (AllP.nil) ?_
  intro a w h
  refine wp_reg_seq tok (orc := orcL []) (fz := []) (l := [1, 2, 3]) (c := _) (.inr fun i h => h) h (by kernel_rfl) (AllP.nil) ?_
  intro a w h
  obtain ⟨r1, hr4, hF⟩ := of_bind hF
  refine wp_reg_seq tok (orc := orcL [(9, [⟨sh16, r1⟩])]) (fz := []) (l := [1, 2, 3]) (c := _) (.inr fun i h => h) h (by kernel_rfl) (AllP.cons (c245 k x0.2.1 r1 hr4) AllP.nil) ?_
  intro a w h
  obtain ⟨r2, hr3, hF⟩ := of_bind hF
  refine wp_reg_seq tok (orc := orcL [(13, [⟨sh10, r2⟩])]) (fz := []) (l := [2, 3]) (c := _) (.inr fun i h => h) h (by kernel_rfl) (AllP.cons (c244 k x0.2.2 r2 hr3) AllP.nil) ?_
  intro a w h
  refine wp_reg_seq tok (orc := orcL []) (fz := []) (l := [2]) (c := _) (.inr fun i h => h) h (by kernel_rfl) (AllP.nil) ?_
  intro a w h
  cases hF
  exact wp_ret (ret_okR tok h rfl (by kernel_rfl)).1

def f144.l34 (k : Nat) (x0 : (List (Int × ((List (Int × Bool)) × (List (ByteArray × ByteArray)))))) : Nat → ((List (Int × ((List (Int × Bool)) × (List (ByteArray × ByteArray))))) × Int) → Option (List (Int × ((List (Int × Bool)) × (List (ByteArray × ByteArray)))))
  | 0, _ => none
  | m34 + 1, (v57, v58) => if (decide ((v58 : Int) < (List.length x0 : Int))) then (if (0 ≤ v58 ∧ v58 < (List.length x0 : Int)) then ((f207 k (List.getD x0 (Int.toNat v58) ((0 : Int), (([] : (List (Int × Bool))), ([] : (List (ByteArray × ByteArray))))))).bind fun r63 => (if (0 ≤ v58 ∧ v58 < (List.length v57 : Int)) then ((f144.l34 k x0) m34 ((List.set v57 (Int.toNat v58) r63), (IntKind.i64.wrap (v58 + (1 : Int))))) else none)) else none) else (some v57)
def f144 (k : Nat) (x0 : (List (Int × ((List (Int × Bool)) × (List (ByteArray × ByteArray)))))) : Option (List (Int × ((List (Int × Bool)) × (List (ByteArray × ByteArray))))) := if (0 ≤ (List.length x0 : Int) ∧ Int.toNat (List.length x0 : Int) * 56 ≤ 140737488355328) then (f144.l34 k x0 k ((List.replicate (Int.toNat (List.length x0 : Int)) ((0 : Int), (([] : (List (Int × Bool))), ([] : (List (ByteArray × ByteArray)))))), (0 : Int))) else none
set_option maxRecDepth 100000 in
/-- 'laws.toAreaS'. -/
theorem c144 (k : Nat) (x0 : (List (Int × ((List (Int × Bool)) × (List (ByteArray × ByteArray)))))) (r : (List (Int × ((List (Int × Bool)) × (List (ByteArray × ByteArray)))))) (hF : f144 k x0 = some r) : PCall Try.prog 144 [⟨sh7, x0⟩] [⟨sh18, r⟩] := by
  refine pcall_intro Try.func144 rfl rfl (Nat.le_of_ble_eq_true rfl) ?_
  intro w0 Zi a w h
  rw [f144] at hF
  refine wp_reg_seq tok (orc := orcL []) (fz := []) (l := [0]) (c := _) (.inr fun i h => h) h (by kernel_rfl) (AllP.nil) ?_
  intro a w h
  obtain ⟨hc67, hF⟩ := of_if hF
  refine wp_reg_seq tok (orc := orcL []) (fz := []) (l := [0, 3]) (c := _) (.inr fun i h => h) h (by kernel_rfl) (AllP.cons hc67 AllP.nil) ?_
  intro a w h
  refine wp_seq ?_
  refine wp_reg_seq tok (orc := orcL []) (fz := []) (l := [0, 3, 4]) (c := _) (.inr fun i h => h) h (by kernel_rfl) (AllP.nil) ?_
  intro a w h
  refine wp_block ?_
  refine wp_loop_fuel (f144.l34 k x0) (fun ((v57, v58) : ((List (Int × ((List (Int × Bool)) × (List (ByteArray × ByteArray))))) × Int)) => [(0, .val sh7 x0), (3, .val sh18 v57), (4, .val (.int .i64) v58)]) (fun v h => by obtain ⟨v57, v58⟩ := v; rw [f144.l34] at h; cases h) ?_ hF (h.arrive (fz := []) (l := [0, 3, 4]) (.inr fun i h => h) (by kernel_rfl))
  intro m34 v a w hF h
  obtain ⟨v57, v58⟩ := v
  rw [f144.l34] at hF
  refine wp_seq ?_
  refine wp_reg_seq tok (orc := orcL []) (fz := []) (l := [0, 3, 4, 11]) (c := _) (.inr fun i h => h) h (by kernel_rfl) (AllP.nil) ?_
  intro a w h
  refine wp_if h (b := (decide ((v58 : Int) < (List.length x0 : Int)))) (by kernel_rfl) (fun hb => ?_) (fun hb => ?_)
  · replace hF := of_t hb hF
    refine wp_skip ?_
    refine wp_seq <| wp_block ?_
    obtain ⟨hc64, hF⟩ := of_if hF
    obtain ⟨r63, hr65, hF⟩ := of_bind hF
    obtain ⟨hc66, hF⟩ := of_if hF
    refine wp_reg tok (orc := orcL [(20, [⟨sh17, r63⟩])]) (fz := []) (l := [0, 3, 4]) (c := _) (.inr fun i h => h) h (by kernel_rfl) (AllP.cons hc64 (AllP.cons (c207 k (List.getD x0 (Int.toNat v58) ((0 : Int), (([] : (List (Int × Bool))), ([] : (List (ByteArray × ByteArray)))))) r63 hr65) (AllP.cons hc66 AllP.nil))) ?_
    intro a w h
    refine wp_reg tok (orc := orcL []) (fz := []) (l := [0, 3, 4]) (c := _) (.inr fun i h => h) h (by kernel_rfl) (AllP.nil) ?_
    intro a w h
    exact ⟨((List.set v57 (Int.toNat v58) r63), (IntKind.i64.wrap (v58 + (1 : Int)))), hF, h.arrive (fz := []) (l := [0, 3, 4]) (.inr fun i h => h) (by kernel_rfl)⟩
  · replace hF := of_f hb hF
    refine wp_exit ?_
    refine wp_reg_seq tok (orc := orcL []) (fz := []) (l := [2, 3]) (c := _) (.inr fun i h => h) h (by kernel_rfl) (AllP.nil) ?_
    intro a w h
    cases hF
    exact wp_ret (ret_okR tok h rfl (by kernel_rfl)).1

def f63 (k : Nat) (x0 : ((List (Int × ((Int × Int) × (List (ByteArray × ByteArray))))) × ((List (Int × ((List Int) × (List (ByteArray × ByteArray))))) × (List (Int × ((List (Int × Bool)) × (List (ByteArray × ByteArray)))))))) : Option ((List (Int × ((Int × Int) × (List (ByteArray × ByteArray))))) × ((List (Int × ((List Int) × (List (ByteArray × ByteArray))))) × (List (Int × ((List (Int × Bool)) × (List (ByteArray × ByteArray))))))) := (f142 k x0.1).bind fun r1 => ((f143 k x0.2.1).bind fun r2 => ((f144 k x0.2.2).bind fun r3 => (some (r1, (r2, r3)))))
set_option maxRecDepth 100000 in
/-- 'laws.toMap'. -/
theorem c63 (k : Nat) (x0 : ((List (Int × ((Int × Int) × (List (ByteArray × ByteArray))))) × ((List (Int × ((List Int) × (List (ByteArray × ByteArray))))) × (List (Int × ((List (Int × Bool)) × (List (ByteArray × ByteArray)))))))) (r : ((List (Int × ((Int × Int) × (List (ByteArray × ByteArray))))) × ((List (Int × ((List Int) × (List (ByteArray × ByteArray))))) × (List (Int × ((List (Int × Bool)) × (List (ByteArray × ByteArray)))))))) (hF : f63 k x0 = some r) : PCall Try.prog 63 [⟨sh8, x0⟩] [⟨sh19, r⟩] := by
  refine pcall_intro Try.func63 rfl rfl (Nat.le_of_ble_eq_true rfl) ?_
  intro w0 Zi a w h
  rw [f63] at hF
  refine wp_reg_seq tok (orc := orcL []) (fz := []) (l := [1, 2]) (c := _) (.inr fun i h => h) h (by kernel_rfl) (AllP.nil) ?_
  intro a w h
  refine wp_reg_seq tok (orc := orcL []) (fz := []) (l := [1, 2, 3]) (c := _) (.inr fun i h => h) h (by kernel_rfl) (AllP.nil) ?_
  intro a w h
  obtain ⟨r1, hr6, hF⟩ := of_bind hF
  refine wp_reg_seq tok (orc := orcL [(6, [⟨sh12, r1⟩])]) (fz := []) (l := [1, 2, 3]) (c := _) (.inr fun i h => h) h (by kernel_rfl) (AllP.cons (c142 k x0.1 r1 hr6) AllP.nil) ?_
  intro a w h
  obtain ⟨r2, hr5, hF⟩ := of_bind hF
  refine wp_reg_seq tok (orc := orcL [(10, [⟨sh14, r2⟩])]) (fz := []) (l := [1, 2, 3]) (c := _) (.inr fun i h => h) h (by kernel_rfl) (AllP.cons (c143 k x0.2.1 r2 hr5) AllP.nil) ?_
  intro a w h
  obtain ⟨r3, hr4, hF⟩ := of_bind hF
  refine wp_reg_seq tok (orc := orcL [(14, [⟨sh18, r3⟩])]) (fz := []) (l := [2, 3]) (c := _) (.inr fun i h => h) h (by kernel_rfl) (AllP.cons (c144 k x0.2.2 r3 hr4) AllP.nil) ?_
  intro a w h
  refine wp_reg_seq tok (orc := orcL []) (fz := []) (l := [2]) (c := _) (.inr fun i h => h) h (by kernel_rfl) (AllP.nil) ?_
  intro a w h
  cases hF
  exact wp_ret (ret_okR tok h rfl (by kernel_rfl)).1

def f158 (k : Nat) (x0 : Int) : Option Bool := some (bif (decide ((x0 : Int) ≥ (1 : Int))) then (decide ((x0 : Int) ≤ (1000000000 : Int))) else false)
set_option maxRecDepth 100000 in
/-- 'spec.l2IdOk'. -/
theorem c158 (k : Nat) (x0 : Int) (r : Bool) (hF : f158 k x0 = some r) : PCall Try.prog 158 [⟨(.int .i64), x0⟩] [⟨.bool, r⟩] := by
  refine pcall_intro Try.func158 rfl rfl (Nat.le_of_ble_eq_true rfl) ?_
  intro w0 Zi a w h
  rw [f158] at hF
  refine wp_reg_seq tok (orc := orcL []) (fz := []) (l := [0]) (c := _) (.inr fun i h => h) h (by kernel_rfl) (AllP.nil) ?_
  intro a w h
  refine wp_reg_seq tok (orc := orcL []) (fz := []) (l := [2]) (c := _) (.inr fun i h => h) h (by kernel_rfl) (AllP.nil) ?_
  intro a w h
  cases hF
  exact wp_ret (ret_okR tok h rfl (by kernel_rfl)).1

def f159 (k : Nat) (x0 : (Int × Int)) : Option Bool := some (bif (bif (bif (decide ((x0.1 : Int) ≥ (-10000000 : Int))) then (decide ((x0.1 : Int) ≤ (10000000 : Int))) else false) then (decide ((x0.2 : Int) ≥ (-10000000 : Int))) else false) then (decide ((x0.2 : Int) ≤ (10000000 : Int))) else false)
set_option maxRecDepth 100000 in
/-- 'spec.PointOk'. -/
theorem c159 (k : Nat) (x0 : (Int × Int)) (r : Bool) (hF : f159 k x0 = some r) : PCall Try.prog 159 [⟨sh9, x0⟩] [⟨.bool, r⟩] := by
  refine pcall_intro Try.func159 rfl rfl (Nat.le_of_ble_eq_true rfl) ?_
  intro w0 Zi a w h
  rw [f159] at hF
  refine wp_reg_seq tok (orc := orcL []) (fz := []) (l := [1]) (c := _) (.inr fun i h => h) h (by kernel_rfl) (AllP.nil) ?_
  intro a w h
  refine wp_reg_seq tok (orc := orcL []) (fz := []) (l := [2]) (c := _) (.inr fun i h => h) h (by kernel_rfl) (AllP.nil) ?_
  intro a w h
  cases hF
  exact wp_ret (ret_okR tok h rfl (by kernel_rfl)).1

def f241.l12 (k : Nat) (x0 : ByteArray) : Nat → Int → Option Bool
  | 0, _ => none
  | m12 + 1, v20 => if (decide ((v20 : Int) < (ByteArray.size x0 : Int))) then (if ((0 : Int) ≤ v20 ∧ (v20 : Int) < (ByteArray.size x0 : Int)) then (if (!(bif (bif (bif (bif (decide (((byteAt x0 v20) : Int) ≥ (97 : Int))) then (decide (((byteAt x0 v20) : Int) ≤ (122 : Int))) else false) then true else (bif (decide (((byteAt x0 v20) : Int) ≥ (48 : Int))) then (decide (((byteAt x0 v20) : Int) ≤ (57 : Int))) else false)) then true else (((byteAt x0 v20) : Int) == (58 : Int))) then true else (((byteAt x0 v20) : Int) == (95 : Int)))) then (some false) else ((f241.l12 k x0) m12 (IntKind.i64.wrap (v20 + (1 : Int))))) else none) else (some (bif (decide (((ByteArray.size x0 : Int) : Int) ≥ (1 : Int))) then (decide (((ByteArray.size x0 : Int) : Int) ≤ (40 : Int))) else false))
def f241 (k : Nat) (x0 : ByteArray) : Option Bool := f241.l12 k x0 k (0 : Int)
set_option maxRecDepth 100000 in
/-- 'spec.l2WordOk'. -/
theorem c241 (k : Nat) (x0 : ByteArray) (r : Bool) (hF : f241 k x0 = some r) : PCall Try.prog 241 [⟨.str, x0⟩] [⟨.bool, r⟩] := by
  refine pcall_intro Try.func241 rfl rfl (Nat.le_of_ble_eq_true rfl) ?_
  intro w0 Zi a w h
  rw [f241] at hF
  refine wp_reg_seq tok (orc := orcL []) (fz := []) (l := [0]) (c := _) (.inr fun i h => h) h (by kernel_rfl) (AllP.nil) ?_
  intro a w h
  refine wp_seq ?_
  refine wp_reg_seq tok (orc := orcL []) (fz := []) (l := [0, 3]) (c := _) (.inr fun i h => h) h (by kernel_rfl) (AllP.nil) ?_
  intro a w h
  refine wp_block ?_
  refine wp_loop_fuel (f241.l12 k x0) (fun (v20 : Int) => [(0, .val .str x0), (3, .val (.int .i64) v20)]) (fun v h => by rw [f241.l12] at h; cases h) ?_ hF (h.arrive (fz := []) (l := [0, 3]) (.inr fun i h => h) (by kernel_rfl))
  intro m12 v20 a w hF h
  rw [f241.l12] at hF
  refine wp_seq ?_
  refine wp_reg_seq tok (orc := orcL []) (fz := []) (l := [0, 3, 8]) (c := _) (.inr fun i h => h) h (by kernel_rfl) (AllP.nil) ?_
  intro a w h
  refine wp_if h (b := (decide ((v20 : Int) < (ByteArray.size x0 : Int)))) (by kernel_rfl) (fun hb => ?_) (fun hb => ?_)
  · replace hF := of_t hb hF
    refine wp_skip ?_
    refine wp_seq <| wp_block ?_
    obtain ⟨hc22, hF⟩ := of_if hF
    refine wp_reg_seq tok (orc := orcL []) (fz := []) (l := [0, 3, 4]) (c := _) (.inr fun i h => h) h (by kernel_rfl) (AllP.cons hc22 AllP.nil) ?_
    intro a w h
    refine wp_reg_seq tok (orc := orcL []) (fz := []) (l := [0, 3, 36]) (c := _) (.inr fun i h => h) h (by kernel_rfl) (AllP.nil) ?_
    intro a w h
    refine wp_if h (b := (!(bif (bif (bif (bif (decide (((byteAt x0 v20) : Int) ≥ (97 : Int))) then (decide (((byteAt x0 v20) : Int) ≤ (122 : Int))) else false) then true else (bif (decide (((byteAt x0 v20) : Int) ≥ (48 : Int))) then (decide (((byteAt x0 v20) : Int) ≤ (57 : Int))) else false)) then true else (((byteAt x0 v20) : Int) == (58 : Int))) then true else (((byteAt x0 v20) : Int) == (95 : Int))))) (by kernel_rfl) (fun hb => ?_) (fun hb => ?_)
    · replace hF := of_t hb hF
      refine wp_reg_seq tok (orc := orcL []) (fz := []) (l := [2]) (c := _) (.inr fun i h => h) h (by kernel_rfl) (AllP.nil) ?_
      intro a w h
      cases hF
      exact wp_ret (ret_okR tok h rfl (by kernel_rfl)).1
    · replace hF := of_f hb hF
      refine wp_skip ?_
      refine wp_reg tok (orc := orcL []) (fz := []) (l := [0, 3]) (c := _) (.inr fun i h => h) h (by kernel_rfl) (AllP.nil) ?_
      intro a w h
      exact ⟨(IntKind.i64.wrap (v20 + (1 : Int))), hF, h.arrive (fz := []) (l := [0, 3]) (.inr fun i h => h) (by kernel_rfl)⟩
  · replace hF := of_f hb hF
    refine wp_exit ?_
    refine wp_reg_seq tok (orc := orcL []) (fz := []) (l := [2]) (c := _) (.inr fun i h => h) h (by kernel_rfl) (AllP.nil) ?_
    intro a w h
    cases hF
    exact wp_ret (ret_okR tok h rfl (by kernel_rfl)).1

def f242.l18 (k : Nat) (x0 : ByteArray) : Nat → Int → Option Bool
  | 0, _ => none
  | m18 + 1, v30 => if (decide ((v30 : Int) < (ByteArray.size x0 : Int))) then (if ((0 : Int) ≤ v30 ∧ (v30 : Int) < (ByteArray.size x0 : Int)) then (if (((decide (((byteAt x0 v30) : Int) < (32 : Int))) = false) → ((0 : Int) ≤ v30 ∧ (v30 : Int) < (ByteArray.size x0 : Int))) then (if (bif (decide (((byteAt x0 v30) : Int) < (32 : Int))) then true else (decide (((byteAt x0 v30) : Int) > (126 : Int)))) then (some false) else ((f242.l18 k x0) m18 (IntKind.i64.wrap (v30 + (1 : Int))))) else none) else none) else (some (bif (decide (((ByteArray.size x0 : Int) : Int) ≥ (1 : Int))) then (decide (((ByteArray.size x0 : Int) : Int) ≤ (100 : Int))) else false))
def f242 (k : Nat) (x0 : ByteArray) : Option Bool := f242.l18 k x0 k (0 : Int)
set_option maxRecDepth 100000 in
/-- 'spec.l2ValueOk'. -/
theorem c242 (k : Nat) (x0 : ByteArray) (r : Bool) (hF : f242 k x0 = some r) : PCall Try.prog 242 [⟨.str, x0⟩] [⟨.bool, r⟩] := by
  refine pcall_intro Try.func242 rfl rfl (Nat.le_of_ble_eq_true rfl) ?_
  intro w0 Zi a w h
  rw [f242] at hF
  refine wp_reg_seq tok (orc := orcL []) (fz := []) (l := [0]) (c := _) (.inr fun i h => h) h (by kernel_rfl) (AllP.nil) ?_
  intro a w h
  refine wp_seq ?_
  refine wp_reg_seq tok (orc := orcL []) (fz := []) (l := [0, 3]) (c := _) (.inr fun i h => h) h (by kernel_rfl) (AllP.nil) ?_
  intro a w h
  refine wp_block ?_
  refine wp_loop_fuel (f242.l18 k x0) (fun (v30 : Int) => [(0, .val .str x0), (3, .val (.int .i64) v30)]) (fun v h => by rw [f242.l18] at h; cases h) ?_ hF (h.arrive (fz := []) (l := [0, 3]) (.inr fun i h => h) (by kernel_rfl))
  intro m18 v30 a w hF h
  rw [f242.l18] at hF
  refine wp_seq ?_
  refine wp_reg_seq tok (orc := orcL []) (fz := []) (l := [0, 3, 7]) (c := _) (.inr fun i h => h) h (by kernel_rfl) (AllP.nil) ?_
  intro a w h
  refine wp_if h (b := (decide ((v30 : Int) < (ByteArray.size x0 : Int)))) (by kernel_rfl) (fun hb => ?_) (fun hb => ?_)
  · replace hF := of_t hb hF
    refine wp_skip ?_
    refine wp_seq <| wp_block ?_
    obtain ⟨hc33, hF⟩ := of_if hF
    obtain ⟨hc34, hF⟩ := of_if hF
    refine wp_reg_seq tok (orc := orcL []) (fz := []) (l := [0, 3, 19]) (c := _) (.inr fun i h => h) h (by kernel_rfl) (AllP.cons hc33 (AllP.cons hc34 AllP.nil)) ?_
    intro a w h
    refine wp_if h (b := (bif (decide (((byteAt x0 v30) : Int) < (32 : Int))) then true else (decide (((byteAt x0 v30) : Int) > (126 : Int))))) (by kernel_rfl) (fun hb => ?_) (fun hb => ?_)
    · replace hF := of_t hb hF
      refine wp_reg_seq tok (orc := orcL []) (fz := []) (l := [2]) (c := _) (.inr fun i h => h) h (by kernel_rfl) (AllP.nil) ?_
      intro a w h
      cases hF
      exact wp_ret (ret_okR tok h rfl (by kernel_rfl)).1
    · replace hF := of_f hb hF
      refine wp_skip ?_
      refine wp_reg tok (orc := orcL []) (fz := []) (l := [0, 3]) (c := _) (.inr fun i h => h) h (by kernel_rfl) (AllP.nil) ?_
      intro a w h
      exact ⟨(IntKind.i64.wrap (v30 + (1 : Int))), hF, h.arrive (fz := []) (l := [0, 3]) (.inr fun i h => h) (by kernel_rfl)⟩
  · replace hF := of_f hb hF
    refine wp_exit ?_
    refine wp_reg_seq tok (orc := orcL []) (fz := []) (l := [2]) (c := _) (.inr fun i h => h) h (by kernel_rfl) (AllP.nil) ?_
    intro a w h
    cases hF
    exact wp_ret (ret_okR tok h rfl (by kernel_rfl)).1

def f199.l54 (k : Nat) (x0 : (List (ByteArray × ByteArray))) : Nat → Int → Option Bool
  | 0, _ => none
  | m54 + 1, v90 => if (bif (decide ((v90 : Int) < (List.length x0 : Int))) then (decide (((List.length x0 : Int) : Int) ≤ (30 : Int))) else false) then (if (0 ≤ v90 ∧ v90 < (List.length x0 : Int)) then ((f241 k (List.getD x0 (Int.toNat v90) ((⟨#[]⟩ : ByteArray), (⟨#[]⟩ : ByteArray))).1).bind fun r99 => (if (((!r99) = false) → (0 ≤ v90 ∧ v90 < (List.length x0 : Int))) then ((if ((!r99) = false) then f242 k (List.getD x0 (Int.toNat v90) ((⟨#[]⟩ : ByteArray), (⟨#[]⟩ : ByteArray))).2 else some default).bind fun r100 => (if ((((bif (!r99) then true else (!r100)) = false) ∧ ((decide ((v90 : Int) > (0 : Int))) = true)) → (0 ≤ (IntKind.i64.wrap (v90 - (1 : Int))) ∧ (IntKind.i64.wrap (v90 - (1 : Int))) < (List.length x0 : Int))) then (if ((((bif (!r99) then true else (!r100)) = false) ∧ ((decide ((v90 : Int) > (0 : Int))) = true)) → (0 ≤ v90 ∧ v90 < (List.length x0 : Int))) then (if (bif (bif (!r99) then true else (!r100)) then true else (bif (decide ((v90 : Int) > (0 : Int))) then (!(Op.bytesLess (ByteArray.toList (List.getD x0 (Int.toNat (IntKind.i64.wrap (v90 - (1 : Int)))) ((⟨#[]⟩ : ByteArray), (⟨#[]⟩ : ByteArray))).1) (ByteArray.toList (List.getD x0 (Int.toNat v90) ((⟨#[]⟩ : ByteArray), (⟨#[]⟩ : ByteArray))).1))) else false)) then (some false) else ((f199.l54 k x0) m54 (IntKind.i64.wrap (v90 + (1 : Int))))) else none) else none)) else none)) else none) else (some (decide (((List.length x0 : Int) : Int) ≤ (30 : Int))))
def f199 (k : Nat) (x0 : (List (ByteArray × ByteArray))) : Option Bool := f199.l54 k x0 k (0 : Int)
set_option maxRecDepth 100000 in
/-- 'spec.TagsOk'. -/
theorem c199 (k : Nat) (x0 : (List (ByteArray × ByteArray))) (r : Bool) (hF : f199 k x0 = some r) : PCall Try.prog 199 [⟨sh20, x0⟩] [⟨.bool, r⟩] := by
  refine pcall_intro Try.func199 rfl rfl (Nat.le_of_ble_eq_true rfl) ?_
  intro w0 Zi a w h
  rw [f199] at hF
  refine wp_reg_seq tok (orc := orcL []) (fz := []) (l := [0]) (c := _) (.inr fun i h => h) h (by kernel_rfl) (AllP.nil) ?_
  intro a w h
  refine wp_seq ?_
  refine wp_reg_seq tok (orc := orcL []) (fz := []) (l := [0, 3]) (c := _) (.inr fun i h => h) h (by kernel_rfl) (AllP.nil) ?_
  intro a w h
  refine wp_block ?_
  refine wp_loop_fuel (f199.l54 k x0) (fun (v90 : Int) => [(0, .val sh20 x0), (3, .val (.int .i64) v90)]) (fun v h => by rw [f199.l54] at h; cases h) ?_ hF (h.arrive (fz := []) (l := [0, 3]) (.inr fun i h => h) (by kernel_rfl))
  intro m54 v90 a w hF h
  rw [f199.l54] at hF
  refine wp_seq ?_
  refine wp_reg_seq tok (orc := orcL []) (fz := []) (l := [0, 3, 12]) (c := _) (.inr fun i h => h) h (by kernel_rfl) (AllP.nil) ?_
  intro a w h
  refine wp_if h (b := (bif (decide ((v90 : Int) < (List.length x0 : Int))) then (decide (((List.length x0 : Int) : Int) ≤ (30 : Int))) else false)) (by kernel_rfl) (fun hb => ?_) (fun hb => ?_)
  · replace hF := of_t hb hF
    refine wp_skip ?_
    refine wp_seq <| wp_block ?_
    obtain ⟨hc101, hF⟩ := of_if hF
    obtain ⟨r99, hr102, hF⟩ := of_bind hF
    obtain ⟨hc103, hF⟩ := of_if hF
    obtain ⟨r100, hr104, hF⟩ := of_bind hF
    obtain ⟨hc105, hF⟩ := of_if hF
    obtain ⟨hc106, hF⟩ := of_if hF
    refine wp_regy_seq tok (orc := orcL [(20, [⟨.bool, r99⟩]), (28, [⟨.bool, r100⟩])]) (fz := []) (l := [0, 3, 48]) (c := _) ([], [], [], []) 34 (.inr fun i h => h) h (by kernel_rfl) (by kernel_rfl) (AllP.cons hc101 (AllP.cons (c241 k (List.getD x0 (Int.toNat v90) ((⟨#[]⟩ : ByteArray), (⟨#[]⟩ : ByteArray))).1 r99 hr102) (AllP.cons hc103 (AllP.cons (fun (hg : ((!r99) = false)) => c242 k (List.getD x0 (Int.toNat v90) ((⟨#[]⟩ : ByteArray), (⟨#[]⟩ : ByteArray))).2 r100 (of_g hg hr104)) (AllP.cons hc105 (AllP.cons hc106 AllP.nil)))))) ?_
    intro a w h
    refine wp_if h (b := (bif (bif (!r99) then true else (!r100)) then true else (bif (decide ((v90 : Int) > (0 : Int))) then (!(Op.bytesLess (ByteArray.toList (List.getD x0 (Int.toNat (IntKind.i64.wrap (v90 - (1 : Int)))) ((⟨#[]⟩ : ByteArray), (⟨#[]⟩ : ByteArray))).1) (ByteArray.toList (List.getD x0 (Int.toNat v90) ((⟨#[]⟩ : ByteArray), (⟨#[]⟩ : ByteArray))).1))) else false))) (by kernel_rfl) (fun hb => ?_) (fun hb => ?_)
    · replace hF := of_t hb hF
      refine wp_reg_seq tok (orc := orcL []) (fz := []) (l := [2]) (c := _) (.inr fun i h => h) h (by kernel_rfl) (AllP.nil) ?_
      intro a w h
      cases hF
      exact wp_ret (ret_okR tok h rfl (by kernel_rfl)).1
    · replace hF := of_f hb hF
      refine wp_skip ?_
      refine wp_reg tok (orc := orcL []) (fz := []) (l := [0, 3]) (c := _) (.inr fun i h => h) h (by kernel_rfl) (AllP.nil) ?_
      intro a w h
      exact ⟨(IntKind.i64.wrap (v90 + (1 : Int))), hF, h.arrive (fz := []) (l := [0, 3]) (.inr fun i h => h) (by kernel_rfl)⟩
  · replace hF := of_f hb hF
    refine wp_exit ?_
    refine wp_reg_seq tok (orc := orcL []) (fz := []) (l := [2]) (c := _) (.inr fun i h => h) h (by kernel_rfl) (AllP.nil) ?_
    intro a w h
    cases hF
    exact wp_ret (ret_okR tok h rfl (by kernel_rfl)).1

def f138.l16 (k : Nat) (x0 : ((List (Int × ((Int × Int) × (List (ByteArray × ByteArray))))) × ((List (Int × ((List Int) × (List (ByteArray × ByteArray))))) × (List (Int × ((List (Int × Bool)) × (List (ByteArray × ByteArray)))))))) (x1 : Int) : Nat → (Int × Int) → Option Int
  | 0, _ => none
  | m16 + 1, (v27, v28) => if (decide ((v27 : Int) < v28)) then (if (((2 : Int) : Int) ≠ 0) then (if (0 ≤ (IntKind.i64.wrap (Int.tdiv (IntKind.i64.wrap (v27 + v28)) (2 : Int))) ∧ (IntKind.i64.wrap (Int.tdiv (IntKind.i64.wrap (v27 + v28)) (2 : Int))) < (List.length x0.1 : Int)) then (if (decide (((List.getD x0.1 (Int.toNat (IntKind.i64.wrap (Int.tdiv (IntKind.i64.wrap (v27 + v28)) (2 : Int)))) ((0 : Int), (((0 : Int), (0 : Int)), ([] : (List (ByteArray × ByteArray)))))).1 : Int) < x1)) then ((f138.l16 k x0 x1) m16 ((IntKind.i64.wrap ((IntKind.i64.wrap (Int.tdiv (IntKind.i64.wrap (v27 + v28)) (2 : Int))) + (1 : Int))), v28)) else ((f138.l16 k x0 x1) m16 (v27, (IntKind.i64.wrap (Int.tdiv (IntKind.i64.wrap (v27 + v28)) (2 : Int)))))) else none) else none) else (if (((decide ((v27 : Int) < (List.length x0.1 : Int))) = true) → (0 ≤ v27 ∧ v27 < (List.length x0.1 : Int))) then (if (bif (decide ((v27 : Int) < (List.length x0.1 : Int))) then (((List.getD x0.1 (Int.toNat v27) ((0 : Int), (((0 : Int), (0 : Int)), ([] : (List (ByteArray × ByteArray)))))).1 : Int) == x1) else false) then (some v27) else (some (-1 : Int))) else none)
def f138 (k : Nat) (x0 : ((List (Int × ((Int × Int) × (List (ByteArray × ByteArray))))) × ((List (Int × ((List Int) × (List (ByteArray × ByteArray))))) × (List (Int × ((List (Int × Bool)) × (List (ByteArray × ByteArray)))))))) (x1 : Int) : Option Int := f138.l16 k x0 x1 k ((0 : Int), (List.length x0.1 : Int))
set_option maxRecDepth 100000 in
/-- 'spec.l2Node'. -/
theorem c138 (k : Nat) (x0 : ((List (Int × ((Int × Int) × (List (ByteArray × ByteArray))))) × ((List (Int × ((List Int) × (List (ByteArray × ByteArray))))) × (List (Int × ((List (Int × Bool)) × (List (ByteArray × ByteArray)))))))) (x1 : Int) (r : Int) (hF : f138 k x0 x1 = some r) : PCall Try.prog 138 [⟨sh22, x0⟩, ⟨(.int .i64), x1⟩] [⟨(.int .i64), r⟩] := by
  refine pcall_intro Try.func138 rfl rfl (Nat.le_of_ble_eq_true rfl) ?_
  intro w0 Zi a w h
  rw [f138] at hF
  refine wp_reg_seq tok (orc := orcL []) (fz := []) (l := [1, 2]) (c := _) (.inr fun i h => h) h (by kernel_rfl) (AllP.nil) ?_
  intro a w h
  refine wp_reg_seq tok (orc := orcL []) (fz := []) (l := [1, 2, 5]) (c := _) (.inr fun i h => h) h (by kernel_rfl) (AllP.nil) ?_
  intro a w h
  refine wp_reg_seq tok (orc := orcL []) (fz := []) (l := [1, 2, 5, 6]) (c := _) (.inr fun i h => h) h (by kernel_rfl) (AllP.nil) ?_
  intro a w h
  refine wp_seq <| wp_block ?_
  refine wp_loop_fuel (f138.l16 k x0 x1) (fun ((v27, v28) : (Int × Int)) => [(1, .val (.int .i64) x1), (2, .val sh21 (some x0)), (5, .val (.int .i64) v27), (6, .val (.int .i64) v28)]) (fun v h => by obtain ⟨v27, v28⟩ := v; rw [f138.l16] at h; cases h) ?_ hF (h.arrive (fz := []) (l := [1, 2, 5, 6]) (.inr fun i h => h) (by kernel_rfl))
  intro m16 v a w hF h
  obtain ⟨v27, v28⟩ := v
  rw [f138.l16] at hF
  refine wp_seq ?_
  refine wp_reg_seq tok (orc := orcL []) (fz := []) (l := [1, 2, 5, 6, 13]) (c := _) (.inr fun i h => h) h (by kernel_rfl) (AllP.nil) ?_
  intro a w h
  refine wp_if h (b := (decide ((v27 : Int) < v28))) (by kernel_rfl) (fun hb => ?_) (fun hb => ?_)
  · replace hF := of_t hb hF
    refine wp_skip ?_
    refine wp_block ?_
    obtain ⟨hc30, hF⟩ := of_if hF
    refine wp_reg_seq tok (orc := orcL []) (fz := []) (l := [1, 2, 5, 6, 7]) (c := _) (.inr fun i h => h) h (by kernel_rfl) (AllP.cons hc30 AllP.nil) ?_
    intro a w h
    obtain ⟨hc29, hF⟩ := of_if hF
    refine wp_reg_seq tok (orc := orcL []) (fz := []) (l := [1, 2, 5, 6, 7, 25]) (c := _) (.inr fun i h => h) h (by kernel_rfl) (AllP.cons hc29 AllP.nil) ?_
    intro a w h
    refine wp_if h (b := (decide (((List.getD x0.1 (Int.toNat (IntKind.i64.wrap (Int.tdiv (IntKind.i64.wrap (v27 + v28)) (2 : Int)))) ((0 : Int), (((0 : Int), (0 : Int)), ([] : (List (ByteArray × ByteArray)))))).1 : Int) < x1))) (by kernel_rfl) (fun hb => ?_) (fun hb => ?_)
    · replace hF := of_t hb hF
      refine wp_reg tok (orc := orcL []) (fz := []) (l := [1, 2, 5, 6]) (c := _) (.inr fun i h => h) h (by kernel_rfl) (AllP.nil) ?_
      intro a w h
      exact ⟨((IntKind.i64.wrap ((IntKind.i64.wrap (Int.tdiv (IntKind.i64.wrap (v27 + v28)) (2 : Int))) + (1 : Int))), v28), hF, h.arrive (fz := []) (l := [1, 2, 5, 6]) (.inr fun i h => h) (by kernel_rfl)⟩
    · replace hF := of_f hb hF
      refine wp_reg tok (orc := orcL []) (fz := []) (l := [1, 2, 5, 6]) (c := _) (.inr fun i h => h) h (by kernel_rfl) (AllP.nil) ?_
      intro a w h
      exact ⟨(v27, (IntKind.i64.wrap (Int.tdiv (IntKind.i64.wrap (v27 + v28)) (2 : Int)))), hF, h.arrive (fz := []) (l := [1, 2, 5, 6]) (.inr fun i h => h) (by kernel_rfl)⟩
  · replace hF := of_f hb hF
    refine wp_exit ?_
    refine wp_seq ?_
    obtain ⟨hc31, hF⟩ := of_if hF
    refine wp_reg_seq tok (orc := orcL []) (fz := []) (l := [5, 43]) (c := _) (.inr fun i h => h) h (by kernel_rfl) (AllP.cons hc31 AllP.nil) ?_
    intro a w h
    refine wp_if h (b := (bif (decide ((v27 : Int) < (List.length x0.1 : Int))) then (((List.getD x0.1 (Int.toNat v27) ((0 : Int), (((0 : Int), (0 : Int)), ([] : (List (ByteArray × ByteArray)))))).1 : Int) == x1) else false)) (by kernel_rfl) (fun hb => ?_) (fun hb => ?_)
    · replace hF := of_t hb hF
      refine wp_reg_seq tok (orc := orcL []) (fz := []) (l := [4]) (c := _) (.inr fun i h => h) h (by kernel_rfl) (AllP.nil) ?_
      intro a w h
      cases hF
      exact wp_ret (ret_okR tok h rfl (by kernel_rfl)).1
    · replace hF := of_f hb hF
      refine wp_skip ?_
      refine wp_reg_seq tok (orc := orcL []) (fz := []) (l := [4]) (c := _) (.inr fun i h => h) h (by kernel_rfl) (AllP.nil) ?_
      intro a w h
      cases hF
      exact wp_ret (ret_okR tok h rfl (by kernel_rfl)).1

def f200.l38 (k : Nat) (x1 : (Int × ((List Int) × (List (ByteArray × ByteArray))))) (x0 : ((List (Int × ((Int × Int) × (List (ByteArray × ByteArray))))) × ((List (Int × ((List Int) × (List (ByteArray × ByteArray))))) × (List (Int × ((List (Int × Bool)) × (List (ByteArray × ByteArray)))))))) : Nat → Int → Option Bool
  | 0, _ => none
  | m38 + 1, v62 => if (decide ((v62 : Int) < (List.length x1.2.1 : Int))) then (if (0 ≤ v62 ∧ v62 < (List.length x1.2.1 : Int)) then ((f138 k x0 (List.getD x1.2.1 (Int.toNat v62) (0 : Int))).bind fun r68 => (if ((((decide ((r68 : Int) < (0 : Int))) = false) ∧ ((decide ((v62 : Int) > (0 : Int))) = true)) → (0 ≤ v62 ∧ v62 < (List.length x1.2.1 : Int))) then (if ((((decide ((r68 : Int) < (0 : Int))) = false) ∧ ((decide ((v62 : Int) > (0 : Int))) = true)) → (0 ≤ (IntKind.i64.wrap (v62 - (1 : Int))) ∧ (IntKind.i64.wrap (v62 - (1 : Int))) < (List.length x1.2.1 : Int))) then (if (bif (decide ((r68 : Int) < (0 : Int))) then true else (bif (decide ((v62 : Int) > (0 : Int))) then (((List.getD x1.2.1 (Int.toNat v62) (0 : Int)) : Int) == (List.getD x1.2.1 (Int.toNat (IntKind.i64.wrap (v62 - (1 : Int)))) (0 : Int))) else false)) then (some false) else ((f200.l38 k x1 x0) m38 (IntKind.i64.wrap (v62 + (1 : Int))))) else none) else none)) else none) else (some true)
def f200 (k : Nat) (x0 : ((List (Int × ((Int × Int) × (List (ByteArray × ByteArray))))) × ((List (Int × ((List Int) × (List (ByteArray × ByteArray))))) × (List (Int × ((List (Int × Bool)) × (List (ByteArray × ByteArray)))))))) (x1 : (Int × ((List Int) × (List (ByteArray × ByteArray))))) : Option Bool := (f158 k x1.1).bind fun r1 => ((if ((!r1) = false) then f199 k x1.2.2 else some default).bind fun r2 => (if (bif (bif (bif (!r1) then true else (!r2)) then true else (decide (((List.length x1.2.1 : Int) : Int) < (2 : Int)))) then true else (decide (((List.length x1.2.1 : Int) : Int) > (2000 : Int)))) then (some false) else (f200.l38 k x1 x0 k (0 : Int))))
set_option maxRecDepth 100000 in
/-- 'spec.l2WayOk'. -/
theorem c200 (k : Nat) (x0 : ((List (Int × ((Int × Int) × (List (ByteArray × ByteArray))))) × ((List (Int × ((List Int) × (List (ByteArray × ByteArray))))) × (List (Int × ((List (Int × Bool)) × (List (ByteArray × ByteArray)))))))) (x1 : (Int × ((List Int) × (List (ByteArray × ByteArray))))) (r : Bool) (hF : f200 k x0 x1 = some r) : PCall Try.prog 200 [⟨sh22, x0⟩, ⟨sh24, x1⟩] [⟨.bool, r⟩] := by
  refine pcall_intro Try.func200 rfl rfl (Nat.le_of_ble_eq_true rfl) ?_
  intro w0 Zi a w h
  rw [f200] at hF
  refine wp_reg_seq tok (orc := orcL []) (fz := []) (l := [2, 3]) (c := _) (.inr fun i h => h) h (by kernel_rfl) (AllP.nil) ?_
  intro a w h
  refine wp_seq ?_
  obtain ⟨r1, hr73, hF⟩ := of_bind hF
  obtain ⟨r2, hr74, hF⟩ := of_bind hF
  refine wp_reg_seq tok (orc := orcL [(8, [⟨.bool, r1⟩]), (13, [⟨.bool, r2⟩])]) (fz := []) (l := [2, 3, 27]) (c := _) (.inr fun i h => h) h (by kernel_rfl) (AllP.cons (c158 k x1.1 r1 hr73) (AllP.cons (fun (hg : ((!r1) = false)) => c199 k x1.2.2 r2 (of_g hg hr74)) AllP.nil)) ?_
  intro a w h
  refine wp_if h (b := (bif (bif (bif (!r1) then true else (!r2)) then true else (decide (((List.length x1.2.1 : Int) : Int) < (2 : Int)))) then true else (decide (((List.length x1.2.1 : Int) : Int) > (2000 : Int))))) (by kernel_rfl) (fun hb => ?_) (fun hb => ?_)
  · replace hF := of_t hb hF
    refine wp_reg_seq tok (orc := orcL []) (fz := []) (l := [4]) (c := _) (.inr fun i h => h) h (by kernel_rfl) (AllP.nil) ?_
    intro a w h
    cases hF
    exact wp_ret (ret_okR tok h rfl (by kernel_rfl)).1
  · replace hF := of_f hb hF
    refine wp_skip ?_
    refine wp_seq ?_
    refine wp_reg_seq tok (orc := orcL []) (fz := []) (l := [2, 3, 5]) (c := _) (.inr fun i h => h) h (by kernel_rfl) (AllP.nil) ?_
    intro a w h
    refine wp_block ?_
    refine wp_loop_fuel (f200.l38 k x1 x0) (fun (v62 : Int) => [(2, .val sh21 (some x0)), (3, .val sh23 (some x1)), (5, .val (.int .i64) v62)]) (fun v h => by rw [f200.l38] at h; cases h) ?_ hF (h.arrive (fz := []) (l := [2, 3, 5]) (.inr fun i h => h) (by kernel_rfl))
    intro m38 v62 a w hF h
    rw [f200.l38] at hF
    refine wp_seq ?_
    refine wp_reg_seq tok (orc := orcL []) (fz := []) (l := [2, 3, 5, 32]) (c := _) (.inr fun i h => h) h (by kernel_rfl) (AllP.nil) ?_
    intro a w h
    refine wp_if h (b := (decide ((v62 : Int) < (List.length x1.2.1 : Int)))) (by kernel_rfl) (fun hb => ?_) (fun hb => ?_)
    · replace hF := of_t hb hF
      refine wp_skip ?_
      refine wp_seq <| wp_block ?_
      obtain ⟨hc69, hF⟩ := of_if hF
      obtain ⟨r68, hr70, hF⟩ := of_bind hF
      obtain ⟨hc71, hF⟩ := of_if hF
      obtain ⟨hc72, hF⟩ := of_if hF
      refine wp_regy_seq tok (orc := orcL [(41, [⟨(.int .i64), r68⟩])]) (fz := []) (l := [2, 3, 5, 60]) (c := _) ([], [], [], []) 26 (.inr fun i h => h) h (by kernel_rfl) (by kernel_rfl) (AllP.cons hc69 (AllP.cons (c138 k x0 (List.getD x1.2.1 (Int.toNat v62) (0 : Int)) r68 hr70) (AllP.cons hc71 (AllP.cons hc72 AllP.nil)))) ?_
      intro a w h
      refine wp_if h (b := (bif (decide ((r68 : Int) < (0 : Int))) then true else (bif (decide ((v62 : Int) > (0 : Int))) then (((List.getD x1.2.1 (Int.toNat v62) (0 : Int)) : Int) == (List.getD x1.2.1 (Int.toNat (IntKind.i64.wrap (v62 - (1 : Int)))) (0 : Int))) else false))) (by kernel_rfl) (fun hb => ?_) (fun hb => ?_)
      · replace hF := of_t hb hF
        refine wp_reg_seq tok (orc := orcL []) (fz := []) (l := [4]) (c := _) (.inr fun i h => h) h (by kernel_rfl) (AllP.nil) ?_
        intro a w h
        cases hF
        exact wp_ret (ret_okR tok h rfl (by kernel_rfl)).1
      · replace hF := of_f hb hF
        refine wp_skip ?_
        refine wp_reg tok (orc := orcL []) (fz := []) (l := [2, 3, 5]) (c := _) (.inr fun i h => h) h (by kernel_rfl) (AllP.nil) ?_
        intro a w h
        exact ⟨(IntKind.i64.wrap (v62 + (1 : Int))), hF, h.arrive (fz := []) (l := [2, 3, 5]) (.inr fun i h => h) (by kernel_rfl)⟩
    · replace hF := of_f hb hF
      refine wp_exit ?_
      refine wp_reg_seq tok (orc := orcL []) (fz := []) (l := [4]) (c := _) (.inr fun i h => h) h (by kernel_rfl) (AllP.nil) ?_
      intro a w h
      cases hF
      exact wp_ret (ret_okR tok h rfl (by kernel_rfl)).1

def f243.l12 (k : Nat) (x0 : ((List (Int × ((Int × Int) × (List (ByteArray × ByteArray))))) × ((List (Int × ((List Int) × (List (ByteArray × ByteArray))))) × (List (Int × ((List (Int × Bool)) × (List (ByteArray × ByteArray)))))))) (x1 : Int) : Nat → Int → Option Int
  | 0, _ => none
  | m12 + 1, v20 => if (decide ((v20 : Int) < (List.length x0.2.1 : Int))) then (if (0 ≤ v20 ∧ v20 < (List.length x0.2.1 : Int)) then (if (((List.getD x0.2.1 (Int.toNat v20) ((0 : Int), (([] : (List Int)), ([] : (List (ByteArray × ByteArray)))))).1 : Int) == x1) then (some v20) else ((f243.l12 k x0 x1) m12 (IntKind.i64.wrap (v20 + (1 : Int))))) else none) else (some (-1 : Int))
def f243 (k : Nat) (x0 : ((List (Int × ((Int × Int) × (List (ByteArray × ByteArray))))) × ((List (Int × ((List Int) × (List (ByteArray × ByteArray))))) × (List (Int × ((List (Int × Bool)) × (List (ByteArray × ByteArray)))))))) (x1 : Int) : Option Int := f243.l12 k x0 x1 k (0 : Int)
set_option maxRecDepth 100000 in
/-- 'spec.l2Way'. -/
theorem c243 (k : Nat) (x0 : ((List (Int × ((Int × Int) × (List (ByteArray × ByteArray))))) × ((List (Int × ((List Int) × (List (ByteArray × ByteArray))))) × (List (Int × ((List (Int × Bool)) × (List (ByteArray × ByteArray)))))))) (x1 : Int) (r : Int) (hF : f243 k x0 x1 = some r) : PCall Try.prog 243 [⟨sh22, x0⟩, ⟨(.int .i64), x1⟩] [⟨(.int .i64), r⟩] := by
  refine pcall_intro Try.func243 rfl rfl (Nat.le_of_ble_eq_true rfl) ?_
  intro w0 Zi a w h
  rw [f243] at hF
  refine wp_reg_seq tok (orc := orcL []) (fz := []) (l := [1, 2]) (c := _) (.inr fun i h => h) h (by kernel_rfl) (AllP.nil) ?_
  intro a w h
  refine wp_seq ?_
  refine wp_reg_seq tok (orc := orcL []) (fz := []) (l := [1, 2, 5]) (c := _) (.inr fun i h => h) h (by kernel_rfl) (AllP.nil) ?_
  intro a w h
  refine wp_block ?_
  refine wp_loop_fuel (f243.l12 k x0 x1) (fun (v20 : Int) => [(1, .val (.int .i64) x1), (2, .val sh21 (some x0)), (5, .val (.int .i64) v20)]) (fun v h => by rw [f243.l12] at h; cases h) ?_ hF (h.arrive (fz := []) (l := [1, 2, 5]) (.inr fun i h => h) (by kernel_rfl))
  intro m12 v20 a w hF h
  rw [f243.l12] at hF
  refine wp_seq ?_
  refine wp_reg_seq tok (orc := orcL []) (fz := []) (l := [1, 2, 5, 10]) (c := _) (.inr fun i h => h) h (by kernel_rfl) (AllP.nil) ?_
  intro a w h
  refine wp_if h (b := (decide ((v20 : Int) < (List.length x0.2.1 : Int)))) (by kernel_rfl) (fun hb => ?_) (fun hb => ?_)
  · replace hF := of_t hb hF
    refine wp_skip ?_
    refine wp_seq <| wp_block ?_
    obtain ⟨hc22, hF⟩ := of_if hF
    refine wp_reg_seq tok (orc := orcL []) (fz := []) (l := [1, 2, 5, 20]) (c := _) (.inr fun i h => h) h (by kernel_rfl) (AllP.cons hc22 AllP.nil) ?_
    intro a w h
    refine wp_if h (b := (((List.getD x0.2.1 (Int.toNat v20) ((0 : Int), (([] : (List Int)), ([] : (List (ByteArray × ByteArray)))))).1 : Int) == x1)) (by kernel_rfl) (fun hb => ?_) (fun hb => ?_)
    · replace hF := of_t hb hF
      refine wp_reg_seq tok (orc := orcL []) (fz := []) (l := [4]) (c := _) (.inr fun i h => h) h (by kernel_rfl) (AllP.nil) ?_
      intro a w h
      cases hF
      exact wp_ret (ret_okR tok h rfl (by kernel_rfl)).1
    · replace hF := of_f hb hF
      refine wp_skip ?_
      refine wp_reg tok (orc := orcL []) (fz := []) (l := [1, 2, 5]) (c := _) (.inr fun i h => h) h (by kernel_rfl) (AllP.nil) ?_
      intro a w h
      exact ⟨(IntKind.i64.wrap (v20 + (1 : Int))), hF, h.arrive (fz := []) (l := [1, 2, 5]) (.inr fun i h => h) (by kernel_rfl)⟩
  · replace hF := of_f hb hF
    refine wp_exit ?_
    refine wp_reg_seq tok (orc := orcL []) (fz := []) (l := [4]) (c := _) (.inr fun i h => h) h (by kernel_rfl) (AllP.nil) ?_
    intro a w h
    cases hF
    exact wp_ret (ret_okR tok h rfl (by kernel_rfl)).1

def f201.l234 (k : Nat) (v212 : Int) (x1 : (Int × ((List (Int × Bool)) × (List (ByteArray × ByteArray))))) (q128 : Int → Option Bool) : Nat → Int → Option Bool
  | 0, _ => none
  | m234 + 1, v246 => if (decide ((v246 : Int) < v212)) then (if (0 ≤ v246 ∧ v246 < (List.length x1.2.1 : Int)) then (if (0 ≤ v212 ∧ v212 < (List.length x1.2.1 : Int)) then (if (((List.getD x1.2.1 (Int.toNat v246) ((0 : Int), false)).1 : Int) == (List.getD x1.2.1 (Int.toNat v212) ((0 : Int), false)).1) then (some false) else ((f201.l234 k v212 x1 q128) m234 (IntKind.i64.wrap (v246 + (1 : Int))))) else none) else none) else (q128 (IntKind.i64.wrap (v212 + (1 : Int))))
def f201.l128 (k : Nat) (x1 : (Int × ((List (Int × Bool)) × (List (ByteArray × ByteArray))))) (x0 : ((List (Int × ((Int × Int) × (List (ByteArray × ByteArray))))) × ((List (Int × ((List Int) × (List (ByteArray × ByteArray))))) × (List (Int × ((List (Int × Bool)) × (List (ByteArray × ByteArray)))))))) : Nat → Int → Option Bool
  | 0, _ => none
  | m128 + 1, v212 => if (decide ((v212 : Int) < (List.length x1.2.1 : Int))) then (if (0 ≤ v212 ∧ v212 < (List.length x1.2.1 : Int)) then ((f243 k x0 (List.getD x1.2.1 (Int.toNat v212) ((0 : Int), false)).1).bind fun r233 => (if (decide ((r233 : Int) < (0 : Int))) then (some false) else (f201.l234 k v212 x1 ((f201.l128 k x1 x0) m128) k (0 : Int)))) else none) else (some true)
def f201 (k : Nat) (x0 : ((List (Int × ((Int × Int) × (List (ByteArray × ByteArray))))) × ((List (Int × ((List Int) × (List (ByteArray × ByteArray))))) × (List (Int × ((List (Int × Bool)) × (List (ByteArray × ByteArray)))))))) (x1 : (Int × ((List (Int × Bool)) × (List (ByteArray × ByteArray))))) : Option Bool := (f158 k x1.1).bind fun r1 => ((if ((!r1) = false) then f199 k x1.2.2 else some default).bind fun r2 => (if (bif (bif (bif (!r1) then true else (!r2)) then true else (decide (((List.length x1.2.1 : Int) : Int) < (1 : Int)))) then true else (decide (((List.length x1.2.1 : Int) : Int) > (30 : Int)))) then (some false) else (f201.l128 k x1 x0 k (0 : Int))))
set_option maxRecDepth 100000 in
/-- 'spec.l2AreaOk'. -/
theorem c201 (k : Nat) (x0 : ((List (Int × ((Int × Int) × (List (ByteArray × ByteArray))))) × ((List (Int × ((List Int) × (List (ByteArray × ByteArray))))) × (List (Int × ((List (Int × Bool)) × (List (ByteArray × ByteArray)))))))) (x1 : (Int × ((List (Int × Bool)) × (List (ByteArray × ByteArray))))) (r : Bool) (hF : f201 k x0 x1 = some r) : PCall Try.prog 201 [⟨sh22, x0⟩, ⟨sh26, x1⟩] [⟨.bool, r⟩] := by
  refine pcall_intro Try.func201 rfl rfl (Nat.le_of_ble_eq_true rfl) ?_
  intro w0 Zi a w h
  rw [f201] at hF
  refine wp_reg_seq tok (orc := orcL []) (fz := []) (l := [2, 3]) (c := _) (.inr fun i h => h) h (by kernel_rfl) (AllP.nil) ?_
  intro a w h
  refine wp_seq ?_
  obtain ⟨r1, hr253, hF⟩ := of_bind hF
  obtain ⟨r2, hr254, hF⟩ := of_bind hF
  refine wp_reg_seq tok (orc := orcL [(9, [⟨.bool, r1⟩]), (14, [⟨.bool, r2⟩])]) (fz := []) (l := [2, 3, 28]) (c := _) (.inr fun i h => h) h (by kernel_rfl) (AllP.cons (c158 k x1.1 r1 hr253) (AllP.cons (fun (hg : ((!r1) = false)) => c199 k x1.2.2 r2 (of_g hg hr254)) AllP.nil)) ?_
  intro a w h
  refine wp_if h (b := (bif (bif (bif (!r1) then true else (!r2)) then true else (decide (((List.length x1.2.1 : Int) : Int) < (1 : Int)))) then true else (decide (((List.length x1.2.1 : Int) : Int) > (30 : Int))))) (by kernel_rfl) (fun hb => ?_) (fun hb => ?_)
  · replace hF := of_t hb hF
    refine wp_reg_seq tok (orc := orcL []) (fz := []) (l := [4]) (c := _) (.inr fun i h => h) h (by kernel_rfl) (AllP.nil) ?_
    intro a w h
    cases hF
    exact wp_ret (ret_okR tok h rfl (by kernel_rfl)).1
  · replace hF := of_f hb hF
    refine wp_skip ?_
    refine wp_seq ?_
    refine wp_reg_seq tok (orc := orcL []) (fz := []) (l := [2, 3, 5]) (c := _) (.inr fun i h => h) h (by kernel_rfl) (AllP.nil) ?_
    intro a w h
    refine wp_block ?_
    refine wp_loop_fuel (f201.l128 k x1 x0) (fun (v212 : Int) => [(2, .val sh21 (some x0)), (3, .val sh25 (some x1)), (5, .val (.int .i64) v212)]) (fun v h => by rw [f201.l128] at h; cases h) ?_ hF (h.arrive (fz := []) (l := [2, 3, 5]) (.inr fun i h => h) (by kernel_rfl))
    intro m128 v212 a w hF h
    rw [f201.l128] at hF
    refine wp_seq ?_
    refine wp_reg_seq tok (orc := orcL []) (fz := []) (l := [2, 3, 5, 33]) (c := _) (.inr fun i h => h) h (by kernel_rfl) (AllP.nil) ?_
    intro a w h
    refine wp_if h (b := (decide ((v212 : Int) < (List.length x1.2.1 : Int)))) (by kernel_rfl) (fun hb => ?_) (fun hb => ?_)
    · replace hF := of_t hb hF
      refine wp_skip ?_
      refine wp_seq <| wp_block ?_
      refine wp_seq ?_
      obtain ⟨hc251, hF⟩ := of_if hF
      obtain ⟨r233, hr252, hF⟩ := of_bind hF
      refine wp_regy_seq tok (orc := orcL [(43, [⟨(.int .i64), r233⟩])]) (fz := []) (l := [2, 3, 5, 44]) (c := _) ([], [], [], []) 9 (.inr fun i h => h) h (by kernel_rfl) (by kernel_rfl) (AllP.cons hc251 (AllP.cons (c243 k x0 (List.getD x1.2.1 (Int.toNat v212) ((0 : Int), false)).1 r233 hr252) AllP.nil)) ?_
      intro a w h
      refine wp_if h (b := (decide ((r233 : Int) < (0 : Int)))) (by kernel_rfl) (fun hb => ?_) (fun hb => ?_)
      · replace hF := of_t hb hF
        refine wp_reg_seq tok (orc := orcL []) (fz := []) (l := [4]) (c := _) (.inr fun i h => h) h (by kernel_rfl) (AllP.nil) ?_
        intro a w h
        cases hF
        exact wp_ret (ret_okR tok h rfl (by kernel_rfl)).1
      · replace hF := of_f hb hF
        refine wp_skip ?_
        refine wp_reg_seq tok (orc := orcL []) (fz := []) (l := [2, 3, 5, 6]) (c := _) (.inr fun i h => h) h (by kernel_rfl) (AllP.nil) ?_
        intro a w h
        refine wp_block ?_
        refine wp_loop_fuel (f201.l234 k v212 x1 ((f201.l128 k x1 x0) m128)) (fun (v246 : Int) => [(2, .val sh21 (some x0)), (3, .val sh25 (some x1)), (5, .val (.int .i64) v212), (6, .val (.int .i64) v246)]) (fun v h => by rw [f201.l234] at h; cases h) ?_ hF (h.arrive (fz := []) (l := [2, 3, 5, 6]) (.inr fun i h => h) (by kernel_rfl))
        intro m234 v246 a w hF h
        rw [f201.l234] at hF
        refine wp_seq ?_
        refine wp_reg_seq tok (orc := orcL []) (fz := []) (l := [2, 3, 5, 6, 47]) (c := _) (.inr fun i h => h) h (by kernel_rfl) (AllP.nil) ?_
        intro a w h
        refine wp_if h (b := (decide ((v246 : Int) < v212))) (by kernel_rfl) (fun hb => ?_) (fun hb => ?_)
        · replace hF := of_t hb hF
          refine wp_skip ?_
          refine wp_seq <| wp_block ?_
          obtain ⟨hc249, hF⟩ := of_if hF
          obtain ⟨hc250, hF⟩ := of_if hF
          refine wp_regy_seq tok (orc := orcL []) (fz := []) (l := [2, 3, 5, 6, 62]) (c := _) ([], [], [], []) 13 (.inr fun i h => h) h (by kernel_rfl) (by kernel_rfl) (AllP.cons hc249 (AllP.cons hc250 AllP.nil)) ?_
          intro a w h
          refine wp_if h (b := (((List.getD x1.2.1 (Int.toNat v246) ((0 : Int), false)).1 : Int) == (List.getD x1.2.1 (Int.toNat v212) ((0 : Int), false)).1)) (by kernel_rfl) (fun hb => ?_) (fun hb => ?_)
          · replace hF := of_t hb hF
            refine wp_reg_seq tok (orc := orcL []) (fz := []) (l := [4]) (c := _) (.inr fun i h => h) h (by kernel_rfl) (AllP.nil) ?_
            intro a w h
            cases hF
            exact wp_ret (ret_okR tok h rfl (by kernel_rfl)).1
          · replace hF := of_f hb hF
            refine wp_skip ?_
            refine wp_reg tok (orc := orcL []) (fz := []) (l := [2, 3, 5, 6]) (c := _) (.inr fun i h => h) h (by kernel_rfl) (AllP.nil) ?_
            intro a w h
            exact ⟨(IntKind.i64.wrap (v246 + (1 : Int))), hF, h.arrive (fz := []) (l := [2, 3, 5, 6]) (.inr fun i h => h) (by kernel_rfl)⟩
        · replace hF := of_f hb hF
          refine wp_exit ?_
          refine wp_reg tok (orc := orcL []) (fz := []) (l := [2, 3, 5]) (c := _) (.inr fun i h => h) h (by kernel_rfl) (AllP.nil) ?_
          intro a w h
          exact ⟨(IntKind.i64.wrap (v212 + (1 : Int))), hF, h.arrive (fz := []) (l := [2, 3, 5]) (.inr fun i h => h) (by kernel_rfl)⟩
    · replace hF := of_f hb hF
      refine wp_exit ?_
      refine wp_reg_seq tok (orc := orcL []) (fz := []) (l := [4]) (c := _) (.inr fun i h => h) h (by kernel_rfl) (AllP.nil) ?_
      intro a w h
      cases hF
      exact wp_ret (ret_okR tok h rfl (by kernel_rfl)).1

def f136.l212 (k : Nat) (x0 : ((List (Int × ((Int × Int) × (List (ByteArray × ByteArray))))) × ((List (Int × ((List Int) × (List (ByteArray × ByteArray))))) × (List (Int × ((List (Int × Bool)) × (List (ByteArray × ByteArray)))))))) : Nat → Int → Option Bool
  | 0, _ => none
  | m212 + 1, v236 => if (decide ((v236 : Int) < (List.length x0.2.2 : Int))) then (if (0 ≤ v236 ∧ v236 < (List.length x0.2.2 : Int)) then ((f201 k x0 (List.getD x0.2.2 (Int.toNat v236) ((0 : Int), (([] : (List (Int × Bool))), ([] : (List (ByteArray × ByteArray))))))).bind fun r242 => (if ((((!r242) = false) ∧ ((decide ((v236 : Int) > (0 : Int))) = true)) → (0 ≤ (IntKind.i64.wrap (v236 - (1 : Int))) ∧ (IntKind.i64.wrap (v236 - (1 : Int))) < (List.length x0.2.2 : Int))) then (if ((((!r242) = false) ∧ ((decide ((v236 : Int) > (0 : Int))) = true)) → (0 ≤ v236 ∧ v236 < (List.length x0.2.2 : Int))) then (if (bif (!r242) then true else (bif (decide ((v236 : Int) > (0 : Int))) then (decide (((List.getD x0.2.2 (Int.toNat (IntKind.i64.wrap (v236 - (1 : Int)))) ((0 : Int), (([] : (List (Int × Bool))), ([] : (List (ByteArray × ByteArray)))))).1 : Int) ≥ (List.getD x0.2.2 (Int.toNat v236) ((0 : Int), (([] : (List (Int × Bool))), ([] : (List (ByteArray × ByteArray)))))).1)) else false)) then (some false) else ((f136.l212 k x0) m212 (IntKind.i64.wrap (v236 + (1 : Int))))) else none) else none)) else none) else (some true)
def f136.l142 (k : Nat) (x0 : ((List (Int × ((Int × Int) × (List (ByteArray × ByteArray))))) × ((List (Int × ((List Int) × (List (ByteArray × ByteArray))))) × (List (Int × ((List (Int × Bool)) × (List (ByteArray × ByteArray)))))))) : Nat → Int → Option Bool
  | 0, _ => none
  | m142 + 1, v166 => if (decide ((v166 : Int) < (List.length x0.2.1 : Int))) then (if (0 ≤ v166 ∧ v166 < (List.length x0.2.1 : Int)) then ((f200 k x0 (List.getD x0.2.1 (Int.toNat v166) ((0 : Int), (([] : (List Int)), ([] : (List (ByteArray × ByteArray))))))).bind fun r172 => (if ((((!r172) = false) ∧ ((decide ((v166 : Int) > (0 : Int))) = true)) → (0 ≤ (IntKind.i64.wrap (v166 - (1 : Int))) ∧ (IntKind.i64.wrap (v166 - (1 : Int))) < (List.length x0.2.1 : Int))) then (if ((((!r172) = false) ∧ ((decide ((v166 : Int) > (0 : Int))) = true)) → (0 ≤ v166 ∧ v166 < (List.length x0.2.1 : Int))) then (if (bif (!r172) then true else (bif (decide ((v166 : Int) > (0 : Int))) then (decide (((List.getD x0.2.1 (Int.toNat (IntKind.i64.wrap (v166 - (1 : Int)))) ((0 : Int), (([] : (List Int)), ([] : (List (ByteArray × ByteArray)))))).1 : Int) ≥ (List.getD x0.2.1 (Int.toNat v166) ((0 : Int), (([] : (List Int)), ([] : (List (ByteArray × ByteArray)))))).1)) else false)) then (some false) else ((f136.l142 k x0) m142 (IntKind.i64.wrap (v166 + (1 : Int))))) else none) else none)) else none) else (f136.l212 k x0 k (0 : Int))
def f136.l54 (k : Nat) (x0 : ((List (Int × ((Int × Int) × (List (ByteArray × ByteArray))))) × ((List (Int × ((List Int) × (List (ByteArray × ByteArray))))) × (List (Int × ((List (Int × Bool)) × (List (ByteArray × ByteArray)))))))) : Nat → Int → Option Bool
  | 0, _ => none
  | m54 + 1, v90 => if (decide ((v90 : Int) < (List.length x0.1 : Int))) then (if (0 ≤ v90 ∧ v90 < (List.length x0.1 : Int)) then ((f158 k (List.getD x0.1 (Int.toNat v90) ((0 : Int), (((0 : Int), (0 : Int)), ([] : (List (ByteArray × ByteArray)))))).1).bind fun r99 => ((if ((!r99) = false) then f159 k (List.getD x0.1 (Int.toNat v90) ((0 : Int), (((0 : Int), (0 : Int)), ([] : (List (ByteArray × ByteArray)))))).2.1 else some default).bind fun r100 => ((if ((bif (!r99) then true else (!r100)) = false) then f199 k (List.getD x0.1 (Int.toNat v90) ((0 : Int), (((0 : Int), (0 : Int)), ([] : (List (ByteArray × ByteArray)))))).2.2 else some default).bind fun r101 => (if ((((bif (bif (!r99) then true else (!r100)) then true else (!r101)) = false) ∧ ((decide ((v90 : Int) > (0 : Int))) = true)) → (0 ≤ (IntKind.i64.wrap (v90 - (1 : Int))) ∧ (IntKind.i64.wrap (v90 - (1 : Int))) < (List.length x0.1 : Int))) then (if (bif (bif (bif (!r99) then true else (!r100)) then true else (!r101)) then true else (bif (decide ((v90 : Int) > (0 : Int))) then (decide (((List.getD x0.1 (Int.toNat (IntKind.i64.wrap (v90 - (1 : Int)))) ((0 : Int), (((0 : Int), (0 : Int)), ([] : (List (ByteArray × ByteArray)))))).1 : Int) ≥ (List.getD x0.1 (Int.toNat v90) ((0 : Int), (((0 : Int), (0 : Int)), ([] : (List (ByteArray × ByteArray)))))).1)) else false)) then (some false) else ((f136.l54 k x0) m54 (IntKind.i64.wrap (v90 + (1 : Int))))) else none)))) else none) else (f136.l142 k x0 k (0 : Int))
def f136 (k : Nat) (x0 : ((List (Int × ((Int × Int) × (List (ByteArray × ByteArray))))) × ((List (Int × ((List Int) × (List (ByteArray × ByteArray))))) × (List (Int × ((List (Int × Bool)) × (List (ByteArray × ByteArray)))))))) : Option Bool := if (bif (bif (decide (((List.length x0.1 : Int) : Int) > (5000 : Int))) then true else (decide (((List.length x0.2.1 : Int) : Int) > (1000 : Int)))) then true else (decide (((List.length x0.2.2 : Int) : Int) > (300 : Int)))) then (some false) else (f136.l54 k x0 k (0 : Int))
set_option maxRecDepth 100000 in
/-- 'spec.MapOk'. -/
theorem c136 (k : Nat) (x0 : ((List (Int × ((Int × Int) × (List (ByteArray × ByteArray))))) × ((List (Int × ((List Int) × (List (ByteArray × ByteArray))))) × (List (Int × ((List (Int × Bool)) × (List (ByteArray × ByteArray)))))))) (r : Bool) (hF : f136 k x0 = some r) : PCall Try.prog 136 [⟨sh22, x0⟩] [⟨.bool, r⟩] := by
  refine pcall_intro Try.func136 rfl rfl (Nat.le_of_ble_eq_true rfl) ?_
  intro w0 Zi a w h
  rw [f136] at hF
  refine wp_reg_seq tok (orc := orcL []) (fz := []) (l := [1]) (c := _) (.inr fun i h => h) h (by kernel_rfl) (AllP.nil) ?_
  intro a w h
  refine wp_seq ?_
  refine wp_reg_seq tok (orc := orcL []) (fz := []) (l := [1, 22]) (c := _) (.inr fun i h => h) h (by kernel_rfl) (AllP.nil) ?_
  intro a w h
  refine wp_if h (b := (bif (bif (decide (((List.length x0.1 : Int) : Int) > (5000 : Int))) then true else (decide (((List.length x0.2.1 : Int) : Int) > (1000 : Int)))) then true else (decide (((List.length x0.2.2 : Int) : Int) > (300 : Int))))) (by kernel_rfl) (fun hb => ?_) (fun hb => ?_)
  · replace hF := of_t hb hF
    refine wp_reg_seq tok (orc := orcL []) (fz := []) (l := [2]) (c := _) (.inr fun i h => h) h (by kernel_rfl) (AllP.nil) ?_
    intro a w h
    cases hF
    exact wp_ret (ret_okR tok h rfl (by kernel_rfl)).1
  · replace hF := of_f hb hF
    refine wp_skip ?_
    refine wp_seq ?_
    refine wp_reg_seq tok (orc := orcL []) (fz := []) (l := [1, 3]) (c := _) (.inr fun i h => h) h (by kernel_rfl) (AllP.nil) ?_
    intro a w h
    refine wp_block ?_
    refine wp_loop_fuel (f136.l54 k x0) (fun (v90 : Int) => [(1, .val sh21 (some x0)), (3, .val (.int .i64) v90)]) (fun v h => by rw [f136.l54] at h; cases h) ?_ hF (h.arrive (fz := []) (l := [1, 3]) (.inr fun i h => h) (by kernel_rfl))
    intro m54 v90 a w hF h
    rw [f136.l54] at hF
    refine wp_seq ?_
    refine wp_reg_seq tok (orc := orcL []) (fz := []) (l := [1, 3, 27]) (c := _) (.inr fun i h => h) h (by kernel_rfl) (AllP.nil) ?_
    intro a w h
    refine wp_if h (b := (decide ((v90 : Int) < (List.length x0.1 : Int)))) (by kernel_rfl) (fun hb => ?_) (fun hb => ?_)
    · replace hF := of_t hb hF
      refine wp_skip ?_
      refine wp_seq <| wp_block ?_
      obtain ⟨hc106, hF⟩ := of_if hF
      refine wp_reg_seq tok (orc := orcL []) (fz := []) (l := [1, 3, 4]) (c := _) (.inr fun i h => h) h (by kernel_rfl) (AllP.cons hc106 AllP.nil) ?_
      intro a w h
      obtain ⟨r99, hr102, hF⟩ := of_bind hF
      obtain ⟨r100, hr103, hF⟩ := of_bind hF
      obtain ⟨r101, hr104, hF⟩ := of_bind hF
      obtain ⟨hc105, hF⟩ := of_if hF
      refine wp_regy_seq tok (orc := orcL [(37, [⟨.bool, r99⟩]), (42, [⟨.bool, r100⟩]), (48, [⟨.bool, r101⟩])]) (fz := []) (l := [1, 3, 66]) (c := _) ([], [], [], []) 32 (.inr fun i h => h) h (by kernel_rfl) (by kernel_rfl) (AllP.cons (c158 k (List.getD x0.1 (Int.toNat v90) ((0 : Int), (((0 : Int), (0 : Int)), ([] : (List (ByteArray × ByteArray)))))).1 r99 hr102) (AllP.cons (fun (hg : ((!r99) = false)) => c159 k (List.getD x0.1 (Int.toNat v90) ((0 : Int), (((0 : Int), (0 : Int)), ([] : (List (ByteArray × ByteArray)))))).2.1 r100 (of_g hg hr103)) (AllP.cons (fun (hg : ((bif (!r99) then true else (!r100)) = false)) => c199 k (List.getD x0.1 (Int.toNat v90) ((0 : Int), (((0 : Int), (0 : Int)), ([] : (List (ByteArray × ByteArray)))))).2.2 r101 (of_g hg hr104)) (AllP.cons hc105 AllP.nil)))) ?_
      intro a w h
      refine wp_if h (b := (bif (bif (bif (!r99) then true else (!r100)) then true else (!r101)) then true else (bif (decide ((v90 : Int) > (0 : Int))) then (decide (((List.getD x0.1 (Int.toNat (IntKind.i64.wrap (v90 - (1 : Int)))) ((0 : Int), (((0 : Int), (0 : Int)), ([] : (List (ByteArray × ByteArray)))))).1 : Int) ≥ (List.getD x0.1 (Int.toNat v90) ((0 : Int), (((0 : Int), (0 : Int)), ([] : (List (ByteArray × ByteArray)))))).1)) else false))) (by kernel_rfl) (fun hb => ?_) (fun hb => ?_)
      · replace hF := of_t hb hF
        refine wp_reg_seq tok (orc := orcL []) (fz := []) (l := [2]) (c := _) (.inr fun i h => h) h (by kernel_rfl) (AllP.nil) ?_
        intro a w h
        cases hF
        exact wp_ret (ret_okR tok h rfl (by kernel_rfl)).1
      · replace hF := of_f hb hF
        refine wp_skip ?_
        refine wp_reg tok (orc := orcL []) (fz := []) (l := [1, 3]) (c := _) (.inr fun i h => h) h (by kernel_rfl) (AllP.nil) ?_
        intro a w h
        exact ⟨(IntKind.i64.wrap (v90 + (1 : Int))), hF, h.arrive (fz := []) (l := [1, 3]) (.inr fun i h => h) (by kernel_rfl)⟩
    · replace hF := of_f hb hF
      refine wp_exit ?_
      refine wp_seq ?_
      refine wp_reg_seq tok (orc := orcL []) (fz := []) (l := [1, 5]) (c := _) (.inr fun i h => h) h (by kernel_rfl) (AllP.nil) ?_
      intro a w h
      refine wp_block ?_
      refine wp_loop_fuel (f136.l142 k x0) (fun (v166 : Int) => [(1, .val sh21 (some x0)), (5, .val (.int .i64) v166)]) (fun v h => by rw [f136.l142] at h; cases h) ?_ hF (h.arrive (fz := []) (l := [1, 5]) (.inr fun i h => h) (by kernel_rfl))
      intro m142 v166 a w hF h
      rw [f136.l142] at hF
      refine wp_seq ?_
      refine wp_reg_seq tok (orc := orcL []) (fz := []) (l := [1, 5, 71]) (c := _) (.inr fun i h => h) h (by kernel_rfl) (AllP.nil) ?_
      intro a w h
      refine wp_if h (b := (decide ((v166 : Int) < (List.length x0.2.1 : Int)))) (by kernel_rfl) (fun hb => ?_) (fun hb => ?_)
      · replace hF := of_t hb hF
        refine wp_skip ?_
        refine wp_seq <| wp_block ?_
        obtain ⟨hc173, hF⟩ := of_if hF
        obtain ⟨r172, hr174, hF⟩ := of_bind hF
        obtain ⟨hc175, hF⟩ := of_if hF
        obtain ⟨hc176, hF⟩ := of_if hF
        refine wp_regy_seq tok (orc := orcL [(80, [⟨.bool, r172⟩])]) (fz := []) (l := [1, 5, 101]) (c := _) ([], [], [], []) 28 (.inr fun i h => h) h (by kernel_rfl) (by kernel_rfl) (AllP.cons hc173 (AllP.cons (c200 k x0 (List.getD x0.2.1 (Int.toNat v166) ((0 : Int), (([] : (List Int)), ([] : (List (ByteArray × ByteArray)))))) r172 hr174) (AllP.cons hc175 (AllP.cons hc176 AllP.nil)))) ?_
        intro a w h
        refine wp_if h (b := (bif (!r172) then true else (bif (decide ((v166 : Int) > (0 : Int))) then (decide (((List.getD x0.2.1 (Int.toNat (IntKind.i64.wrap (v166 - (1 : Int)))) ((0 : Int), (([] : (List Int)), ([] : (List (ByteArray × ByteArray)))))).1 : Int) ≥ (List.getD x0.2.1 (Int.toNat v166) ((0 : Int), (([] : (List Int)), ([] : (List (ByteArray × ByteArray)))))).1)) else false))) (by kernel_rfl) (fun hb => ?_) (fun hb => ?_)
        · replace hF := of_t hb hF
          refine wp_reg_seq tok (orc := orcL []) (fz := []) (l := [2]) (c := _) (.inr fun i h => h) h (by kernel_rfl) (AllP.nil) ?_
          intro a w h
          cases hF
          exact wp_ret (ret_okR tok h rfl (by kernel_rfl)).1
        · replace hF := of_f hb hF
          refine wp_skip ?_
          refine wp_reg tok (orc := orcL []) (fz := []) (l := [1, 5]) (c := _) (.inr fun i h => h) h (by kernel_rfl) (AllP.nil) ?_
          intro a w h
          exact ⟨(IntKind.i64.wrap (v166 + (1 : Int))), hF, h.arrive (fz := []) (l := [1, 5]) (.inr fun i h => h) (by kernel_rfl)⟩
      · replace hF := of_f hb hF
        refine wp_exit ?_
        refine wp_seq ?_
        refine wp_reg_seq tok (orc := orcL []) (fz := []) (l := [1, 6]) (c := _) (.inr fun i h => h) h (by kernel_rfl) (AllP.nil) ?_
        intro a w h
        refine wp_block ?_
        refine wp_loop_fuel (f136.l212 k x0) (fun (v236 : Int) => [(1, .val sh21 (some x0)), (6, .val (.int .i64) v236)]) (fun v h => by rw [f136.l212] at h; cases h) ?_ hF (h.arrive (fz := []) (l := [1, 6]) (.inr fun i h => h) (by kernel_rfl))
        intro m212 v236 a w hF h
        rw [f136.l212] at hF
        refine wp_seq ?_
        refine wp_reg_seq tok (orc := orcL []) (fz := []) (l := [1, 6, 106]) (c := _) (.inr fun i h => h) h (by kernel_rfl) (AllP.nil) ?_
        intro a w h
        refine wp_if h (b := (decide ((v236 : Int) < (List.length x0.2.2 : Int)))) (by kernel_rfl) (fun hb => ?_) (fun hb => ?_)
        · replace hF := of_t hb hF
          refine wp_skip ?_
          refine wp_seq <| wp_block ?_
          obtain ⟨hc243, hF⟩ := of_if hF
          obtain ⟨r242, hr244, hF⟩ := of_bind hF
          obtain ⟨hc245, hF⟩ := of_if hF
          obtain ⟨hc246, hF⟩ := of_if hF
          refine wp_regy_seq tok (orc := orcL [(115, [⟨.bool, r242⟩])]) (fz := []) (l := [1, 6, 136]) (c := _) ([], [], [], []) 28 (.inr fun i h => h) h (by kernel_rfl) (by kernel_rfl) (AllP.cons hc243 (AllP.cons (c201 k x0 (List.getD x0.2.2 (Int.toNat v236) ((0 : Int), (([] : (List (Int × Bool))), ([] : (List (ByteArray × ByteArray)))))) r242 hr244) (AllP.cons hc245 (AllP.cons hc246 AllP.nil)))) ?_
          intro a w h
          refine wp_if h (b := (bif (!r242) then true else (bif (decide ((v236 : Int) > (0 : Int))) then (decide (((List.getD x0.2.2 (Int.toNat (IntKind.i64.wrap (v236 - (1 : Int)))) ((0 : Int), (([] : (List (Int × Bool))), ([] : (List (ByteArray × ByteArray)))))).1 : Int) ≥ (List.getD x0.2.2 (Int.toNat v236) ((0 : Int), (([] : (List (Int × Bool))), ([] : (List (ByteArray × ByteArray)))))).1)) else false))) (by kernel_rfl) (fun hb => ?_) (fun hb => ?_)
          · replace hF := of_t hb hF
            refine wp_reg_seq tok (orc := orcL []) (fz := []) (l := [2]) (c := _) (.inr fun i h => h) h (by kernel_rfl) (AllP.nil) ?_
            intro a w h
            cases hF
            exact wp_ret (ret_okR tok h rfl (by kernel_rfl)).1
          · replace hF := of_f hb hF
            refine wp_skip ?_
            refine wp_reg tok (orc := orcL []) (fz := []) (l := [1, 6]) (c := _) (.inr fun i h => h) h (by kernel_rfl) (AllP.nil) ?_
            intro a w h
            exact ⟨(IntKind.i64.wrap (v236 + (1 : Int))), hF, h.arrive (fz := []) (l := [1, 6]) (.inr fun i h => h) (by kernel_rfl)⟩
        · replace hF := of_f hb hF
          refine wp_exit ?_
          refine wp_reg_seq tok (orc := orcL []) (fz := []) (l := [2]) (c := _) (.inr fun i h => h) h (by kernel_rfl) (AllP.nil) ?_
          intro a w h
          cases hF
          exact wp_ret (ret_okR tok h rfl (by kernel_rfl)).1

def f141.l18 (k : Nat) (x0 : (List (ByteArray × ByteArray))) (x1 : ByteArray) : Nat → Int → Option ByteArray
  | 0, _ => none
  | m18 + 1, v30 => if (decide ((v30 : Int) < (List.length x0 : Int))) then (if (0 ≤ v30 ∧ v30 < (List.length x0 : Int)) then (if (ByteArray.toList (List.getD x0 (Int.toNat v30) ((⟨#[]⟩ : ByteArray), (⟨#[]⟩ : ByteArray))).1 == ByteArray.toList x1) then (if (0 ≤ v30 ∧ v30 < (List.length x0 : Int)) then (some (List.getD x0 (Int.toNat v30) ((⟨#[]⟩ : ByteArray), (⟨#[]⟩ : ByteArray))).2) else none) else ((f141.l18 k x0 x1) m18 (IntKind.i64.wrap (v30 + (1 : Int))))) else none) else (some (⟨#[]⟩ : ByteArray))
def f141 (k : Nat) (x0 : (List (ByteArray × ByteArray))) (x1 : ByteArray) : Option ByteArray := f141.l18 k x0 x1 k (0 : Int)
set_option maxRecDepth 100000 in
/-- 'spec.TagOf'. -/
theorem c141 (k : Nat) (x0 : (List (ByteArray × ByteArray))) (x1 : ByteArray) (r : ByteArray) (hF : f141 k x0 x1 = some r) : PCall Try.prog 141 [⟨sh20, x0⟩, ⟨.str, x1⟩] [⟨.str, r⟩] := by
  refine pcall_intro Try.func141 rfl rfl (Nat.le_of_ble_eq_true rfl) ?_
  intro w0 Zi a w h
  rw [f141] at hF
  refine wp_reg_seq tok (orc := orcL []) (fz := []) (l := [0, 1]) (c := _) (.inr fun i h => h) h (by kernel_rfl) (AllP.nil) ?_
  intro a w h
  refine wp_seq ?_
  refine wp_reg_seq tok (orc := orcL []) (fz := []) (l := [0, 1, 5]) (c := _) (.inr fun i h => h) h (by kernel_rfl) (AllP.nil) ?_
  intro a w h
  refine wp_block ?_
  refine wp_loop_fuel (f141.l18 k x0 x1) (fun (v30 : Int) => [(0, .val sh20 x0), (1, .val .str x1), (5, .val (.int .i64) v30)]) (fun v h => by rw [f141.l18] at h; cases h) ?_ hF (h.arrive (fz := []) (l := [0, 1, 5]) (.inr fun i h => h) (by kernel_rfl))
  intro m18 v30 a w hF h
  rw [f141.l18] at hF
  refine wp_seq ?_
  refine wp_reg_seq tok (orc := orcL []) (fz := []) (l := [0, 1, 5, 9]) (c := _) (.inr fun i h => h) h (by kernel_rfl) (AllP.nil) ?_
  intro a w h
  refine wp_if h (b := (decide ((v30 : Int) < (List.length x0 : Int)))) (by kernel_rfl) (fun hb => ?_) (fun hb => ?_)
  · replace hF := of_t hb hF
    refine wp_skip ?_
    refine wp_seq <| wp_block ?_
    obtain ⟨hc34, hF⟩ := of_if hF
    refine wp_reg_seq tok (orc := orcL []) (fz := []) (l := [0, 1, 5, 18]) (c := _) (.inr fun i h => h) h (by kernel_rfl) (AllP.cons hc34 AllP.nil) ?_
    intro a w h
    refine wp_if h (b := (ByteArray.toList (List.getD x0 (Int.toNat v30) ((⟨#[]⟩ : ByteArray), (⟨#[]⟩ : ByteArray))).1 == ByteArray.toList x1)) (by kernel_rfl) (fun hb => ?_) (fun hb => ?_)
    · replace hF := of_t hb hF
      obtain ⟨hc33, hF⟩ := of_if hF
      refine wp_reg_seq tok (orc := orcL []) (fz := []) (l := [4]) (c := _) (.inr fun i h => h) h (by kernel_rfl) (AllP.cons hc33 AllP.nil) ?_
      intro a w h
      cases hF
      exact wp_ret (ret_okR tok h rfl (by kernel_rfl)).1
    · replace hF := of_f hb hF
      refine wp_skip ?_
      refine wp_reg tok (orc := orcL []) (fz := []) (l := [0, 1, 5]) (c := _) (.inr fun i h => h) h (by kernel_rfl) (AllP.nil) ?_
      intro a w h
      exact ⟨(IntKind.i64.wrap (v30 + (1 : Int))), hF, h.arrive (fz := []) (l := [0, 1, 5]) (.inr fun i h => h) (by kernel_rfl)⟩
  · replace hF := of_f hb hF
    refine wp_exit ?_
    refine wp_reg_seq tok (orc := orcL []) (fz := []) (l := [4]) (c := _) (.inr fun i h => h) h (by kernel_rfl) (AllP.nil) ?_
    intro a w h
    cases hF
    exact wp_ret (ret_okR tok h rfl (by kernel_rfl)).1

def f202.l28 (k : Nat) (x0 : ByteArray) (x1 : Int) : Nat → (Int × Int) → Option Int
  | 0, _ => none
  | m28 + 1, (v47, v48) => if (decide ((v48 : Int) < (ByteArray.size x0 : Int))) then (if ((0 : Int) ≤ v48 ∧ (v48 : Int) < (ByteArray.size x0 : Int)) then (if (((decide (((byteAt x0 v48) : Int) < (48 : Int))) = false) → ((0 : Int) ≤ v48 ∧ (v48 : Int) < (ByteArray.size x0 : Int))) then (if (bif (decide (((byteAt x0 v48) : Int) < (48 : Int))) then true else (decide (((byteAt x0 v48) : Int) > (57 : Int)))) then (some (-1 : Int)) else (if ((0 : Int) ≤ v48 ∧ (v48 : Int) < (ByteArray.size x0 : Int)) then ((f202.l28 k x0 x1) m28 ((IntKind.i64.wrap ((IntKind.i64.wrap (v47 * (10 : Int))) + (IntKind.i64.wrap (IntKind.u8.wrap ((byteAt x0 v48) - (48 : Int)))))), (IntKind.i64.wrap (v48 + (1 : Int))))) else none)) else none) else none) else (if (decide ((v47 : Int) > x1)) then (some (-1 : Int)) else (some v47))
def f202 (k : Nat) (x0 : ByteArray) (x1 : Int) : Option Int := if (bif (((ByteArray.size x0 : Int) : Int) == (0 : Int)) then true else (decide (((ByteArray.size x0 : Int) : Int) > (10 : Int)))) then (some (-1 : Int)) else (f202.l28 k x0 x1 k ((0 : Int), (0 : Int)))
set_option maxRecDepth 100000 in
/-- 'spec.l7Number'. -/
theorem c202 (k : Nat) (x0 : ByteArray) (x1 : Int) (r : Int) (hF : f202 k x0 x1 = some r) : PCall Try.prog 202 [⟨.str, x0⟩, ⟨(.int .i64), x1⟩] [⟨(.int .i64), r⟩] := by
  refine pcall_intro Try.func202 rfl rfl (Nat.le_of_ble_eq_true rfl) ?_
  intro w0 Zi a w h
  rw [f202] at hF
  refine wp_reg_seq tok (orc := orcL []) (fz := []) (l := [0, 1]) (c := _) (.inr fun i h => h) h (by kernel_rfl) (AllP.nil) ?_
  intro a w h
  refine wp_reg_seq tok (orc := orcL []) (fz := []) (l := [0, 1, 5]) (c := _) (.inr fun i h => h) h (by kernel_rfl) (AllP.nil) ?_
  intro a w h
  refine wp_seq ?_
  refine wp_reg_seq tok (orc := orcL []) (fz := []) (l := [0, 1, 5, 14]) (c := _) (.inr fun i h => h) h (by kernel_rfl) (AllP.nil) ?_
  intro a w h
  refine wp_if h (b := (bif (((ByteArray.size x0 : Int) : Int) == (0 : Int)) then true else (decide (((ByteArray.size x0 : Int) : Int) > (10 : Int))))) (by kernel_rfl) (fun hb => ?_) (fun hb => ?_)
  · replace hF := of_t hb hF
    refine wp_reg_seq tok (orc := orcL []) (fz := []) (l := [4]) (c := _) (.inr fun i h => h) h (by kernel_rfl) (AllP.nil) ?_
    intro a w h
    cases hF
    exact wp_ret (ret_okR tok h rfl (by kernel_rfl)).1
  · replace hF := of_f hb hF
    refine wp_skip ?_
    refine wp_seq ?_
    refine wp_reg_seq tok (orc := orcL []) (fz := []) (l := [0, 1, 5, 6]) (c := _) (.inr fun i h => h) h (by kernel_rfl) (AllP.nil) ?_
    intro a w h
    refine wp_block ?_
    refine wp_loop_fuel (f202.l28 k x0 x1) (fun ((v47, v48) : (Int × Int)) => [(0, .val .str x0), (1, .val (.int .i64) x1), (5, .val (.int .i64) v47), (6, .val (.int .i64) v48)]) (fun v h => by obtain ⟨v47, v48⟩ := v; rw [f202.l28] at h; cases h) ?_ hF (h.arrive (fz := []) (l := [0, 1, 5, 6]) (.inr fun i h => h) (by kernel_rfl))
    intro m28 v a w hF h
    obtain ⟨v47, v48⟩ := v
    rw [f202.l28] at hF
    refine wp_seq ?_
    refine wp_reg_seq tok (orc := orcL []) (fz := []) (l := [0, 1, 5, 6, 18]) (c := _) (.inr fun i h => h) h (by kernel_rfl) (AllP.nil) ?_
    intro a w h
    refine wp_if h (b := (decide ((v48 : Int) < (ByteArray.size x0 : Int)))) (by kernel_rfl) (fun hb => ?_) (fun hb => ?_)
    · replace hF := of_t hb hF
      refine wp_skip ?_
      refine wp_seq <| wp_block ?_
      refine wp_seq ?_
      obtain ⟨hc53, hF⟩ := of_if hF
      obtain ⟨hc54, hF⟩ := of_if hF
      refine wp_reg_seq tok (orc := orcL []) (fz := []) (l := [0, 1, 5, 6, 30]) (c := _) (.inr fun i h => h) h (by kernel_rfl) (AllP.cons hc53 (AllP.cons hc54 AllP.nil)) ?_
      intro a w h
      refine wp_if h (b := (bif (decide (((byteAt x0 v48) : Int) < (48 : Int))) then true else (decide (((byteAt x0 v48) : Int) > (57 : Int))))) (by kernel_rfl) (fun hb => ?_) (fun hb => ?_)
      · replace hF := of_t hb hF
        refine wp_reg_seq tok (orc := orcL []) (fz := []) (l := [4]) (c := _) (.inr fun i h => h) h (by kernel_rfl) (AllP.nil) ?_
        intro a w h
        cases hF
        exact wp_ret (ret_okR tok h rfl (by kernel_rfl)).1
      · replace hF := of_f hb hF
        refine wp_skip ?_
        obtain ⟨hc52, hF⟩ := of_if hF
        refine wp_reg tok (orc := orcL []) (fz := []) (l := [0, 1, 5, 6]) (c := _) (.inr fun i h => h) h (by kernel_rfl) (AllP.cons hc52 AllP.nil) ?_
        intro a w h
        refine wp_reg tok (orc := orcL []) (fz := []) (l := [0, 1, 5, 6]) (c := _) (.inr fun i h => h) h (by kernel_rfl) (AllP.nil) ?_
        intro a w h
        exact ⟨((IntKind.i64.wrap ((IntKind.i64.wrap (v47 * (10 : Int))) + (IntKind.i64.wrap (IntKind.u8.wrap ((byteAt x0 v48) - (48 : Int)))))), (IntKind.i64.wrap (v48 + (1 : Int)))), hF, h.arrive (fz := []) (l := [0, 1, 5, 6]) (.inr fun i h => h) (by kernel_rfl)⟩
    · replace hF := of_f hb hF
      refine wp_exit ?_
      refine wp_seq ?_
      refine wp_reg_seq tok (orc := orcL []) (fz := []) (l := [5, 41]) (c := _) (.inr fun i h => h) h (by kernel_rfl) (AllP.nil) ?_
      intro a w h
      refine wp_if h (b := (decide ((v47 : Int) > x1))) (by kernel_rfl) (fun hb => ?_) (fun hb => ?_)
      · replace hF := of_t hb hF
        refine wp_reg_seq tok (orc := orcL []) (fz := []) (l := [4]) (c := _) (.inr fun i h => h) h (by kernel_rfl) (AllP.nil) ?_
        intro a w h
        cases hF
        exact wp_ret (ret_okR tok h rfl (by kernel_rfl)).1
      · replace hF := of_f hb hF
        refine wp_skip ?_
        refine wp_reg_seq tok (orc := orcL []) (fz := []) (l := [4]) (c := _) (.inr fun i h => h) h (by kernel_rfl) (AllP.nil) ?_
        intro a w h
        cases hF
        exact wp_ret (ret_okR tok h rfl (by kernel_rfl)).1

def f137.j8 (k : Nat) : Int → Option Int
  | v7 => some v7
def f137.j4 (k : Nat) (x0 : (List (ByteArray × ByteArray))) : Int → Option Int
  | v3 => (f141 k x0 (⟨#[109, 97, 120, 115, 112, 101, 101, 100]⟩ : ByteArray)).bind fun r5 => ((f202 k r5 (30 : Int)).bind fun r6 => (if (bif (decide ((r6 : Int) ≥ (1 : Int))) then (decide ((r6 : Int) < v3)) else false) then (f137.j8 k r6) else (f137.j8 k v3)))
def f137 (k : Nat) (x0 : (List (ByteArray × ByteArray))) (x1 : Int) : Option Int := (f141 k x0 (⟨#[104, 105, 103, 104, 119, 97, 121]⟩ : ByteArray)).bind fun r1 => ((f141 k x0 (⟨#[97, 99, 99, 101, 115, 115]⟩ : ByteArray)).bind fun r2 => (if (bif (bif (ByteArray.toList r1 == ByteArray.toList (⟨#[]⟩ : ByteArray)) then true else (ByteArray.toList r2 == ByteArray.toList (⟨#[110, 111]⟩ : ByteArray))) then true else (ByteArray.toList r2 == ByteArray.toList (⟨#[112, 114, 105, 118, 97, 116, 101]⟩ : ByteArray))) then (some (0 : Int)) else (if ((x1 : Int) == (2 : Int)) then (if (ByteArray.toList r1 == ByteArray.toList (⟨#[109, 111, 116, 111, 114, 119, 97, 121]⟩ : ByteArray)) then (some (0 : Int)) else (some (1 : Int))) else (if ((x1 : Int) != (1 : Int)) then (some (0 : Int)) else (if (ByteArray.toList r1 == ByteArray.toList (⟨#[109, 111, 116, 111, 114, 119, 97, 121]⟩ : ByteArray)) then (f137.j4 k x0 (30 : Int)) else (if (ByteArray.toList r1 == ByteArray.toList (⟨#[109, 97, 105, 110]⟩ : ByteArray)) then (f137.j4 k x0 (20 : Int)) else (if (ByteArray.toList r1 == ByteArray.toList (⟨#[115, 116, 114, 101, 101, 116]⟩ : ByteArray)) then (f137.j4 k x0 (10 : Int)) else (f137.j4 k x0 (0 : Int)))))))))
set_option maxRecDepth 100000 in
/-- 'spec.SpeedOf'. -/
theorem c137 (k : Nat) (x0 : (List (ByteArray × ByteArray))) (x1 : Int) (r : Int) (hF : f137 k x0 x1 = some r) : PCall Try.prog 137 [⟨sh20, x0⟩, ⟨(.int .i64), x1⟩] [⟨(.int .i64), r⟩] := by
  refine pcall_intro Try.func137 rfl rfl (Nat.le_of_ble_eq_true rfl) ?_
  intro w0 Zi a w h
  rw [f137] at hF
  refine wp_reg_seq tok (orc := orcL []) (fz := []) (l := [0, 1]) (c := _) (.inr fun i h => h) h (by kernel_rfl) (AllP.nil) ?_
  intro a w h
  obtain ⟨r1, hr12, hF⟩ := of_bind hF
  refine wp_reg_seq tok (orc := orcL [(10, [⟨.str, r1⟩])]) (fz := []) (l := [0, 1, 5]) (c := _) (.inr fun i h => h) h (by kernel_rfl) (AllP.cons (c141 k x0 (⟨#[104, 105, 103, 104, 119, 97, 121]⟩ : ByteArray) r1 hr12) AllP.nil) ?_
  intro a w h
  obtain ⟨r2, hr11, hF⟩ := of_bind hF
  refine wp_reg_seq tok (orc := orcL [(12, [⟨.str, r2⟩])]) (fz := []) (l := [0, 1, 5, 6]) (c := _) (.inr fun i h => h) h (by kernel_rfl) (AllP.cons (c141 k x0 (⟨#[97, 99, 99, 101, 115, 115]⟩ : ByteArray) r2 hr11) AllP.nil) ?_
  intro a w h
  refine wp_seq ?_
  refine wp_reg_seq tok (orc := orcL []) (fz := []) (l := [0, 1, 5, 22]) (c := _) (.inr fun i h => h) h (by kernel_rfl) (AllP.nil) ?_
  intro a w h
  refine wp_if h (b := (bif (bif (ByteArray.toList r1 == ByteArray.toList (⟨#[]⟩ : ByteArray)) then true else (ByteArray.toList r2 == ByteArray.toList (⟨#[110, 111]⟩ : ByteArray))) then true else (ByteArray.toList r2 == ByteArray.toList (⟨#[112, 114, 105, 118, 97, 116, 101]⟩ : ByteArray)))) (by kernel_rfl) (fun hb => ?_) (fun hb => ?_)
  · replace hF := of_t hb hF
    refine wp_reg_seq tok (orc := orcL []) (fz := []) (l := [4]) (c := _) (.inr fun i h => h) h (by kernel_rfl) (AllP.nil) ?_
    intro a w h
    cases hF
    exact wp_ret (ret_okR tok h rfl (by kernel_rfl)).1
  · replace hF := of_f hb hF
    refine wp_skip ?_
    refine wp_seq ?_
    refine wp_reg_seq tok (orc := orcL []) (fz := []) (l := [0, 1, 5, 24]) (c := _) (.inr fun i h => h) h (by kernel_rfl) (AllP.nil) ?_
    intro a w h
    refine wp_if h (b := ((x1 : Int) == (2 : Int))) (by kernel_rfl) (fun hb => ?_) (fun hb => ?_)
    · replace hF := of_t hb hF
      refine wp_seq ?_
      refine wp_reg_seq tok (orc := orcL []) (fz := []) (l := [26]) (c := _) (.inr fun i h => h) h (by kernel_rfl) (AllP.nil) ?_
      intro a w h
      refine wp_if h (b := (ByteArray.toList r1 == ByteArray.toList (⟨#[109, 111, 116, 111, 114, 119, 97, 121]⟩ : ByteArray))) (by kernel_rfl) (fun hb => ?_) (fun hb => ?_)
      · replace hF := of_t hb hF
        refine wp_reg_seq tok (orc := orcL []) (fz := []) (l := [4]) (c := _) (.inr fun i h => h) h (by kernel_rfl) (AllP.nil) ?_
        intro a w h
        cases hF
        exact wp_ret (ret_okR tok h rfl (by kernel_rfl)).1
      · replace hF := of_f hb hF
        refine wp_skip ?_
        refine wp_reg_seq tok (orc := orcL []) (fz := []) (l := [4]) (c := _) (.inr fun i h => h) h (by kernel_rfl) (AllP.nil) ?_
        intro a w h
        cases hF
        exact wp_ret (ret_okR tok h rfl (by kernel_rfl)).1
    · replace hF := of_f hb hF
      refine wp_skip ?_
      refine wp_seq ?_
      refine wp_reg_seq tok (orc := orcL []) (fz := []) (l := [0, 5, 28]) (c := _) (.inr fun i h => h) h (by kernel_rfl) (AllP.nil) ?_
      intro a w h
      refine wp_if h (b := ((x1 : Int) != (1 : Int))) (by kernel_rfl) (fun hb => ?_) (fun hb => ?_)
      · replace hF := of_t hb hF
        refine wp_reg_seq tok (orc := orcL []) (fz := []) (l := [4]) (c := _) (.inr fun i h => h) h (by kernel_rfl) (AllP.nil) ?_
        intro a w h
        cases hF
        exact wp_ret (ret_okR tok h rfl (by kernel_rfl)).1
      · replace hF := of_f hb hF
        refine wp_skip ?_
        refine wp_reg_seq tok (orc := orcL []) (fz := []) (l := [0, 5, 7]) (c := _) (.inr fun i h => h) h (by kernel_rfl) (AllP.nil) ?_
        intro a w h
        refine wp_seq ?_
        refine wp_reg_seq tok (orc := orcL []) (fz := []) (l := [0, 7, 29]) (c := _) (.inr fun i h => h) h (by kernel_rfl) (AllP.nil) ?_
        intro a w h
        refine wp_midT (fun a w => ∃ v : Int, f137.j4 k x0 v = some r ∧ Rel w0 (fun _ => False) Zi Try.f137.ntmps ((fun (v3 : Int) => ([(0, .val sh20 x0), (7, .val (.int .i64) v3)] : SS)) v) a w) ?_ ?_
        ·
          refine wp_block ?_
          refine wp_reg_seq tok (orc := orcL []) (fz := []) (l := [0, 7, 29, 30]) (c := _) (.inr fun i h => h) h (by kernel_rfl) (AllP.nil) ?_
          intro a w h
          refine wp_if h (b := (ByteArray.toList r1 == ByteArray.toList (⟨#[109, 111, 116, 111, 114, 119, 97, 121]⟩ : ByteArray))) (by kernel_rfl) (fun hb => ?_) (fun hb => ?_)
          · replace hF := of_t hb hF
            refine wp_reg tok (orc := orcL []) (fz := []) (l := [0, 7]) (c := _) (.inr fun i h => h) h (by kernel_rfl) (AllP.nil) ?_
            intro a w h
            exact ⟨(30 : Int), hF, h.arrive (fz := []) (l := [0, 7]) (.inr fun i h => h) (by kernel_rfl)⟩
          · replace hF := of_f hb hF
            refine wp_reg_seq tok (orc := orcL []) (fz := []) (l := [0, 7, 29, 32]) (c := _) (.inr fun i h => h) h (by kernel_rfl) (AllP.nil) ?_
            intro a w h
            refine wp_if h (b := (ByteArray.toList r1 == ByteArray.toList (⟨#[109, 97, 105, 110]⟩ : ByteArray))) (by kernel_rfl) (fun hb => ?_) (fun hb => ?_)
            · replace hF := of_t hb hF
              refine wp_reg tok (orc := orcL []) (fz := []) (l := [0, 7]) (c := _) (.inr fun i h => h) h (by kernel_rfl) (AllP.nil) ?_
              intro a w h
              exact ⟨(20 : Int), hF, h.arrive (fz := []) (l := [0, 7]) (.inr fun i h => h) (by kernel_rfl)⟩
            · replace hF := of_f hb hF
              refine wp_reg_seq tok (orc := orcL []) (fz := []) (l := [0, 7, 34]) (c := _) (.inr fun i h => h) h (by kernel_rfl) (AllP.nil) ?_
              intro a w h
              refine wp_if h (b := (ByteArray.toList r1 == ByteArray.toList (⟨#[115, 116, 114, 101, 101, 116]⟩ : ByteArray))) (by kernel_rfl) (fun hb => ?_) (fun hb => ?_)
              · replace hF := of_t hb hF
                refine wp_reg tok (orc := orcL []) (fz := []) (l := [0, 7]) (c := _) (.inr fun i h => h) h (by kernel_rfl) (AllP.nil) ?_
                intro a w h
                exact ⟨(10 : Int), hF, h.arrive (fz := []) (l := [0, 7]) (.inr fun i h => h) (by kernel_rfl)⟩
              · replace hF := of_f hb hF
                refine wp_skip ?_
                exact ⟨(0 : Int), hF, h.arrive (fz := []) (l := [0, 7]) (.inr fun i h => h) (by kernel_rfl)⟩
        · rintro a w ⟨v3, hF, h⟩
          rw [f137.j4] at hF
          obtain ⟨r5, hr9, hF⟩ := of_bind hF
          obtain ⟨r6, hr10, hF⟩ := of_bind hF
          refine wp_reg_seq tok (orc := orcL [(37, [⟨.str, r5⟩]), (38, [⟨(.int .i64), r6⟩])]) (fz := []) (l := [7, 8]) (c := _) (.inr fun i h => h) h (by kernel_rfl) (AllP.cons (c141 k x0 (⟨#[109, 97, 120, 115, 112, 101, 101, 100]⟩ : ByteArray) r5 hr9) (AllP.cons (c202 k r5 (30 : Int) r6 hr10) AllP.nil)) ?_
          intro a w h
          refine wp_seq ?_
          refine wp_reg_seq tok (orc := orcL []) (fz := []) (l := [7, 8, 45]) (c := _) (.inr fun i h => h) h (by kernel_rfl) (AllP.nil) ?_
          intro a w h
          refine wp_midT (fun a w => ∃ v : Int, f137.j8 k v = some r ∧ Rel w0 (fun _ => False) Zi Try.f137.ntmps ((fun (v7 : Int) => ([(7, .val (.int .i64) v7)] : SS)) v) a w) ?_ ?_
          ·
            refine wp_if h (b := (bif (decide ((r6 : Int) ≥ (1 : Int))) then (decide ((r6 : Int) < v3)) else false)) (by kernel_rfl) (fun hb => ?_) (fun hb => ?_)
            · replace hF := of_t hb hF
              refine wp_reg tok (orc := orcL []) (fz := []) (l := [7]) (c := _) (.inr fun i h => h) h (by kernel_rfl) (AllP.nil) ?_
              intro a w h
              exact ⟨r6, hF, h.arrive (fz := []) (l := [7]) (.inr fun i h => h) (by kernel_rfl)⟩
            · replace hF := of_f hb hF
              refine wp_skip ?_
              exact ⟨v3, hF, h.arrive (fz := []) (l := [7]) (.inr fun i h => h) (by kernel_rfl)⟩
          · rintro a w ⟨v7, hF, h⟩
            rw [f137.j8] at hF
            refine wp_reg_seq tok (orc := orcL []) (fz := []) (l := [4]) (c := _) (.inr fun i h => h) h (by kernel_rfl) (AllP.nil) ?_
            intro a w h
            cases hF
            exact wp_ret (ret_okR tok h rfl (by kernel_rfl)).1

def f139 (k : Nat) (x0 : (List (ByteArray × ByteArray))) (x1 : Int) : Option Int := (f141 k x0 (⟨#[111, 110, 101, 119, 97, 121]⟩ : ByteArray)).bind fun r1 => (if ((x1 : Int) != (1 : Int)) then (some (0 : Int)) else ((if (((ByteArray.toList r1 == ByteArray.toList (⟨#[121, 101, 115]⟩ : ByteArray)) = false) ∧ ((ByteArray.toList r1 == ByteArray.toList (⟨#[]⟩ : ByteArray)) = true)) then f141 k x0 (⟨#[106, 117, 110, 99, 116, 105, 111, 110]⟩ : ByteArray) else some default).bind fun r2 => (if (bif (ByteArray.toList r1 == ByteArray.toList (⟨#[121, 101, 115]⟩ : ByteArray)) then true else (bif (ByteArray.toList r1 == ByteArray.toList (⟨#[]⟩ : ByteArray)) then (ByteArray.toList r2 == ByteArray.toList (⟨#[114, 105, 110, 103]⟩ : ByteArray)) else false)) then (some (1 : Int)) else (if (ByteArray.toList r1 == ByteArray.toList (⟨#[45, 49]⟩ : ByteArray)) then (some (-1 : Int)) else (some (0 : Int))))))
set_option maxRecDepth 100000 in
/-- 'spec.Oneway'. -/
theorem c139 (k : Nat) (x0 : (List (ByteArray × ByteArray))) (x1 : Int) (r : Int) (hF : f139 k x0 x1 = some r) : PCall Try.prog 139 [⟨sh20, x0⟩, ⟨(.int .i64), x1⟩] [⟨(.int .i64), r⟩] := by
  refine pcall_intro Try.func139 rfl rfl (Nat.le_of_ble_eq_true rfl) ?_
  intro w0 Zi a w h
  rw [f139] at hF
  refine wp_reg_seq tok (orc := orcL []) (fz := []) (l := [0, 1]) (c := _) (.inr fun i h => h) h (by kernel_rfl) (AllP.nil) ?_
  intro a w h
  obtain ⟨r1, hr4, hF⟩ := of_bind hF
  refine wp_reg_seq tok (orc := orcL [(7, [⟨.str, r1⟩])]) (fz := []) (l := [0, 1, 5]) (c := _) (.inr fun i h => h) h (by kernel_rfl) (AllP.cons (c141 k x0 (⟨#[111, 110, 101, 119, 97, 121]⟩ : ByteArray) r1 hr4) AllP.nil) ?_
  intro a w h
  refine wp_seq ?_
  refine wp_reg_seq tok (orc := orcL []) (fz := []) (l := [0, 5, 9]) (c := _) (.inr fun i h => h) h (by kernel_rfl) (AllP.nil) ?_
  intro a w h
  refine wp_if h (b := ((x1 : Int) != (1 : Int))) (by kernel_rfl) (fun hb => ?_) (fun hb => ?_)
  · replace hF := of_t hb hF
    refine wp_reg_seq tok (orc := orcL []) (fz := []) (l := [4]) (c := _) (.inr fun i h => h) h (by kernel_rfl) (AllP.nil) ?_
    intro a w h
    cases hF
    exact wp_ret (ret_okR tok h rfl (by kernel_rfl)).1
  · replace hF := of_f hb hF
    refine wp_skip ?_
    refine wp_seq ?_
    obtain ⟨r2, hr3, hF⟩ := of_bind hF
    refine wp_reg_seq tok (orc := orcL [(17, [⟨.str, r2⟩])]) (fz := []) (l := [5, 20]) (c := _) (.inr fun i h => h) h (by kernel_rfl) (AllP.cons (fun (hg : (((ByteArray.toList r1 == ByteArray.toList (⟨#[121, 101, 115]⟩ : ByteArray)) = false) ∧ ((ByteArray.toList r1 == ByteArray.toList (⟨#[]⟩ : ByteArray)) = true))) => c141 k x0 (⟨#[106, 117, 110, 99, 116, 105, 111, 110]⟩ : ByteArray) r2 (of_g hg hr3)) AllP.nil) ?_
    intro a w h
    refine wp_if h (b := (bif (ByteArray.toList r1 == ByteArray.toList (⟨#[121, 101, 115]⟩ : ByteArray)) then true else (bif (ByteArray.toList r1 == ByteArray.toList (⟨#[]⟩ : ByteArray)) then (ByteArray.toList r2 == ByteArray.toList (⟨#[114, 105, 110, 103]⟩ : ByteArray)) else false))) (by kernel_rfl) (fun hb => ?_) (fun hb => ?_)
    · replace hF := of_t hb hF
      refine wp_reg_seq tok (orc := orcL []) (fz := []) (l := [4]) (c := _) (.inr fun i h => h) h (by kernel_rfl) (AllP.nil) ?_
      intro a w h
      cases hF
      exact wp_ret (ret_okR tok h rfl (by kernel_rfl)).1
    · replace hF := of_f hb hF
      refine wp_skip ?_
      refine wp_seq ?_
      refine wp_reg_seq tok (orc := orcL []) (fz := []) (l := [22]) (c := _) (.inr fun i h => h) h (by kernel_rfl) (AllP.nil) ?_
      intro a w h
      refine wp_if h (b := (ByteArray.toList r1 == ByteArray.toList (⟨#[45, 49]⟩ : ByteArray))) (by kernel_rfl) (fun hb => ?_) (fun hb => ?_)
      · replace hF := of_t hb hF
        refine wp_reg_seq tok (orc := orcL []) (fz := []) (l := [4]) (c := _) (.inr fun i h => h) h (by kernel_rfl) (AllP.nil) ?_
        intro a w h
        cases hF
        exact wp_ret (ret_okR tok h rfl (by kernel_rfl)).1
      · replace hF := of_f hb hF
        refine wp_skip ?_
        refine wp_reg_seq tok (orc := orcL []) (fz := []) (l := [4]) (c := _) (.inr fun i h => h) h (by kernel_rfl) (AllP.nil) ?_
        intro a w h
        cases hF
        exact wp_ret (ret_okR tok h rfl (by kernel_rfl)).1

def f131.l16 (k : Nat) (x0 : ((List (Int × (Int × Int))) × ((List (Int × (Int × (Int × (Int × (Int × ByteArray)))))) × (List (Int × Int))))) (x1 : Int) : Nat → (Int × Int) → Option Int
  | 0, _ => none
  | m16 + 1, (v27, v28) => if (decide ((v27 : Int) < v28)) then (if (((2 : Int) : Int) ≠ 0) then (if (0 ≤ (IntKind.i64.wrap (Int.tdiv (IntKind.i64.wrap (v27 + v28)) (2 : Int))) ∧ (IntKind.i64.wrap (Int.tdiv (IntKind.i64.wrap (v27 + v28)) (2 : Int))) < (List.length x0.1 : Int)) then (if (decide (((List.getD x0.1 (Int.toNat (IntKind.i64.wrap (Int.tdiv (IntKind.i64.wrap (v27 + v28)) (2 : Int)))) ((0 : Int), ((0 : Int), (0 : Int)))).1 : Int) < x1)) then ((f131.l16 k x0 x1) m16 ((IntKind.i64.wrap ((IntKind.i64.wrap (Int.tdiv (IntKind.i64.wrap (v27 + v28)) (2 : Int))) + (1 : Int))), v28)) else ((f131.l16 k x0 x1) m16 (v27, (IntKind.i64.wrap (Int.tdiv (IntKind.i64.wrap (v27 + v28)) (2 : Int)))))) else none) else none) else (if (((decide ((v27 : Int) < (List.length x0.1 : Int))) = true) → (0 ≤ v27 ∧ v27 < (List.length x0.1 : Int))) then (if (bif (decide ((v27 : Int) < (List.length x0.1 : Int))) then (((List.getD x0.1 (Int.toNat v27) ((0 : Int), ((0 : Int), (0 : Int)))).1 : Int) == x1) else false) then (some v27) else (some (-1 : Int))) else none)
def f131 (k : Nat) (x0 : ((List (Int × (Int × Int))) × ((List (Int × (Int × (Int × (Int × (Int × ByteArray)))))) × (List (Int × Int))))) (x1 : Int) : Option Int := f131.l16 k x0 x1 k ((0 : Int), (List.length x0.1 : Int))
set_option maxRecDepth 100000 in
/-- 'spec.l9Place'. -/
theorem c131 (k : Nat) (x0 : ((List (Int × (Int × Int))) × ((List (Int × (Int × (Int × (Int × (Int × ByteArray)))))) × (List (Int × Int))))) (x1 : Int) (r : Int) (hF : f131 k x0 x1 = some r) : PCall Try.prog 131 [⟨sh29, x0⟩, ⟨(.int .i64), x1⟩] [⟨(.int .i64), r⟩] := by
  refine pcall_intro Try.func131 rfl rfl (Nat.le_of_ble_eq_true rfl) ?_
  intro w0 Zi a w h
  rw [f131] at hF
  refine wp_reg_seq tok (orc := orcL []) (fz := []) (l := [1, 2]) (c := _) (.inr fun i h => h) h (by kernel_rfl) (AllP.nil) ?_
  intro a w h
  refine wp_reg_seq tok (orc := orcL []) (fz := []) (l := [1, 2, 5]) (c := _) (.inr fun i h => h) h (by kernel_rfl) (AllP.nil) ?_
  intro a w h
  refine wp_reg_seq tok (orc := orcL []) (fz := []) (l := [1, 2, 5, 6]) (c := _) (.inr fun i h => h) h (by kernel_rfl) (AllP.nil) ?_
  intro a w h
  refine wp_seq <| wp_block ?_
  refine wp_loop_fuel (f131.l16 k x0 x1) (fun ((v27, v28) : (Int × Int)) => [(1, .val (.int .i64) x1), (2, .val sh28 (some x0)), (5, .val (.int .i64) v27), (6, .val (.int .i64) v28)]) (fun v h => by obtain ⟨v27, v28⟩ := v; rw [f131.l16] at h; cases h) ?_ hF (h.arrive (fz := []) (l := [1, 2, 5, 6]) (.inr fun i h => h) (by kernel_rfl))
  intro m16 v a w hF h
  obtain ⟨v27, v28⟩ := v
  rw [f131.l16] at hF
  refine wp_seq ?_
  refine wp_reg_seq tok (orc := orcL []) (fz := []) (l := [1, 2, 5, 6, 13]) (c := _) (.inr fun i h => h) h (by kernel_rfl) (AllP.nil) ?_
  intro a w h
  refine wp_if h (b := (decide ((v27 : Int) < v28))) (by kernel_rfl) (fun hb => ?_) (fun hb => ?_)
  · replace hF := of_t hb hF
    refine wp_skip ?_
    refine wp_block ?_
    obtain ⟨hc30, hF⟩ := of_if hF
    refine wp_reg_seq tok (orc := orcL []) (fz := []) (l := [1, 2, 5, 6, 7]) (c := _) (.inr fun i h => h) h (by kernel_rfl) (AllP.cons hc30 AllP.nil) ?_
    intro a w h
    obtain ⟨hc29, hF⟩ := of_if hF
    refine wp_reg_seq tok (orc := orcL []) (fz := []) (l := [1, 2, 5, 6, 7, 25]) (c := _) (.inr fun i h => h) h (by kernel_rfl) (AllP.cons hc29 AllP.nil) ?_
    intro a w h
    refine wp_if h (b := (decide (((List.getD x0.1 (Int.toNat (IntKind.i64.wrap (Int.tdiv (IntKind.i64.wrap (v27 + v28)) (2 : Int)))) ((0 : Int), ((0 : Int), (0 : Int)))).1 : Int) < x1))) (by kernel_rfl) (fun hb => ?_) (fun hb => ?_)
    · replace hF := of_t hb hF
      refine wp_reg tok (orc := orcL []) (fz := []) (l := [1, 2, 5, 6]) (c := _) (.inr fun i h => h) h (by kernel_rfl) (AllP.nil) ?_
      intro a w h
      exact ⟨((IntKind.i64.wrap ((IntKind.i64.wrap (Int.tdiv (IntKind.i64.wrap (v27 + v28)) (2 : Int))) + (1 : Int))), v28), hF, h.arrive (fz := []) (l := [1, 2, 5, 6]) (.inr fun i h => h) (by kernel_rfl)⟩
    · replace hF := of_f hb hF
      refine wp_reg tok (orc := orcL []) (fz := []) (l := [1, 2, 5, 6]) (c := _) (.inr fun i h => h) h (by kernel_rfl) (AllP.nil) ?_
      intro a w h
      exact ⟨(v27, (IntKind.i64.wrap (Int.tdiv (IntKind.i64.wrap (v27 + v28)) (2 : Int)))), hF, h.arrive (fz := []) (l := [1, 2, 5, 6]) (.inr fun i h => h) (by kernel_rfl)⟩
  · replace hF := of_f hb hF
    refine wp_exit ?_
    refine wp_seq ?_
    obtain ⟨hc31, hF⟩ := of_if hF
    refine wp_reg_seq tok (orc := orcL []) (fz := []) (l := [5, 43]) (c := _) (.inr fun i h => h) h (by kernel_rfl) (AllP.cons hc31 AllP.nil) ?_
    intro a w h
    refine wp_if h (b := (bif (decide ((v27 : Int) < (List.length x0.1 : Int))) then (((List.getD x0.1 (Int.toNat v27) ((0 : Int), ((0 : Int), (0 : Int)))).1 : Int) == x1) else false)) (by kernel_rfl) (fun hb => ?_) (fun hb => ?_)
    · replace hF := of_t hb hF
      refine wp_reg_seq tok (orc := orcL []) (fz := []) (l := [4]) (c := _) (.inr fun i h => h) h (by kernel_rfl) (AllP.nil) ?_
      intro a w h
      cases hF
      exact wp_ret (ret_okR tok h rfl (by kernel_rfl)).1
    · replace hF := of_f hb hF
      refine wp_skip ?_
      refine wp_reg_seq tok (orc := orcL []) (fz := []) (l := [4]) (c := _) (.inr fun i h => h) h (by kernel_rfl) (AllP.nil) ?_
      intro a w h
      cases hF
      exact wp_ret (ret_okR tok h rfl (by kernel_rfl)).1

def f204 (k : Nat) (x0 : (Int × Int)) (x1 : (Int × Int)) : Option Int := some (IntKind.i64.wrap ((IntKind.i64.wrap ((IntKind.i64.wrap (x1.1 - x0.1)) * (IntKind.i64.wrap (x1.1 - x0.1)))) + (IntKind.i64.wrap ((IntKind.i64.wrap (x1.2 - x0.2)) * (IntKind.i64.wrap (x1.2 - x0.2))))))
set_option maxRecDepth 100000 in
/-- 'spec.l1Square'. -/
theorem c204 (k : Nat) (x0 : (Int × Int)) (x1 : (Int × Int)) (r : Int) (hF : f204 k x0 x1 = some r) : PCall Try.prog 204 [⟨sh9, x0⟩, ⟨sh9, x1⟩] [⟨(.int .i64), r⟩] := by
  refine pcall_intro Try.func204 rfl rfl (Nat.le_of_ble_eq_true rfl) ?_
  intro w0 Zi a w h
  rw [f204] at hF
  refine wp_reg_seq tok (orc := orcL []) (fz := []) (l := [2, 3]) (c := _) (.inr fun i h => h) h (by kernel_rfl) (AllP.nil) ?_
  intro a w h
  refine wp_reg_seq tok (orc := orcL []) (fz := []) (l := [4]) (c := _) (.inr fun i h => h) h (by kernel_rfl) (AllP.nil) ?_
  intro a w h
  cases hF
  exact wp_ret (ret_okR tok h rfl (by kernel_rfl)).1

def f203.l13 (k : Nat) (x0 : Int) : Nat → (Int × Int) → Option Int
  | 0, _ => none
  | m13 + 1, (v22, v23) => if (decide ((v22 : Int) < v23)) then (if (((2 : Int) : Int) ≠ 0) then (if (decide (((IntKind.i64.wrap ((IntKind.i64.wrap (Int.tdiv (IntKind.i64.wrap ((IntKind.i64.wrap (v22 + v23)) + (1 : Int))) (2 : Int))) * (IntKind.i64.wrap (Int.tdiv (IntKind.i64.wrap ((IntKind.i64.wrap (v22 + v23)) + (1 : Int))) (2 : Int))))) : Int) ≤ x0)) then ((f203.l13 k x0) m13 ((IntKind.i64.wrap (Int.tdiv (IntKind.i64.wrap ((IntKind.i64.wrap (v22 + v23)) + (1 : Int))) (2 : Int))), v23)) else ((f203.l13 k x0) m13 (v22, (IntKind.i64.wrap ((IntKind.i64.wrap (Int.tdiv (IntKind.i64.wrap ((IntKind.i64.wrap (v22 + v23)) + (1 : Int))) (2 : Int))) - (1 : Int)))))) else none) else (some v22)
def f203 (k : Nat) (x0 : Int) : Option Int := if (decide ((x0 : Int) < (0 : Int))) then (some (-1 : Int)) else (f203.l13 k x0 k ((0 : Int), (3037000499 : Int)))
set_option maxRecDepth 100000 in
/-- 'spec.Root'. -/
theorem c203 (k : Nat) (x0 : Int) (r : Int) (hF : f203 k x0 = some r) : PCall Try.prog 203 [⟨(.int .i64), x0⟩] [⟨(.int .i64), r⟩] := by
  refine pcall_intro Try.func203 rfl rfl (Nat.le_of_ble_eq_true rfl) ?_
  intro w0 Zi a w h
  rw [f203] at hF
  refine wp_reg_seq tok (orc := orcL []) (fz := []) (l := [0]) (c := _) (.inr fun i h => h) h (by kernel_rfl) (AllP.nil) ?_
  intro a w h
  refine wp_seq ?_
  refine wp_reg_seq tok (orc := orcL []) (fz := []) (l := [0, 7]) (c := _) (.inr fun i h => h) h (by kernel_rfl) (AllP.nil) ?_
  intro a w h
  refine wp_if h (b := (decide ((x0 : Int) < (0 : Int)))) (by kernel_rfl) (fun hb => ?_) (fun hb => ?_)
  · replace hF := of_t hb hF
    refine wp_reg_seq tok (orc := orcL []) (fz := []) (l := [2]) (c := _) (.inr fun i h => h) h (by kernel_rfl) (AllP.nil) ?_
    intro a w h
    cases hF
    exact wp_ret (ret_okR tok h rfl (by kernel_rfl)).1
  · replace hF := of_f hb hF
    refine wp_skip ?_
    refine wp_reg_seq tok (orc := orcL []) (fz := []) (l := [0, 3]) (c := _) (.inr fun i h => h) h (by kernel_rfl) (AllP.nil) ?_
    intro a w h
    refine wp_reg_seq tok (orc := orcL []) (fz := []) (l := [0, 3, 4]) (c := _) (.inr fun i h => h) h (by kernel_rfl) (AllP.nil) ?_
    intro a w h
    refine wp_seq <| wp_block ?_
    refine wp_loop_fuel (f203.l13 k x0) (fun ((v22, v23) : (Int × Int)) => [(0, .val (.int .i64) x0), (3, .val (.int .i64) v22), (4, .val (.int .i64) v23)]) (fun v h => by obtain ⟨v22, v23⟩ := v; rw [f203.l13] at h; cases h) ?_ hF (h.arrive (fz := []) (l := [0, 3, 4]) (.inr fun i h => h) (by kernel_rfl))
    intro m13 v a w hF h
    obtain ⟨v22, v23⟩ := v
    rw [f203.l13] at hF
    refine wp_seq ?_
    refine wp_reg_seq tok (orc := orcL []) (fz := []) (l := [0, 3, 4, 10]) (c := _) (.inr fun i h => h) h (by kernel_rfl) (AllP.nil) ?_
    intro a w h
    refine wp_if h (b := (decide ((v22 : Int) < v23))) (by kernel_rfl) (fun hb => ?_) (fun hb => ?_)
    · replace hF := of_t hb hF
      refine wp_skip ?_
      refine wp_block ?_
      obtain ⟨hc24, hF⟩ := of_if hF
      refine wp_reg_seq tok (orc := orcL []) (fz := []) (l := [0, 3, 4, 5]) (c := _) (.inr fun i h => h) h (by kernel_rfl) (AllP.cons hc24 AllP.nil) ?_
      intro a w h
      refine wp_reg_seq tok (orc := orcL []) (fz := []) (l := [0, 3, 4, 5, 20]) (c := _) (.inr fun i h => h) h (by kernel_rfl) (AllP.nil) ?_
      intro a w h
      refine wp_if h (b := (decide (((IntKind.i64.wrap ((IntKind.i64.wrap (Int.tdiv (IntKind.i64.wrap ((IntKind.i64.wrap (v22 + v23)) + (1 : Int))) (2 : Int))) * (IntKind.i64.wrap (Int.tdiv (IntKind.i64.wrap ((IntKind.i64.wrap (v22 + v23)) + (1 : Int))) (2 : Int))))) : Int) ≤ x0))) (by kernel_rfl) (fun hb => ?_) (fun hb => ?_)
      · replace hF := of_t hb hF
        refine wp_reg tok (orc := orcL []) (fz := []) (l := [0, 3, 4]) (c := _) (.inr fun i h => h) h (by kernel_rfl) (AllP.nil) ?_
        intro a w h
        exact ⟨((IntKind.i64.wrap (Int.tdiv (IntKind.i64.wrap ((IntKind.i64.wrap (v22 + v23)) + (1 : Int))) (2 : Int))), v23), hF, h.arrive (fz := []) (l := [0, 3, 4]) (.inr fun i h => h) (by kernel_rfl)⟩
      · replace hF := of_f hb hF
        refine wp_reg tok (orc := orcL []) (fz := []) (l := [0, 3, 4]) (c := _) (.inr fun i h => h) h (by kernel_rfl) (AllP.nil) ?_
        intro a w h
        exact ⟨(v22, (IntKind.i64.wrap ((IntKind.i64.wrap (Int.tdiv (IntKind.i64.wrap ((IntKind.i64.wrap (v22 + v23)) + (1 : Int))) (2 : Int))) - (1 : Int)))), hF, h.arrive (fz := []) (l := [0, 3, 4]) (.inr fun i h => h) (by kernel_rfl)⟩
    · replace hF := of_f hb hF
      refine wp_exit ?_
      refine wp_reg_seq tok (orc := orcL []) (fz := []) (l := [2]) (c := _) (.inr fun i h => h) h (by kernel_rfl) (AllP.nil) ?_
      intro a w h
      cases hF
      exact wp_ret (ret_okR tok h rfl (by kernel_rfl)).1

def f140 (k : Nat) (x0 : (Int × Int)) (x1 : (Int × Int)) : Option Int := (f204 k x0 x1).bind fun r1 => ((f203 k (IntKind.i64.wrap ((4 : Int) * r1))).bind fun r2 => (if (((2 : Int) : Int) ≠ 0) then (some (IntKind.i64.wrap (Int.tdiv (IntKind.i64.wrap (r2 + (1 : Int))) (2 : Int)))) else none))
set_option maxRecDepth 100000 in
/-- 'spec.l1Distance'. -/
theorem c140 (k : Nat) (x0 : (Int × Int)) (x1 : (Int × Int)) (r : Int) (hF : f140 k x0 x1 = some r) : PCall Try.prog 140 [⟨sh9, x0⟩, ⟨sh9, x1⟩] [⟨(.int .i64), r⟩] := by
  refine pcall_intro Try.func140 rfl rfl (Nat.le_of_ble_eq_true rfl) ?_
  intro w0 Zi a w h
  rw [f140] at hF
  refine wp_reg_seq tok (orc := orcL []) (fz := []) (l := [2, 3]) (c := _) (.inr fun i h => h) h (by kernel_rfl) (AllP.nil) ?_
  intro a w h
  obtain ⟨r1, hr3, hF⟩ := of_bind hF
  obtain ⟨r2, hr4, hF⟩ := of_bind hF
  obtain ⟨hc5, hF⟩ := of_if hF
  refine wp_reg_seq tok (orc := orcL [(7, [⟨(.int .i64), r1⟩]), (9, [⟨(.int .i64), r2⟩])]) (fz := []) (l := [4]) (c := _) (.inr fun i h => h) h (by kernel_rfl) (AllP.cons (c204 k x0 x1 r1 hr3) (AllP.cons (c203 k (IntKind.i64.wrap ((4 : Int) * r1)) r2 hr4) (AllP.cons hc5 AllP.nil))) ?_
  intro a w h
  cases hF
  exact wp_ret (ret_okR tok h rfl (by kernel_rfl)).1

def f160 (k : Nat) (x0 : (Int × Int)) (x1 : (Int × Int)) : Option Bool := some (bif (decide ((x0.1 : Int) < x1.1)) then true else (bif ((x0.1 : Int) == x1.1) then (decide ((x0.2 : Int) < x1.2)) else false))
set_option maxRecDepth 100000 in
/-- 'spec.l9BanLess'. -/
theorem c160 (k : Nat) (x0 : (Int × Int)) (x1 : (Int × Int)) (r : Bool) (hF : f160 k x0 x1 = some r) : PCall Try.prog 160 [⟨sh9, x0⟩, ⟨sh9, x1⟩] [⟨.bool, r⟩] := by
  refine pcall_intro Try.func160 rfl rfl (Nat.le_of_ble_eq_true rfl) ?_
  intro w0 Zi a w h
  rw [f160] at hF
  refine wp_reg_seq tok (orc := orcL []) (fz := []) (l := [2, 3]) (c := _) (.inr fun i h => h) h (by kernel_rfl) (AllP.nil) ?_
  intro a w h
  refine wp_reg_seq tok (orc := orcL []) (fz := []) (l := [4]) (c := _) (.inr fun i h => h) h (by kernel_rfl) (AllP.nil) ?_
  intro a w h
  cases hF
  exact wp_ret (ret_okR tok h rfl (by kernel_rfl)).1

def f70.l206 (k : Nat) (x0 : ((List (Int × (Int × Int))) × ((List (Int × (Int × (Int × (Int × (Int × ByteArray)))))) × (List (Int × Int))))) : Nat → Int → Option Bool
  | 0, _ => none
  | m206 + 1, v242 => if (decide ((v242 : Int) < (List.length x0.2.2 : Int))) then (if (0 ≤ v242 ∧ v242 < (List.length x0.2.2 : Int)) then (if (((bif (bif (bif (decide (((List.getD x0.2.2 (Int.toNat v242) ((0 : Int), (0 : Int))).1 : Int) < (0 : Int))) then true else (decide (((List.getD x0.2.2 (Int.toNat v242) ((0 : Int), (0 : Int))).1 : Int) ≥ (List.length x0.2.1 : Int)))) then true else (decide (((List.getD x0.2.2 (Int.toNat v242) ((0 : Int), (0 : Int))).2 : Int) < (0 : Int)))) then true else (decide (((List.getD x0.2.2 (Int.toNat v242) ((0 : Int), (0 : Int))).2 : Int) ≥ (List.length x0.2.1 : Int)))) = false) → (0 ≤ (List.getD x0.2.2 (Int.toNat v242) ((0 : Int), (0 : Int))).1 ∧ (List.getD x0.2.2 (Int.toNat v242) ((0 : Int), (0 : Int))).1 < (List.length x0.2.1 : Int))) then (if (((bif (bif (bif (decide (((List.getD x0.2.2 (Int.toNat v242) ((0 : Int), (0 : Int))).1 : Int) < (0 : Int))) then true else (decide (((List.getD x0.2.2 (Int.toNat v242) ((0 : Int), (0 : Int))).1 : Int) ≥ (List.length x0.2.1 : Int)))) then true else (decide (((List.getD x0.2.2 (Int.toNat v242) ((0 : Int), (0 : Int))).2 : Int) < (0 : Int)))) then true else (decide (((List.getD x0.2.2 (Int.toNat v242) ((0 : Int), (0 : Int))).2 : Int) ≥ (List.length x0.2.1 : Int)))) = false) → (0 ≤ (List.getD x0.2.2 (Int.toNat v242) ((0 : Int), (0 : Int))).2 ∧ (List.getD x0.2.2 (Int.toNat v242) ((0 : Int), (0 : Int))).2 < (List.length x0.2.1 : Int))) then (if ((((bif (bif (bif (bif (decide (((List.getD x0.2.2 (Int.toNat v242) ((0 : Int), (0 : Int))).1 : Int) < (0 : Int))) then true else (decide (((List.getD x0.2.2 (Int.toNat v242) ((0 : Int), (0 : Int))).1 : Int) ≥ (List.length x0.2.1 : Int)))) then true else (decide (((List.getD x0.2.2 (Int.toNat v242) ((0 : Int), (0 : Int))).2 : Int) < (0 : Int)))) then true else (decide (((List.getD x0.2.2 (Int.toNat v242) ((0 : Int), (0 : Int))).2 : Int) ≥ (List.length x0.2.1 : Int)))) then true else (((List.getD x0.2.1 (Int.toNat (List.getD x0.2.2 (Int.toNat v242) ((0 : Int), (0 : Int))).1) ((0 : Int), ((0 : Int), ((0 : Int), ((0 : Int), ((0 : Int), (⟨#[]⟩ : ByteArray))))))).2.1 : Int) != (List.getD x0.2.1 (Int.toNat (List.getD x0.2.2 (Int.toNat v242) ((0 : Int), (0 : Int))).2) ((0 : Int), ((0 : Int), ((0 : Int), ((0 : Int), ((0 : Int), (⟨#[]⟩ : ByteArray))))))).1)) = false) ∧ ((decide ((v242 : Int) > (0 : Int))) = true)) → (0 ≤ (IntKind.i64.wrap (v242 - (1 : Int))) ∧ (IntKind.i64.wrap (v242 - (1 : Int))) < (List.length x0.2.2 : Int))) then ((if (((bif (bif (bif (bif (decide (((List.getD x0.2.2 (Int.toNat v242) ((0 : Int), (0 : Int))).1 : Int) < (0 : Int))) then true else (decide (((List.getD x0.2.2 (Int.toNat v242) ((0 : Int), (0 : Int))).1 : Int) ≥ (List.length x0.2.1 : Int)))) then true else (decide (((List.getD x0.2.2 (Int.toNat v242) ((0 : Int), (0 : Int))).2 : Int) < (0 : Int)))) then true else (decide (((List.getD x0.2.2 (Int.toNat v242) ((0 : Int), (0 : Int))).2 : Int) ≥ (List.length x0.2.1 : Int)))) then true else (((List.getD x0.2.1 (Int.toNat (List.getD x0.2.2 (Int.toNat v242) ((0 : Int), (0 : Int))).1) ((0 : Int), ((0 : Int), ((0 : Int), ((0 : Int), ((0 : Int), (⟨#[]⟩ : ByteArray))))))).2.1 : Int) != (List.getD x0.2.1 (Int.toNat (List.getD x0.2.2 (Int.toNat v242) ((0 : Int), (0 : Int))).2) ((0 : Int), ((0 : Int), ((0 : Int), ((0 : Int), ((0 : Int), (⟨#[]⟩ : ByteArray))))))).1)) = false) ∧ ((decide ((v242 : Int) > (0 : Int))) = true)) then f160 k (List.getD x0.2.2 (Int.toNat (IntKind.i64.wrap (v242 - (1 : Int)))) ((0 : Int), (0 : Int))) (List.getD x0.2.2 (Int.toNat v242) ((0 : Int), (0 : Int))) else some default).bind fun r251 => ((some ((bif (bif (bif (bif (bif (decide (((List.getD x0.2.2 (Int.toNat v242) ((0 : Int), (0 : Int))).1 : Int) < (0 : Int))) then true else (decide (((List.getD x0.2.2 (Int.toNat v242) ((0 : Int), (0 : Int))).1 : Int) ≥ (List.length x0.2.1 : Int)))) then true else (decide (((List.getD x0.2.2 (Int.toNat v242) ((0 : Int), (0 : Int))).2 : Int) < (0 : Int)))) then true else (decide (((List.getD x0.2.2 (Int.toNat v242) ((0 : Int), (0 : Int))).2 : Int) ≥ (List.length x0.2.1 : Int)))) then true else (((List.getD x0.2.1 (Int.toNat (List.getD x0.2.2 (Int.toNat v242) ((0 : Int), (0 : Int))).1) ((0 : Int), ((0 : Int), ((0 : Int), ((0 : Int), ((0 : Int), (⟨#[]⟩ : ByteArray))))))).2.1 : Int) != (List.getD x0.2.1 (Int.toNat (List.getD x0.2.2 (Int.toNat v242) ((0 : Int), (0 : Int))).2) ((0 : Int), ((0 : Int), ((0 : Int), ((0 : Int), ((0 : Int), (⟨#[]⟩ : ByteArray))))))).1)) then true else (bif (decide ((v242 : Int) > (0 : Int))) then (!r251) else false)) : Bool)).bind fun v252 => (if v252 then (some false) else ((f70.l206 k x0) m206 (IntKind.i64.wrap (v242 + (1 : Int))))))) else none) else none) else none) else none) else (some true)
def f70.l118 (k : Nat) (x0 : ((List (Int × (Int × Int))) × ((List (Int × (Int × (Int × (Int × (Int × ByteArray)))))) × (List (Int × Int))))) : Nat → Int → Option Bool
  | 0, _ => none
  | m118 + 1, v142 => if (decide ((v142 : Int) < (List.length x0.2.1 : Int))) then (if (0 ≤ v142 ∧ v142 < (List.length x0.2.1 : Int)) then ((if ((bif (bif (bif (decide (((List.getD x0.2.1 (Int.toNat v142) ((0 : Int), ((0 : Int), ((0 : Int), ((0 : Int), ((0 : Int), (⟨#[]⟩ : ByteArray))))))).1 : Int) < (0 : Int))) then true else (decide (((List.getD x0.2.1 (Int.toNat v142) ((0 : Int), ((0 : Int), ((0 : Int), ((0 : Int), ((0 : Int), (⟨#[]⟩ : ByteArray))))))).1 : Int) ≥ (List.length x0.1 : Int)))) then true else (decide (((List.getD x0.2.1 (Int.toNat v142) ((0 : Int), ((0 : Int), ((0 : Int), ((0 : Int), ((0 : Int), (⟨#[]⟩ : ByteArray))))))).2.1 : Int) < (0 : Int)))) then true else (decide (((List.getD x0.2.1 (Int.toNat v142) ((0 : Int), ((0 : Int), ((0 : Int), ((0 : Int), ((0 : Int), (⟨#[]⟩ : ByteArray))))))).2.1 : Int) ≥ (List.length x0.1 : Int)))) = false) then f158 k (List.getD x0.2.1 (Int.toNat v142) ((0 : Int), ((0 : Int), ((0 : Int), ((0 : Int), ((0 : Int), (⟨#[]⟩ : ByteArray))))))).2.2.1 else some default).bind fun r148 => ((some ((bif (bif (bif (bif (bif (bif (bif (bif (decide (((List.getD x0.2.1 (Int.toNat v142) ((0 : Int), ((0 : Int), ((0 : Int), ((0 : Int), ((0 : Int), (⟨#[]⟩ : ByteArray))))))).1 : Int) < (0 : Int))) then true else (decide (((List.getD x0.2.1 (Int.toNat v142) ((0 : Int), ((0 : Int), ((0 : Int), ((0 : Int), ((0 : Int), (⟨#[]⟩ : ByteArray))))))).1 : Int) ≥ (List.length x0.1 : Int)))) then true else (decide (((List.getD x0.2.1 (Int.toNat v142) ((0 : Int), ((0 : Int), ((0 : Int), ((0 : Int), ((0 : Int), (⟨#[]⟩ : ByteArray))))))).2.1 : Int) < (0 : Int)))) then true else (decide (((List.getD x0.2.1 (Int.toNat v142) ((0 : Int), ((0 : Int), ((0 : Int), ((0 : Int), ((0 : Int), (⟨#[]⟩ : ByteArray))))))).2.1 : Int) ≥ (List.length x0.1 : Int)))) then true else (!r148)) then true else (decide (((List.getD x0.2.1 (Int.toNat v142) ((0 : Int), ((0 : Int), ((0 : Int), ((0 : Int), ((0 : Int), (⟨#[]⟩ : ByteArray))))))).2.2.2.1 : Int) < (1 : Int)))) then true else (decide (((List.getD x0.2.1 (Int.toNat v142) ((0 : Int), ((0 : Int), ((0 : Int), ((0 : Int), ((0 : Int), (⟨#[]⟩ : ByteArray))))))).2.2.2.1 : Int) > (1000000 : Int)))) then true else (decide (((List.getD x0.2.1 (Int.toNat v142) ((0 : Int), ((0 : Int), ((0 : Int), ((0 : Int), ((0 : Int), (⟨#[]⟩ : ByteArray))))))).2.2.2.2.1 : Int) < (0 : Int)))) then true else (decide (((List.getD x0.2.1 (Int.toNat v142) ((0 : Int), ((0 : Int), ((0 : Int), ((0 : Int), ((0 : Int), (⟨#[]⟩ : ByteArray))))))).2.2.2.2.1 : Int) > (1000000000 : Int)))) : Bool)).bind fun v149 => (if v149 then (some false) else ((f70.l118 k x0) m118 (IntKind.i64.wrap (v142 + (1 : Int))))))) else none) else (f70.l206 k x0 k (0 : Int))
def f70.l42 (k : Nat) (x0 : ((List (Int × (Int × Int))) × ((List (Int × (Int × (Int × (Int × (Int × ByteArray)))))) × (List (Int × Int))))) : Nat → Int → Option Bool
  | 0, _ => none
  | m42 + 1, v70 => if (decide ((v70 : Int) < (List.length x0.1 : Int))) then (if (0 ≤ v70 ∧ v70 < (List.length x0.1 : Int)) then ((f158 k (List.getD x0.1 (Int.toNat v70) ((0 : Int), ((0 : Int), (0 : Int)))).1).bind fun r77 => ((if ((!r77) = false) then f159 k (List.getD x0.1 (Int.toNat v70) ((0 : Int), ((0 : Int), (0 : Int)))).2 else some default).bind fun r78 => (if ((((bif (!r77) then true else (!r78)) = false) ∧ ((decide ((v70 : Int) > (0 : Int))) = true)) → (0 ≤ (IntKind.i64.wrap (v70 - (1 : Int))) ∧ (IntKind.i64.wrap (v70 - (1 : Int))) < (List.length x0.1 : Int))) then (if (bif (bif (!r77) then true else (!r78)) then true else (bif (decide ((v70 : Int) > (0 : Int))) then (decide (((List.getD x0.1 (Int.toNat (IntKind.i64.wrap (v70 - (1 : Int)))) ((0 : Int), ((0 : Int), (0 : Int)))).1 : Int) ≥ (List.getD x0.1 (Int.toNat v70) ((0 : Int), ((0 : Int), (0 : Int)))).1)) else false)) then (some false) else ((f70.l42 k x0) m42 (IntKind.i64.wrap (v70 + (1 : Int))))) else none))) else none) else (f70.l118 k x0 k (0 : Int))
def f70 (k : Nat) (x0 : ((List (Int × (Int × Int))) × ((List (Int × (Int × (Int × (Int × (Int × ByteArray)))))) × (List (Int × Int))))) : Option Bool := if (bif (bif (decide (((List.length x0.1 : Int) : Int) > (5000 : Int))) then true else (decide (((List.length x0.2.1 : Int) : Int) > (8000 : Int)))) then true else (decide (((List.length x0.2.2 : Int) : Int) > (2000 : Int)))) then (some false) else (f70.l42 k x0 k (0 : Int))
set_option maxRecDepth 100000 in
/-- 'spec.GraphOk'. -/
theorem c70 (k : Nat) (x0 : ((List (Int × (Int × Int))) × ((List (Int × (Int × (Int × (Int × (Int × ByteArray)))))) × (List (Int × Int))))) (r : Bool) (hF : f70 k x0 = some r) : PCall Try.prog 70 [⟨sh29, x0⟩] [⟨.bool, r⟩] := by
  refine pcall_intro Try.func70 rfl rfl (Nat.le_of_ble_eq_true rfl) ?_
  intro w0 Zi a w h
  rw [f70] at hF
  refine wp_reg_seq tok (orc := orcL []) (fz := []) (l := [1]) (c := _) (.inr fun i h => h) h (by kernel_rfl) (AllP.nil) ?_
  intro a w h
  refine wp_seq ?_
  refine wp_reg_seq tok (orc := orcL []) (fz := []) (l := [1, 26]) (c := _) (.inr fun i h => h) h (by kernel_rfl) (AllP.nil) ?_
  intro a w h
  refine wp_if h (b := (bif (bif (decide (((List.length x0.1 : Int) : Int) > (5000 : Int))) then true else (decide (((List.length x0.2.1 : Int) : Int) > (8000 : Int)))) then true else (decide (((List.length x0.2.2 : Int) : Int) > (2000 : Int))))) (by kernel_rfl) (fun hb => ?_) (fun hb => ?_)
  · replace hF := of_t hb hF
    refine wp_reg_seq tok (orc := orcL []) (fz := []) (l := [2]) (c := _) (.inr fun i h => h) h (by kernel_rfl) (AllP.nil) ?_
    intro a w h
    cases hF
    exact wp_ret (ret_okR tok h rfl (by kernel_rfl)).1
  · replace hF := of_f hb hF
    refine wp_skip ?_
    refine wp_seq ?_
    refine wp_reg_seq tok (orc := orcL []) (fz := []) (l := [1, 3]) (c := _) (.inr fun i h => h) h (by kernel_rfl) (AllP.nil) ?_
    intro a w h
    refine wp_block ?_
    refine wp_loop_fuel (f70.l42 k x0) (fun (v70 : Int) => [(1, .val sh28 (some x0)), (3, .val (.int .i64) v70)]) (fun v h => by rw [f70.l42] at h; cases h) ?_ hF (h.arrive (fz := []) (l := [1, 3]) (.inr fun i h => h) (by kernel_rfl))
    intro m42 v70 a w hF h
    rw [f70.l42] at hF
    refine wp_seq ?_
    refine wp_reg_seq tok (orc := orcL []) (fz := []) (l := [1, 3, 31]) (c := _) (.inr fun i h => h) h (by kernel_rfl) (AllP.nil) ?_
    intro a w h
    refine wp_if h (b := (decide ((v70 : Int) < (List.length x0.1 : Int)))) (by kernel_rfl) (fun hb => ?_) (fun hb => ?_)
    · replace hF := of_t hb hF
      refine wp_skip ?_
      refine wp_seq <| wp_block ?_
      obtain ⟨hc82, hF⟩ := of_if hF
      refine wp_reg_seq tok (orc := orcL []) (fz := []) (l := [1, 3, 4]) (c := _) (.inr fun i h => h) h (by kernel_rfl) (AllP.cons hc82 AllP.nil) ?_
      intro a w h
      obtain ⟨r77, hr79, hF⟩ := of_bind hF
      obtain ⟨r78, hr80, hF⟩ := of_bind hF
      obtain ⟨hc81, hF⟩ := of_if hF
      refine wp_regy_seq tok (orc := orcL [(41, [⟨.bool, r77⟩]), (46, [⟨.bool, r78⟩])]) (fz := []) (l := [1, 3, 64]) (c := _) ([], [], [], []) 26 (.inr fun i h => h) h (by kernel_rfl) (by kernel_rfl) (AllP.cons (c158 k (List.getD x0.1 (Int.toNat v70) ((0 : Int), ((0 : Int), (0 : Int)))).1 r77 hr79) (AllP.cons (fun (hg : ((!r77) = false)) => c159 k (List.getD x0.1 (Int.toNat v70) ((0 : Int), ((0 : Int), (0 : Int)))).2 r78 (of_g hg hr80)) (AllP.cons hc81 AllP.nil))) ?_
      intro a w h
      refine wp_if h (b := (bif (bif (!r77) then true else (!r78)) then true else (bif (decide ((v70 : Int) > (0 : Int))) then (decide (((List.getD x0.1 (Int.toNat (IntKind.i64.wrap (v70 - (1 : Int)))) ((0 : Int), ((0 : Int), (0 : Int)))).1 : Int) ≥ (List.getD x0.1 (Int.toNat v70) ((0 : Int), ((0 : Int), (0 : Int)))).1)) else false))) (by kernel_rfl) (fun hb => ?_) (fun hb => ?_)
      · replace hF := of_t hb hF
        refine wp_reg_seq tok (orc := orcL []) (fz := []) (l := [2]) (c := _) (.inr fun i h => h) h (by kernel_rfl) (AllP.nil) ?_
        intro a w h
        cases hF
        exact wp_ret (ret_okR tok h rfl (by kernel_rfl)).1
      · replace hF := of_f hb hF
        refine wp_skip ?_
        refine wp_reg tok (orc := orcL []) (fz := []) (l := [1, 3]) (c := _) (.inr fun i h => h) h (by kernel_rfl) (AllP.nil) ?_
        intro a w h
        exact ⟨(IntKind.i64.wrap (v70 + (1 : Int))), hF, h.arrive (fz := []) (l := [1, 3]) (.inr fun i h => h) (by kernel_rfl)⟩
    · replace hF := of_f hb hF
      refine wp_exit ?_
      refine wp_reg_seq tok (orc := orcL []) (fz := []) (l := [1, 5]) (c := _) (.inr fun i h => h) h (by kernel_rfl) (AllP.nil) ?_
      intro a w h
      refine wp_seq ?_
      refine wp_reg_seq tok (orc := orcL []) (fz := []) (l := [1, 5, 6]) (c := _) (.inr fun i h => h) h (by kernel_rfl) (AllP.nil) ?_
      intro a w h
      refine wp_block ?_
      refine wp_loop_fuel (f70.l118 k x0) (fun (v142 : Int) => [(1, .val sh28 (some x0)), (5, .val (.int .i64) (List.length x0.1 : Int)), (6, .val (.int .i64) v142)]) (fun v h => by rw [f70.l118] at h; cases h) ?_ hF (h.arrive (fz := []) (l := [1, 5, 6]) (.inr fun i h => h) (by kernel_rfl))
      intro m118 v142 a w hF h
      rw [f70.l118] at hF
      refine wp_seq ?_
      refine wp_reg_seq tok (orc := orcL []) (fz := []) (l := [1, 5, 6, 72]) (c := _) (.inr fun i h => h) h (by kernel_rfl) (AllP.nil) ?_
      intro a w h
      refine wp_if h (b := (decide ((v142 : Int) < (List.length x0.2.1 : Int)))) (by kernel_rfl) (fun hb => ?_) (fun hb => ?_)
      · replace hF := of_t hb hF
        refine wp_skip ?_
        refine wp_seq <| wp_block ?_
        obtain ⟨hc152, hF⟩ := of_if hF
        refine wp_reg_seq tok (orc := orcL []) (fz := []) (l := [1, 5, 6, 7]) (c := _) (.inr fun i h => h) h (by kernel_rfl) (AllP.cons hc152 AllP.nil) ?_
        intro a w h
        obtain ⟨r148, hr151, hF⟩ := of_bind hF
        refine wp_reg_seq tok (orc := orcL [(103, [⟨.bool, r148⟩])]) (fz := []) (l := [1, 5, 6, 125]) (c := _) (.inr fun i h => h) h (by kernel_rfl) (AllP.cons (fun (hg : ((bif (bif (bif (decide (((List.getD x0.2.1 (Int.toNat v142) ((0 : Int), ((0 : Int), ((0 : Int), ((0 : Int), ((0 : Int), (⟨#[]⟩ : ByteArray))))))).1 : Int) < (0 : Int))) then true else (decide (((List.getD x0.2.1 (Int.toNat v142) ((0 : Int), ((0 : Int), ((0 : Int), ((0 : Int), ((0 : Int), (⟨#[]⟩ : ByteArray))))))).1 : Int) ≥ (List.length x0.1 : Int)))) then true else (decide (((List.getD x0.2.1 (Int.toNat v142) ((0 : Int), ((0 : Int), ((0 : Int), ((0 : Int), ((0 : Int), (⟨#[]⟩ : ByteArray))))))).2.1 : Int) < (0 : Int)))) then true else (decide (((List.getD x0.2.1 (Int.toNat v142) ((0 : Int), ((0 : Int), ((0 : Int), ((0 : Int), ((0 : Int), (⟨#[]⟩ : ByteArray))))))).2.1 : Int) ≥ (List.length x0.1 : Int)))) = false)) => c158 k (List.getD x0.2.1 (Int.toNat v142) ((0 : Int), ((0 : Int), ((0 : Int), ((0 : Int), ((0 : Int), (⟨#[]⟩ : ByteArray))))))).2.2.1 r148 (of_g hg hr151)) AllP.nil) ?_
        intro a w h
        obtain ⟨v149, hv150, hF⟩ := of_bind hF
        replace h := h.cast (S' := [(1, .val sh28 (some x0)), (5, .val (.int .i64) (List.length x0.1 : Int)), (6, .val (.int .i64) v142), (125, .val .bool v149)]) (by cases hv150; kernel_rfl)
        refine wp_if h (b := v149) (by kernel_rfl) (fun hb => ?_) (fun hb => ?_)
        · replace hF := of_t hb hF
          refine wp_reg_seq tok (orc := orcL []) (fz := []) (l := [2]) (c := _) (.inr fun i h => h) h (by kernel_rfl) (AllP.nil) ?_
          intro a w h
          cases hF
          exact wp_ret (ret_okR tok h rfl (by kernel_rfl)).1
        · replace hF := of_f hb hF
          refine wp_skip ?_
          refine wp_reg tok (orc := orcL []) (fz := []) (l := [1, 5, 6]) (c := _) (.inr fun i h => h) h (by kernel_rfl) (AllP.nil) ?_
          intro a w h
          exact ⟨(IntKind.i64.wrap (v142 + (1 : Int))), hF, h.arrive (fz := []) (l := [1, 5, 6]) (.inr fun i h => h) (by kernel_rfl)⟩
      · replace hF := of_f hb hF
        refine wp_exit ?_
        refine wp_reg_seq tok (orc := orcL []) (fz := []) (l := [1, 8]) (c := _) (.inr fun i h => h) h (by kernel_rfl) (AllP.nil) ?_
        intro a w h
        refine wp_seq ?_
        refine wp_reg_seq tok (orc := orcL []) (fz := []) (l := [1, 8, 9]) (c := _) (.inr fun i h => h) h (by kernel_rfl) (AllP.nil) ?_
        intro a w h
        refine wp_block ?_
        refine wp_loop_fuel (f70.l206 k x0) (fun (v242 : Int) => [(1, .val sh28 (some x0)), (8, .val (.int .i64) (List.length x0.2.1 : Int)), (9, .val (.int .i64) v242)]) (fun v h => by rw [f70.l206] at h; cases h) ?_ hF (h.arrive (fz := []) (l := [1, 8, 9]) (.inr fun i h => h) (by kernel_rfl))
        intro m206 v242 a w hF h
        rw [f70.l206] at hF
        refine wp_seq ?_
        refine wp_reg_seq tok (orc := orcL []) (fz := []) (l := [1, 8, 9, 133]) (c := _) (.inr fun i h => h) h (by kernel_rfl) (AllP.nil) ?_
        intro a w h
        refine wp_if h (b := (decide ((v242 : Int) < (List.length x0.2.2 : Int)))) (by kernel_rfl) (fun hb => ?_) (fun hb => ?_)
        · replace hF := of_t hb hF
          refine wp_skip ?_
          refine wp_seq <| wp_block ?_
          obtain ⟨hc258, hF⟩ := of_if hF
          refine wp_reg_seq tok (orc := orcL []) (fz := []) (l := [1, 8, 9, 10]) (c := _) (.inr fun i h => h) h (by kernel_rfl) (AllP.cons hc258 AllP.nil) ?_
          intro a w h
          obtain ⟨hc254, hF⟩ := of_if hF
          obtain ⟨hc255, hF⟩ := of_if hF
          obtain ⟨hc256, hF⟩ := of_if hF
          obtain ⟨r251, hr257, hF⟩ := of_bind hF
          refine wp_regy_seq tok (orc := orcL [(189, [⟨.bool, r251⟩])]) (fz := []) (l := [1, 8, 9, 192]) (c := _) ([], [], [], []) 52 (.inr fun i h => h) h (by kernel_rfl) (by kernel_rfl) (AllP.cons hc254 (AllP.cons hc255 (AllP.cons hc256 (AllP.cons (fun (hg : (((bif (bif (bif (bif (decide (((List.getD x0.2.2 (Int.toNat v242) ((0 : Int), (0 : Int))).1 : Int) < (0 : Int))) then true else (decide (((List.getD x0.2.2 (Int.toNat v242) ((0 : Int), (0 : Int))).1 : Int) ≥ (List.length x0.2.1 : Int)))) then true else (decide (((List.getD x0.2.2 (Int.toNat v242) ((0 : Int), (0 : Int))).2 : Int) < (0 : Int)))) then true else (decide (((List.getD x0.2.2 (Int.toNat v242) ((0 : Int), (0 : Int))).2 : Int) ≥ (List.length x0.2.1 : Int)))) then true else (((List.getD x0.2.1 (Int.toNat (List.getD x0.2.2 (Int.toNat v242) ((0 : Int), (0 : Int))).1) ((0 : Int), ((0 : Int), ((0 : Int), ((0 : Int), ((0 : Int), (⟨#[]⟩ : ByteArray))))))).2.1 : Int) != (List.getD x0.2.1 (Int.toNat (List.getD x0.2.2 (Int.toNat v242) ((0 : Int), (0 : Int))).2) ((0 : Int), ((0 : Int), ((0 : Int), ((0 : Int), ((0 : Int), (⟨#[]⟩ : ByteArray))))))).1)) = false) ∧ ((decide ((v242 : Int) > (0 : Int))) = true))) => c160 k (List.getD x0.2.2 (Int.toNat (IntKind.i64.wrap (v242 - (1 : Int)))) ((0 : Int), (0 : Int))) (List.getD x0.2.2 (Int.toNat v242) ((0 : Int), (0 : Int))) r251 (of_g hg hr257)) AllP.nil)))) ?_
          intro a w h
          obtain ⟨v252, hv253, hF⟩ := of_bind hF
          replace h := h.cast (S' := [(1, .val sh28 (some x0)), (8, .val (.int .i64) (List.length x0.2.1 : Int)), (9, .val (.int .i64) v242), (192, .val .bool v252)]) (by cases hv253; kernel_rfl)
          refine wp_if h (b := v252) (by kernel_rfl) (fun hb => ?_) (fun hb => ?_)
          · replace hF := of_t hb hF
            refine wp_reg_seq tok (orc := orcL []) (fz := []) (l := [2]) (c := _) (.inr fun i h => h) h (by kernel_rfl) (AllP.nil) ?_
            intro a w h
            cases hF
            exact wp_ret (ret_okR tok h rfl (by kernel_rfl)).1
          · replace hF := of_f hb hF
            refine wp_skip ?_
            refine wp_reg tok (orc := orcL []) (fz := []) (l := [1, 8, 9]) (c := _) (.inr fun i h => h) h (by kernel_rfl) (AllP.nil) ?_
            intro a w h
            exact ⟨(IntKind.i64.wrap (v242 + (1 : Int))), hF, h.arrive (fz := []) (l := [1, 8, 9]) (.inr fun i h => h) (by kernel_rfl)⟩
        · replace hF := of_f hb hF
          refine wp_exit ?_
          refine wp_reg_seq tok (orc := orcL []) (fz := []) (l := [2]) (c := _) (.inr fun i h => h) h (by kernel_rfl) (AllP.nil) ?_
          intro a w h
          cases hF
          exact wp_ret (ret_okR tok h rfl (by kernel_rfl)).1

end Go.Proofs.Ytchbpdnaodicaaa.V
