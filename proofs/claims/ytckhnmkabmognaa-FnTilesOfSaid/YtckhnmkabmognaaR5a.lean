/-
  THE CONTRACTS OF SOME FUNCTIONS OF THIS SEAT, PRINTED BY A PROGRAM OF THIS PROJECT (wip/gen/vgen.py).
-/
import Derived.Test.YtckhnmkabmognaaProg
import Derived.Test.YtckhnmkabmognaaVmW
import Derived.Test.YtckhnmkabmognaaVmZv
import Derived.KernelRfl
set_option linter.unusedVariables false
open Go Go.Vm Go.Proofs
namespace Go.Proofs.Ytckhnmkabmognaa.V
abbrev sh0 : Sh := (.pt true 97 (.st (.pair (.sl false 5 (.int .u8)) (.pair (.int .i64) (.int .i64)))))
abbrev sh1 : Sh := (.pt true 25 (.st (.pair (.int .i64) (.int .i64))))
abbrev sh2 : Sh := (.st (.pair (.int .i64) (.int .i64)))
abbrev sh3 : Sh := (.pt true 27 (.st (.pair (.st (.pair (.int .i64) (.int .i64))) (.st (.pair (.int .i64) (.int .i64))))))
abbrev sh4 : Sh := (.st (.pair (.st (.pair (.int .i64) (.int .i64))) (.st (.pair (.int .i64) (.int .i64)))))
abbrev sh5 : Sh := (.pt true 34 (.st (.pair (.int .i64) (.pair (.int .i64) (.int .i64)))))
abbrev sh6 : Sh := (.st (.pair (.int .i64) (.pair (.int .i64) (.int .i64))))
abbrev sh7 : Sh := (.sl true 34 (.st (.pair (.int .i64) (.pair (.int .i64) (.int .i64)))))
abbrev sh8 : Sh := (.sl false 34 (.st (.pair (.int .i64) (.pair (.int .i64) (.int .i64)))))
def tbl : Tbl := [⟨2, .int .i64, 1, 8, (.int .i64)⟩,
  ⟨3, .int .i64, 1, 8, (.int .i64)⟩,
  ⟨4, .bool, 1, 1, .bool⟩,
  ⟨5, .int .u8, 1, 1, (.int .u8)⟩,
  ⟨22, .slice 5, 1, 24, (.sl true 5 (.int .u8))⟩,
  ⟨25, .struct [(2, 0), (2, 1)], 2, 16, (.st (.pair (.int .i64) (.int .i64)))⟩,
  ⟨27, .struct [(25, 0), (25, 2)], 4, 32, (.st (.pair (.st (.pair (.int .i64) (.int .i64))) (.st (.pair (.int .i64) (.int .i64)))))⟩,
  ⟨30, .slice 34, 1, 24, (.sl true 34 (.st (.pair (.int .i64) (.pair (.int .i64) (.int .i64)))))⟩,
  ⟨34, .struct [(2, 0), (2, 1), (2, 2)], 3, 24, (.st (.pair (.int .i64) (.pair (.int .i64) (.int .i64))))⟩,
  ⟨55, .ptr 97, 1, 8, (.pt true 97 (.st (.pair (.sl false 5 (.int .u8)) (.pair (.int .i64) (.int .i64)))))⟩,
  ⟨97, .struct [(22, 0), (3, 1), (2, 2)], 3, 40, (.st (.pair (.sl false 5 (.int .u8)) (.pair (.int .i64) (.int .i64))))⟩,
  ⟨101, .int .u64, 1, 8, (.int .u64)⟩,
  ⟨102, .slice 2, 1, 24, (.sl true 2 (.int .i64))⟩]
theorem tok : TOk Try.prog tbl := by unfold TOk; kernel_rfl

def f6 (k : Nat) (x0 : (List Int)) : Option Bool := some (decide (((List.length x0 : Int) : Int) > (1048576 : Int)))
set_option maxRecDepth 100000 in
/-- 'laws.big'. -/
theorem c6 (k : Nat) (x0 : (List Int)) (r : Bool) (hF : f6 k x0 = some r) : PCall Try.prog 6 [⟨(.sl false 5 (.int .u8)), x0⟩] [⟨.bool, r⟩] := by
  refine pcall_intro Try.func6 rfl rfl (Nat.le_of_ble_eq_true rfl) ?_
  intro w0 Zi a w h
  rw [f6] at hF
  refine wp_reg_seq tok (orc := orcL []) (fz := []) (l := [0]) (c := _) (.inr fun i h => h) h (by kernel_rfl) (AllP.nil) ?_
  intro a w h
  refine wp_reg_seq tok (orc := orcL []) (fz := []) (l := [2]) (c := _) (.inr fun i h => h) h (by kernel_rfl) (AllP.nil) ?_
  intro a w h
  cases hF
  exact wp_ret (ret_okR tok h rfl (by kernel_rfl)).1

def f26.l16 (k : Nat) (x0 : (List Int)) : Nat → (Int × Int) → Option ((List Int) × (Int × Int))
  | 0, _ => none
  | m16 + 1, (v27, v28) => if (decide ((v28 : Int) < (List.length x0 : Int))) then (if (0 ≤ v28 ∧ v28 < (List.length x0 : Int)) then ((f26.l16 k x0) m16 ((Go.bits .and .i64 (IntKind.i64.wrap ((IntKind.i64.wrap ((IntKind.i64.wrap (v27 * (149 : Int))) + (IntKind.i64.wrap (List.getD x0 (Int.toNat v28) (0 : Int))))) + (3 : Int))) (1073741823 : Int)), (IntKind.i64.wrap (v28 + (1 : Int))))) else none) else (some (x0, ((0 : Int), v27)))
def f26 (k : Nat) (x0 : (List Int)) : Option ((List Int) × (Int × Int)) := f26.l16 k x0 k ((IntKind.i64.wrap ((90001 : Int) + (List.length x0 : Int))), (0 : Int))
set_option maxRecDepth 100000 in
/-- 'spec.l1New'. -/
theorem c26 (k : Nat) (x0 : (List Int)) (r : ((List Int) × (Int × Int))) (hF : f26 k x0 = some r) : PCall Try.prog 26 [⟨(.sl false 5 (.int .u8)), x0⟩] [⟨sh0, some r⟩] := by
  refine pcall_intro Try.func26 rfl rfl (Nat.le_of_ble_eq_true rfl) ?_
  intro w0 Zi a w h
  rw [f26] at hF
  refine wp_reg_seq tok (orc := orcL []) (fz := []) (l := [0]) (c := _) (.inr fun i h => h) h (by kernel_rfl) (AllP.nil) ?_
  intro a w h
  refine wp_reg_seq tok (orc := orcL []) (fz := []) (l := [0, 3]) (c := _) (.inr fun i h => h) h (by kernel_rfl) (AllP.nil) ?_
  intro a w h
  refine wp_seq ?_
  refine wp_reg_seq tok (orc := orcL []) (fz := []) (l := [0, 3, 4]) (c := _) (.inr fun i h => h) h (by kernel_rfl) (AllP.nil) ?_
  intro a w h
  refine wp_block ?_
  refine wp_loop_fuel (f26.l16 k x0) (fun ((v27, v28) : (Int × Int)) => [(0, .val (.sl false 5 (.int .u8)) x0), (3, .val (.int .i64) v27), (4, .val (.int .i64) v28)]) (fun v h => by obtain ⟨v27, v28⟩ := v; rw [f26.l16] at h; cases h) ?_ hF (h.arrive (fz := []) (l := [0, 3, 4]) (.inr fun i h => h) (by kernel_rfl))
  intro m16 v a w hF h
  obtain ⟨v27, v28⟩ := v
  rw [f26.l16] at hF
  refine wp_seq ?_
  refine wp_reg_seq tok (orc := orcL []) (fz := []) (l := [0, 3, 4, 11]) (c := _) (.inr fun i h => h) h (by kernel_rfl) (AllP.nil) ?_
  intro a w h
  refine wp_if h (b := (decide ((v28 : Int) < (List.length x0 : Int)))) (by kernel_rfl) (fun hb => ?_) (fun hb => ?_)
  · replace hF := of_t hb hF
    refine wp_skip ?_
    refine wp_seq <| wp_block ?_
    obtain ⟨hc30, hF⟩ := of_if hF
    refine wp_reg tok (orc := orcL []) (fz := []) (l := [0, 3, 4]) (c := _) (.inr fun i h => h) h (by kernel_rfl) (AllP.cons hc30 AllP.nil) ?_
    intro a w h
    refine wp_reg tok (orc := orcL []) (fz := []) (l := [0, 3, 4]) (c := _) (.inr fun i h => h) h (by kernel_rfl) (AllP.nil) ?_
    intro a w h
    exact ⟨((Go.bits .and .i64 (IntKind.i64.wrap ((IntKind.i64.wrap ((IntKind.i64.wrap (v27 * (149 : Int))) + (IntKind.i64.wrap (List.getD x0 (Int.toNat v28) (0 : Int))))) + (3 : Int))) (1073741823 : Int)), (IntKind.i64.wrap (v28 + (1 : Int)))), hF, h.arrive (fz := []) (l := [0, 3, 4]) (.inr fun i h => h) (by kernel_rfl)⟩
  · replace hF := of_f hb hF
    refine wp_exit ?_
    refine wp_reg_seq tok (orc := orcL []) (fz := []) (l := [2]) (c := _) (.inr fun i h => h) h (by kernel_rfl) (AllP.nil) ?_
    intro a w h
    cases hF
    exact wp_ret (ret_okR tok h rfl (by kernel_rfl)).1

def f62.j6 (k : Nat) (x0 : ((List Int) × (Int × Int))) : (Int × Int) → Option (Int × ((List Int) × (Int × Int)))
  | (v4, v5) => some (v5, (x0.1, (v4, (IntKind.i64.wrap ((IntKind.i64.wrap (x0.2.2 * (6364136223846793005 : Int))) + (1442695040888963407 : Int))))))
def f62 (k : Nat) (x0 : ((List Int) × (Int × Int))) : Option (Int × ((List Int) × (Int × Int))) := if ((0 : Int) ≤ (33 : Int)) then (if ((0 : Int) ≤ (45 : Int)) then (if (decide ((x0.2.1 : Int) < (List.length x0.1 : Int))) then (if (0 ≤ x0.2.1 ∧ x0.2.1 < (List.length x0.1 : Int)) then ((some ((Go.bits .and .i64 (IntKind.i64.wrap ((Go.bits .and .i64 (Go.bits .xor .i64 (Int.fdiv (IntKind.i64.wrap ((IntKind.i64.wrap (x0.2.2 * (6364136223846793005 : Int))) + (1442695040888963407 : Int))) (2 ^ (min (Int.toNat (33 : Int)) IntKind.i64.bits))) (Int.fdiv (IntKind.i64.wrap ((IntKind.i64.wrap (x0.2.2 * (6364136223846793005 : Int))) + (1442695040888963407 : Int))) (2 ^ (min (Int.toNat (45 : Int)) IntKind.i64.bits)))) (255 : Int)) + (IntKind.i64.wrap (List.getD x0.1 (Int.toNat x0.2.1) (0 : Int))))) (255 : Int)) : Int)).bind fun v7 => (f62.j6 k x0 ((IntKind.i64.wrap (x0.2.1 + (1 : Int))), v7))) else none) else (f62.j6 k x0 (x0.2.1, (Go.bits .and .i64 (Go.bits .xor .i64 (Int.fdiv (IntKind.i64.wrap ((IntKind.i64.wrap (x0.2.2 * (6364136223846793005 : Int))) + (1442695040888963407 : Int))) (2 ^ (min (Int.toNat (33 : Int)) IntKind.i64.bits))) (Int.fdiv (IntKind.i64.wrap ((IntKind.i64.wrap (x0.2.2 * (6364136223846793005 : Int))) + (1442695040888963407 : Int))) (2 ^ (min (Int.toNat (45 : Int)) IntKind.i64.bits)))) (255 : Int))))) else none) else none
set_option maxRecDepth 100000 in
/-- 'spec.l1Byte'. -/
theorem c62 (k : Nat) (x0 : ((List Int) × (Int × Int))) (r : (Int × ((List Int) × (Int × Int)))) (hF : f62 k x0 = some r) : PMut Try.prog 62 [⟨sh0, some x0⟩] [⟨(.int .i64), r.1⟩] (List.set [⟨sh0, some x0⟩] 0 ⟨sh0, some r.2⟩) := by
  refine pmut_intro (j := 0) (fin := ⟨sh0, some r.2⟩) Try.func62 rfl rfl (Nat.le_of_ble_eq_true rfl) (Nat.le_of_ble_eq_true rfl) (by kernel_rfl) ?_
  intro w0 Zi f0 v0 a w h
  rw [f62] at hF
  refine wp_reg_seq tok (orc := orcL []) (fz := []) (l := [0]) (c := _) (.inl rfl) h (by kernel_rfl) (AllP.nil) ?_
  intro a w h
  refine wp_reg_seq tok (orc := orcL []) (fz := []) (l := [0]) (c := _) (.inl rfl) h (by kernel_rfl) (AllP.nil) ?_
  intro a w h
  obtain ⟨hc10, hF⟩ := of_if hF
  obtain ⟨hc11, hF⟩ := of_if hF
  refine wp_regy_seq tok (orc := orcL []) (fz := []) (l := [0, 3]) (c := _) ([], [], [], []) 13 (.inl rfl) h (by kernel_rfl) (by kernel_rfl) (AllP.cons hc10 (AllP.cons hc11 AllP.nil)) ?_
  intro a w h
  refine wp_seq ?_
  refine wp_regy_seq tok (orc := orcL []) (fz := []) (l := [0, 3, 34]) (c := _) ([], [], [], []) 10 (.inl rfl) h (by kernel_rfl) (by kernel_rfl) (AllP.nil) ?_
  intro a w h
  refine wp_midT (fun a w => ∃ v : (Int × Int), f62.j6 k x0 v = some r ∧ Rel w0 f0 Zi ⟨Try.f62.ntmps, [0], fun _ => v0⟩ ((fun ((v4, v5) : (Int × Int)) => ([(0, .val sh0 (some (x0.1, (v4, (IntKind.i64.wrap ((IntKind.i64.wrap (x0.2.2 * (6364136223846793005 : Int))) + (1442695040888963407 : Int))))))), (3, .val (.int .i64) v5)] : SS)) v) a w) ?_ ?_
  ·
    refine wp_if h (b := (decide ((x0.2.1 : Int) < (List.length x0.1 : Int)))) (by kernel_rfl) (fun hb => ?_) (fun hb => ?_)
    · replace hF := of_t hb hF
      obtain ⟨hc9, hF⟩ := of_if hF
      refine wp_regy_seq tok (orc := orcL []) (fz := []) (l := [0, 3]) (c := _) ([], [], [], []) 15 (.inl rfl) h (by kernel_rfl) (by kernel_rfl) (AllP.cons hc9 AllP.nil) ?_
      intro a w h
      obtain ⟨v7, hv8, hF⟩ := of_bind hF
      replace h := h.cast (S' := [(0, .val sh0 (some (x0.1, (x0.2.1, (IntKind.i64.wrap ((IntKind.i64.wrap (x0.2.2 * (6364136223846793005 : Int))) + (1442695040888963407 : Int))))))), (3, .val (.int .i64) v7)]) (by cases hv8; kernel_rfl)
      refine wp_reg tok (orc := orcL []) (fz := []) (l := [0, 3]) (c := _) (.inl rfl) h (by kernel_rfl) (AllP.nil) ?_
      intro a w h
      exact ⟨((IntKind.i64.wrap (x0.2.1 + (1 : Int))), v7), hF, h.arrive (fz := []) (l := [0, 3]) (.inl rfl) (by kernel_rfl)⟩
    · replace hF := of_f hb hF
      refine wp_skip ?_
      exact ⟨(x0.2.1, (Go.bits .and .i64 (Go.bits .xor .i64 (Int.fdiv (IntKind.i64.wrap ((IntKind.i64.wrap (x0.2.2 * (6364136223846793005 : Int))) + (1442695040888963407 : Int))) (2 ^ (min (Int.toNat (33 : Int)) IntKind.i64.bits))) (Int.fdiv (IntKind.i64.wrap ((IntKind.i64.wrap (x0.2.2 * (6364136223846793005 : Int))) + (1442695040888963407 : Int))) (2 ^ (min (Int.toNat (45 : Int)) IntKind.i64.bits)))) (255 : Int))), hF, h.arrive (fz := []) (l := [0, 3]) (.inl rfl) (by kernel_rfl)⟩
  · rintro a w ⟨v, hF, h⟩
    obtain ⟨v4, v5⟩ := v
    rw [f62.j6] at hF
    refine wp_reg_seq tok (orc := orcL []) (fz := []) (l := [0, 2]) (c := _) (.inl rfl) h (by kernel_rfl) (AllP.nil) ?_
    intro a w h
    cases hF
    exact wp_ret (retM_ok tok h rfl (by kernel_rfl) (by kernel_rfl)).1

def f28 (k : Nat) (x0 : ((List Int) × (Int × Int))) (x1 : Int) : Option (Int × ((List Int) × (Int × Int))) := if (decide ((x1 : Int) ≤ (0 : Int))) then (some ((0 : Int), x0)) else (if (decide ((x1 : Int) ≤ (256 : Int))) then ((f62 k x0).bind fun r4 => (if ((x1 : Int) ≠ 0) then (some ((Int.tmod r4.1 x1), r4.2)) else none)) else ((f62 k x0).bind fun r7 => ((f62 k r7.2).bind fun r8 => ((f62 k r8.2).bind fun r9 => ((f62 k r9.2).bind fun r10 => (if ((x1 : Int) ≠ 0) then (some ((Int.tmod (IntKind.i64.wrap ((IntKind.i64.wrap ((IntKind.i64.wrap ((IntKind.i64.wrap (r7.1 * (16777216 : Int))) + (IntKind.i64.wrap (r8.1 * (65536 : Int))))) + (IntKind.i64.wrap (r9.1 * (256 : Int))))) + r10.1)) x1), r10.2)) else none))))))
set_option maxRecDepth 100000 in
/-- 'spec.l1Below'. -/
theorem c28 (k : Nat) (x0 : ((List Int) × (Int × Int))) (x1 : Int) (r : (Int × ((List Int) × (Int × Int)))) (hF : f28 k x0 x1 = some r) : PMut Try.prog 28 [⟨sh0, some x0⟩, ⟨(.int .i64), x1⟩] [⟨(.int .i64), r.1⟩] (List.set [⟨sh0, some x0⟩, ⟨(.int .i64), x1⟩] 0 ⟨sh0, some r.2⟩) := by
  refine pmut_intro (j := 0) (fin := ⟨sh0, some r.2⟩) Try.func28 rfl rfl (Nat.le_of_ble_eq_true rfl) (Nat.le_of_ble_eq_true rfl) (by kernel_rfl) ?_
  intro w0 Zi f0 v0 a w h
  rw [f28] at hF
  refine wp_reg_seq tok (orc := orcL []) (fz := []) (l := [0, 1]) (c := _) (.inl rfl) h (by kernel_rfl) (AllP.nil) ?_
  intro a w h
  refine wp_seq ?_
  refine wp_reg_seq tok (orc := orcL []) (fz := []) (l := [0, 1, 10]) (c := _) (.inl rfl) h (by kernel_rfl) (AllP.nil) ?_
  intro a w h
  refine wp_if h (b := (decide ((x1 : Int) ≤ (0 : Int)))) (by kernel_rfl) (fun hb => ?_) (fun hb => ?_)
  · replace hF := of_t hb hF
    refine wp_reg_seq tok (orc := orcL []) (fz := []) (l := [0, 4]) (c := _) (.inl rfl) h (by kernel_rfl) (AllP.nil) ?_
    intro a w h
    cases hF
    exact wp_ret (retM_ok tok h rfl (by kernel_rfl) (by kernel_rfl)).1
  · replace hF := of_f hb hF
    refine wp_skip ?_
    refine wp_seq ?_
    refine wp_reg_seq tok (orc := orcL []) (fz := []) (l := [0, 1, 12]) (c := _) (.inl rfl) h (by kernel_rfl) (AllP.nil) ?_
    intro a w h
    refine wp_if h (b := (decide ((x1 : Int) ≤ (256 : Int)))) (by kernel_rfl) (fun hb => ?_) (fun hb => ?_)
    · replace hF := of_t hb hF
      obtain ⟨r4, hr5, hF⟩ := of_bind hF
      obtain ⟨hc6, hF⟩ := of_if hF
      refine wp_reg_seq tok (orc := orcL [(14, [⟨.pt false 4294967295 (.pt true 97 (.st (.pair (.sl false 5 (.int .u8)) (.pair (.int .i64) (.int .i64))))), some (some r4.2)⟩, ⟨(.int .i64), r4.1⟩])]) (fz := []) (l := [0, 4]) (c := _) (.inl rfl) h (by kernel_rfl) (AllP.cons (c62 k x0 r4 hr5) (AllP.cons hc6 AllP.nil)) ?_
      intro a w h
      cases hF
      exact wp_ret (retM_ok tok h rfl (by kernel_rfl) (by kernel_rfl)).1
    · replace hF := of_f hb hF
      refine wp_skip ?_
      obtain ⟨r7, hr15, hF⟩ := of_bind hF
      refine wp_reg_seq tok (orc := orcL [(18, [⟨.pt false 4294967295 (.pt true 97 (.st (.pair (.sl false 5 (.int .u8)) (.pair (.int .i64) (.int .i64))))), some (some r7.2)⟩, ⟨(.int .i64), r7.1⟩])]) (fz := []) (l := [0, 1, 5]) (c := _) (.inl rfl) h (by kernel_rfl) (AllP.cons (c62 k x0 r7 hr15) AllP.nil) ?_
      intro a w h
      obtain ⟨r8, hr14, hF⟩ := of_bind hF
      refine wp_reg_seq tok (orc := orcL [(20, [⟨.pt false 4294967295 (.pt true 97 (.st (.pair (.sl false 5 (.int .u8)) (.pair (.int .i64) (.int .i64))))), some (some r8.2)⟩, ⟨(.int .i64), r8.1⟩])]) (fz := []) (l := [0, 1, 5, 6]) (c := _) (.inl rfl) h (by kernel_rfl) (AllP.cons (c62 k r7.2 r8 hr14) AllP.nil) ?_
      intro a w h
      obtain ⟨r9, hr13, hF⟩ := of_bind hF
      refine wp_reg_seq tok (orc := orcL [(22, [⟨.pt false 4294967295 (.pt true 97 (.st (.pair (.sl false 5 (.int .u8)) (.pair (.int .i64) (.int .i64))))), some (some r9.2)⟩, ⟨(.int .i64), r9.1⟩])]) (fz := []) (l := [0, 1, 5, 6, 7]) (c := _) (.inl rfl) h (by kernel_rfl) (AllP.cons (c62 k r8.2 r9 hr13) AllP.nil) ?_
      intro a w h
      obtain ⟨r10, hr12, hF⟩ := of_bind hF
      refine wp_reg_seq tok (orc := orcL [(24, [⟨.pt false 4294967295 (.pt true 97 (.st (.pair (.sl false 5 (.int .u8)) (.pair (.int .i64) (.int .i64))))), some (some r10.2)⟩, ⟨(.int .i64), r10.1⟩])]) (fz := []) (l := [0, 1, 5, 6, 7, 8]) (c := _) (.inl rfl) h (by kernel_rfl) (AllP.cons (c62 k r9.2 r10 hr12) AllP.nil) ?_
      intro a w h
      obtain ⟨hc11, hF⟩ := of_if hF
      refine wp_reg_seq tok (orc := orcL []) (fz := []) (l := [0, 4]) (c := _) (.inl rfl) h (by kernel_rfl) (AllP.cons hc11 AllP.nil) ?_
      intro a w h
      cases hF
      exact wp_ret (retM_ok tok h rfl (by kernel_rfl) (by kernel_rfl)).1

def f29 (k : Nat) (x0 : ((List Int) × (Int × Int))) (x1 : Int) : Option (Bool × ((List Int) × (Int × Int))) := (f28 k x0 x1).bind fun r1 => (some (((r1.1 : Int) == (0 : Int)), r1.2))
set_option maxRecDepth 100000 in
/-- 'spec.l1Once'. -/
theorem c29 (k : Nat) (x0 : ((List Int) × (Int × Int))) (x1 : Int) (r : (Bool × ((List Int) × (Int × Int)))) (hF : f29 k x0 x1 = some r) : PMut Try.prog 29 [⟨sh0, some x0⟩, ⟨(.int .i64), x1⟩] [⟨.bool, r.1⟩] (List.set [⟨sh0, some x0⟩, ⟨(.int .i64), x1⟩] 0 ⟨sh0, some r.2⟩) := by
  refine pmut_intro (j := 0) (fin := ⟨sh0, some r.2⟩) Try.func29 rfl rfl (Nat.le_of_ble_eq_true rfl) (Nat.le_of_ble_eq_true rfl) (by kernel_rfl) ?_
  intro w0 Zi f0 v0 a w h
  rw [f29] at hF
  refine wp_reg_seq tok (orc := orcL []) (fz := []) (l := [0, 1]) (c := _) (.inl rfl) h (by kernel_rfl) (AllP.nil) ?_
  intro a w h
  obtain ⟨r1, hr2, hF⟩ := of_bind hF
  refine wp_reg_seq tok (orc := orcL [(7, [⟨.pt false 4294967295 (.pt true 97 (.st (.pair (.sl false 5 (.int .u8)) (.pair (.int .i64) (.int .i64))))), some (some r1.2)⟩, ⟨(.int .i64), r1.1⟩])]) (fz := []) (l := [0, 4]) (c := _) (.inl rfl) h (by kernel_rfl) (AllP.cons (c28 k x0 x1 r1 hr2) AllP.nil) ?_
  intro a w h
  cases hF
  exact wp_ret (retM_ok tok h rfl (by kernel_rfl) (by kernel_rfl)).1

def f61.j13 (k : Nat) (v5 : Int) : (((List Int) × (Int × Int)) × Int) → Option ((Int × Int) × ((List Int) × (Int × Int)))
  | (v11, v12) => some ((v12, v5), v11)
def f61.j6 (k : Nat) (r3 : (Int × ((List Int) × (Int × Int)))) : (Int × Int) → Option ((Int × Int) × ((List Int) × (Int × Int)))
  | (v4, v5) => (f29 k r3.2 (60 : Int)).bind fun r7 => (if r7.1 then ((f28 k r7.2 (4 : Int)).bind fun r14 => (if (0 ≤ r14.1 ∧ r14.1 < (List.length [(10000000 : Int), (-10000000 : Int), (10000001 : Int), (-4611686018427387904 : Int)] : Int)) then (f61.j13 k v5 (r14.2, (List.getD [(10000000 : Int), (-10000000 : Int), (10000001 : Int), (-4611686018427387904 : Int)] (Int.toNat r14.1) (0 : Int)))) else none)) else (f61.j13 k v5 (r7.2, v4)))
def f61 (k : Nat) (x0 : ((List Int) × (Int × Int))) : Option ((Int × Int) × ((List Int) × (Int × Int))) := (f28 k x0 (41 : Int)).bind fun r1 => ((f28 k r1.2 (41 : Int)).bind fun r2 => ((f28 k r2.2 (12 : Int)).bind fun r3 => (if ((r3.1 : Int) == (0 : Int)) then (f61.j6 k r3 ((IntKind.i64.wrap ((IntKind.i64.wrap (r1.1 - (20 : Int))) * (500000 : Int))), (IntKind.i64.wrap (r2.1 - (20 : Int))))) else (if ((r3.1 : Int) == (1 : Int)) then (f61.j6 k r3 ((IntKind.i64.wrap (r1.1 - (20 : Int))), (IntKind.i64.wrap ((IntKind.i64.wrap (r2.1 - (20 : Int))) * (500000 : Int))))) else (if ((r3.1 : Int) == (2 : Int)) then (f61.j6 k r3 ((IntKind.i64.wrap ((IntKind.i64.wrap (r1.1 - (20 : Int))) * (321 : Int))), (IntKind.i64.wrap ((IntKind.i64.wrap (r2.1 - (20 : Int))) * (777 : Int))))) else (f61.j6 k r3 ((IntKind.i64.wrap (r1.1 - (20 : Int))), (IntKind.i64.wrap (r2.1 - (20 : Int))))))))))
set_option maxRecDepth 100000 in
/-- 'spec.l1DrawPoint'. -/
theorem c61 (k : Nat) (x0 : ((List Int) × (Int × Int))) (r : ((Int × Int) × ((List Int) × (Int × Int)))) (hF : f61 k x0 = some r) : PMut Try.prog 61 [⟨sh0, some x0⟩] [⟨sh2, r.1⟩] (List.set [⟨sh0, some x0⟩] 0 ⟨sh0, some r.2⟩) := by
  refine pmut_intro (j := 0) (fin := ⟨sh0, some r.2⟩) Try.func61 rfl rfl (Nat.le_of_ble_eq_true rfl) (Nat.le_of_ble_eq_true rfl) (by kernel_rfl) ?_
  intro w0 Zi f0 v0 a w h
  rw [f61] at hF
  refine wp_reg_seq tok (orc := orcL []) (fz := []) (l := [0, 2]) (c := _) (.inl rfl) h (by kernel_rfl) (AllP.nil) ?_
  intro a w h
  obtain ⟨r1, hr20, hF⟩ := of_bind hF
  refine wp_reg_seq tok (orc := orcL [(6, [⟨.pt false 4294967295 (.pt true 97 (.st (.pair (.sl false 5 (.int .u8)) (.pair (.int .i64) (.int .i64))))), some (some r1.2)⟩, ⟨(.int .i64), r1.1⟩])]) (fz := []) (l := [0, 2, 3]) (c := _) (.inl rfl) h (by kernel_rfl) (AllP.cons (c28 k x0 (41 : Int) r1 hr20) AllP.nil) ?_
  intro a w h
  obtain ⟨r2, hr19, hF⟩ := of_bind hF
  refine wp_reg_seq tok (orc := orcL [(9, [⟨.pt false 4294967295 (.pt true 97 (.st (.pair (.sl false 5 (.int .u8)) (.pair (.int .i64) (.int .i64))))), some (some r2.2)⟩, ⟨(.int .i64), r2.1⟩])]) (fz := []) (l := [0, 2, 3, 4]) (c := _) (.inl rfl) h (by kernel_rfl) (AllP.cons (c28 k r1.2 (41 : Int) r2 hr19) AllP.nil) ?_
  intro a w h
  refine wp_seq ?_
  obtain ⟨r3, hr18, hF⟩ := of_bind hF
  refine wp_reg_seq tok (orc := orcL [(12, [⟨.pt false 4294967295 (.pt true 97 (.st (.pair (.sl false 5 (.int .u8)) (.pair (.int .i64) (.int .i64))))), some (some r3.2)⟩, ⟨(.int .i64), r3.1⟩])]) (fz := []) (l := [0, 2, 3, 4, 12]) (c := _) (.inl rfl) h (by kernel_rfl) (AllP.cons (c28 k r2.2 (12 : Int) r3 hr18) AllP.nil) ?_
  intro a w h
  refine wp_midT (fun a w => ∃ v : (Int × Int), f61.j6 k r3 v = some r ∧ Rel w0 f0 Zi ⟨Try.f61.ntmps, [0], fun _ => v0⟩ ((fun ((v4, v5) : (Int × Int)) => ([(0, .val sh0 (some r3.2)), (2, .val sh1 (some ((0 : Int), (0 : Int)))), (3, .val (.int .i64) v4), (4, .val (.int .i64) v5)] : SS)) v) a w) ?_ ?_
  ·
    refine wp_block ?_
    refine wp_reg_seq tok (orc := orcL []) (fz := []) (l := [0, 2, 3, 4, 12, 13]) (c := _) (.inl rfl) h (by kernel_rfl) (AllP.nil) ?_
    intro a w h
    refine wp_if h (b := ((r3.1 : Int) == (0 : Int))) (by kernel_rfl) (fun hb => ?_) (fun hb => ?_)
    · replace hF := of_t hb hF
      refine wp_reg tok (orc := orcL []) (fz := []) (l := [0, 2, 3, 4]) (c := _) (.inl rfl) h (by kernel_rfl) (AllP.nil) ?_
      intro a w h
      exact ⟨((IntKind.i64.wrap ((IntKind.i64.wrap (r1.1 - (20 : Int))) * (500000 : Int))), (IntKind.i64.wrap (r2.1 - (20 : Int)))), hF, h.arrive (fz := []) (l := [0, 2, 3, 4]) (.inl rfl) (by kernel_rfl)⟩
    · replace hF := of_f hb hF
      refine wp_reg_seq tok (orc := orcL []) (fz := []) (l := [0, 2, 3, 4, 12, 17]) (c := _) (.inl rfl) h (by kernel_rfl) (AllP.nil) ?_
      intro a w h
      refine wp_if h (b := ((r3.1 : Int) == (1 : Int))) (by kernel_rfl) (fun hb => ?_) (fun hb => ?_)
      · replace hF := of_t hb hF
        refine wp_reg tok (orc := orcL []) (fz := []) (l := [0, 2, 3, 4]) (c := _) (.inl rfl) h (by kernel_rfl) (AllP.nil) ?_
        intro a w h
        exact ⟨((IntKind.i64.wrap (r1.1 - (20 : Int))), (IntKind.i64.wrap ((IntKind.i64.wrap (r2.1 - (20 : Int))) * (500000 : Int)))), hF, h.arrive (fz := []) (l := [0, 2, 3, 4]) (.inl rfl) (by kernel_rfl)⟩
      · replace hF := of_f hb hF
        refine wp_reg_seq tok (orc := orcL []) (fz := []) (l := [0, 2, 3, 4, 21]) (c := _) (.inl rfl) h (by kernel_rfl) (AllP.nil) ?_
        intro a w h
        refine wp_if h (b := ((r3.1 : Int) == (2 : Int))) (by kernel_rfl) (fun hb => ?_) (fun hb => ?_)
        · replace hF := of_t hb hF
          refine wp_reg_seq tok (orc := orcL []) (fz := []) (l := [0, 2, 3, 4]) (c := _) (.inl rfl) h (by kernel_rfl) (AllP.nil) ?_
          intro a w h
          refine wp_reg tok (orc := orcL []) (fz := []) (l := [0, 2, 3, 4]) (c := _) (.inl rfl) h (by kernel_rfl) (AllP.nil) ?_
          intro a w h
          exact ⟨((IntKind.i64.wrap ((IntKind.i64.wrap (r1.1 - (20 : Int))) * (321 : Int))), (IntKind.i64.wrap ((IntKind.i64.wrap (r2.1 - (20 : Int))) * (777 : Int)))), hF, h.arrive (fz := []) (l := [0, 2, 3, 4]) (.inl rfl) (by kernel_rfl)⟩
        · replace hF := of_f hb hF
          refine wp_skip ?_
          exact ⟨((IntKind.i64.wrap (r1.1 - (20 : Int))), (IntKind.i64.wrap (r2.1 - (20 : Int)))), hF, h.arrive (fz := []) (l := [0, 2, 3, 4]) (.inl rfl) (by kernel_rfl)⟩
  · rintro a w ⟨v, hF, h⟩
    obtain ⟨v4, v5⟩ := v
    rw [f61.j6] at hF
    refine wp_seq ?_
    obtain ⟨r7, hr17, hF⟩ := of_bind hF
    refine wp_reg_seq tok (orc := orcL [(28, [⟨.pt false 4294967295 (.pt true 97 (.st (.pair (.sl false 5 (.int .u8)) (.pair (.int .i64) (.int .i64))))), some (some r7.2)⟩, ⟨.bool, r7.1⟩])]) (fz := []) (l := [0, 2, 3, 4, 28]) (c := _) (.inl rfl) h (by kernel_rfl) (AllP.cons (c29 k r3.2 (60 : Int) r7 hr17) AllP.nil) ?_
    intro a w h
    refine wp_midT (fun a w => ∃ v : (((List Int) × (Int × Int)) × Int), f61.j13 k v5 v = some r ∧ Rel w0 f0 Zi ⟨Try.f61.ntmps, [0], fun _ => v0⟩ ((fun ((v11, v12) : (((List Int) × (Int × Int)) × Int)) => ([(0, .val sh0 (some v11)), (2, .val sh1 (some ((0 : Int), (0 : Int)))), (3, .val (.int .i64) v12), (4, .val (.int .i64) v5)] : SS)) v) a w) ?_ ?_
    ·
      refine wp_if h (b := r7.1) (by kernel_rfl) (fun hb => ?_) (fun hb => ?_)
      · replace hF := of_t hb hF
        obtain ⟨r14, hr15, hF⟩ := of_bind hF
        obtain ⟨hc16, hF⟩ := of_if hF
        refine wp_reg tok (orc := orcL [(31, [⟨.pt false 4294967295 (.pt true 97 (.st (.pair (.sl false 5 (.int .u8)) (.pair (.int .i64) (.int .i64))))), some (some r14.2)⟩, ⟨(.int .i64), r14.1⟩])]) (fz := []) (l := [0, 2, 3, 4]) (c := _) (.inl rfl) h (by kernel_rfl) (AllP.cons (c28 k r7.2 (4 : Int) r14 hr15) (AllP.cons hc16 AllP.nil)) ?_
        intro a w h
        exact ⟨(r14.2, (List.getD [(10000000 : Int), (-10000000 : Int), (10000001 : Int), (-4611686018427387904 : Int)] (Int.toNat r14.1) (0 : Int))), hF, h.arrive (fz := []) (l := [0, 2, 3, 4]) (.inl rfl) (by kernel_rfl)⟩
      · replace hF := of_f hb hF
        refine wp_skip ?_
        exact ⟨(r7.2, v4), hF, h.arrive (fz := []) (l := [0, 2, 3, 4]) (.inl rfl) (by kernel_rfl)⟩
    · rintro a w ⟨v, hF, h⟩
      obtain ⟨v11, v12⟩ := v
      rw [f61.j13] at hF
      refine wp_reg_seq tok (orc := orcL []) (fz := []) (l := [0, 2]) (c := _) (.inl rfl) h (by kernel_rfl) (AllP.nil) ?_
      intro a w h
      cases hF
      exact wp_ret (retM_ok tok h rfl (by kernel_rfl) (by kernel_rfl)).1

def f27.j9 (k : Nat) (r1 : ((Int × Int) × ((List Int) × (Int × Int)))) : (((List Int) × (Int × Int)) × (Int × Int)) → Option (((Int × Int) × (Int × Int)) × ((List Int) × (Int × Int)))
  | (v7, v8) => some ((r1.1, v8), v7)
def f27 (k : Nat) (x0 : ((List Int) × (Int × Int))) : Option (((Int × Int) × (Int × Int)) × ((List Int) × (Int × Int))) := (f61 k x0).bind fun r1 => ((f28 k r1.2 (40 : Int)).bind fun r2 => ((f28 k r2.2 (40 : Int)).bind fun r3 => ((f29 k r3.2 (4 : Int)).bind fun r4 => (if r4.1 then ((f61 k r4.2).bind fun r10 => (f27.j9 k r1 (r10.2, r10.1))) else (f27.j9 k r1 (r4.2, ((IntKind.i64.wrap (r1.1.1 + r2.1)), (IntKind.i64.wrap (r1.1.2 + r3.1)))))))))
set_option maxRecDepth 100000 in
/-- 'spec.l5DrawBox'. -/
theorem c27 (k : Nat) (x0 : ((List Int) × (Int × Int))) (r : (((Int × Int) × (Int × Int)) × ((List Int) × (Int × Int)))) (hF : f27 k x0 = some r) : PMut Try.prog 27 [⟨sh0, some x0⟩] [⟨sh4, r.1⟩] (List.set [⟨sh0, some x0⟩] 0 ⟨sh0, some r.2⟩) := by
  refine pmut_intro (j := 0) (fin := ⟨sh0, some r.2⟩) Try.func27 rfl rfl (Nat.le_of_ble_eq_true rfl) (Nat.le_of_ble_eq_true rfl) (by kernel_rfl) ?_
  intro w0 Zi f0 v0 a w h
  rw [f27] at hF
  refine wp_reg_seq tok (orc := orcL []) (fz := []) (l := [0, 2]) (c := _) (.inl rfl) h (by kernel_rfl) (AllP.nil) ?_
  intro a w h
  obtain ⟨r1, hr15, hF⟩ := of_bind hF
  refine wp_reg_seq tok (orc := orcL [(6, [⟨.pt false 4294967295 (.pt true 97 (.st (.pair (.sl false 5 (.int .u8)) (.pair (.int .i64) (.int .i64))))), some (some r1.2)⟩, ⟨sh2, r1.1⟩])]) (fz := []) (l := [0, 2, 3]) (c := _) (.inl rfl) h (by kernel_rfl) (AllP.cons (c61 k x0 r1 hr15) AllP.nil) ?_
  intro a w h
  obtain ⟨r2, hr13, hF⟩ := of_bind hF
  obtain ⟨r3, hr14, hF⟩ := of_bind hF
  refine wp_regv_seq tok (orc := orcL [(11, [⟨.pt false 4294967295 (.pt true 97 (.st (.pair (.sl false 5 (.int .u8)) (.pair (.int .i64) (.int .i64))))), some (some r2.2)⟩, ⟨(.int .i64), r2.1⟩]), (16, [⟨.pt false 4294967295 (.pt true 97 (.st (.pair (.sl false 5 (.int .u8)) (.pair (.int .i64) (.int .i64))))), some (some r3.2)⟩, ⟨(.int .i64), r3.1⟩])]) (c := _) [((0, .val sh0 (some r1.2)), none, some 4), ((0, .val sh0 (some r2.2)), some 4, some 9), ((0, .val sh0 (some r3.2)), some 9, none), ((2, .val sh3 (some (((0 : Int), (0 : Int)), ((0 : Int), (0 : Int))))), none, none), ((3, .val sh1 (some r1.1)), none, some 14), ((4, .val sh3 (some (((0 : Int), (0 : Int)), ((0 : Int), (0 : Int))))), some 13, some 14), ((4, .val sh3 (some (r1.1, ((IntKind.i64.wrap (r1.1.1 + r2.1)), (IntKind.i64.wrap (r1.1.2 + r3.1)))))), some 14, none), ((7, .val sh2 r1.1), some 0, some 14), ((8, .addr 3 [.der, .fst]), some 1, some 14), ((9, .val (.int .i64) r1.1.1), some 2, some 14), ((11, .val (.int .i64) r2.1), some 4, some 14), ((12, .val (.int .i64) (IntKind.i64.wrap (r1.1.1 + r2.1))), some 5, some 14), ((13, .addr 3 [.der, .snd]), some 6, some 14), ((14, .val (.int .i64) r1.1.2), some 7, some 14), ((16, .val (.int .i64) r3.1), some 9, some 14), ((17, .val (.int .i64) (IntKind.i64.wrap (r1.1.2 + r3.1))), some 10, some 14), ((18, .val sh2 ((IntKind.i64.wrap (r1.1.1 + r2.1)), (IntKind.i64.wrap (r1.1.2 + r3.1)))), some 11, some 14), ((19, .val sh4 (r1.1, ((IntKind.i64.wrap (r1.1.1 + r2.1)), (IntKind.i64.wrap (r1.1.2 + r3.1))))), some 12, some 14)] [(10, 0, 3, 4), (15, 0, 8, 9)] [0, 1, 2, 8, 64, 256, 8192, 3, 9, 65, 257, 8193, 6, 10, 66, 258, 8194, 24, 72, 264, 8200, 192, 320, 8256, 8448, 7, 11, 67, 259, 8195, 25, 73, 265, 8201, 193, 321, 8257, 8449, 14, 70, 262, 8198, 26, 74, 266, 8202, 194, 322, 8258, 8450, 88, 280, 8216, 200, 328, 8264, 8456, 448, 8384, 8512, 15, 71, 263, 8199, 27, 75, 267, 8203, 195, 323, 8259, 8451, 89, 281, 8217, 201, 329, 8265, 8457, 449, 8385, 8513, 30, 78, 270, 8206, 198, 326, 8262, 8454, 90, 282, 8218, 202, 330, 8266, 8458, 450, 8386, 8514, 216, 344, 8280, 792, 8472, 456, 8392, 8520, 8640, 31, 79, 271, 8207, 199, 327, 8263, 8455, 91, 283, 8219, 203, 331, 8267, 8459, 451, 8387, 8515, 217, 345, 8281, 793, 8473, 457, 8393, 8521, 8641, 62, 94, 286, 8222, 206, 334, 8270, 8462, 454, 8390, 8518, 218, 346, 8282, 794, 8474, 458, 8394, 8522, 8642, 472, 8408, 856, 8536, 8984, 8648, 63, 95, 287, 8223, 207, 335, 8271, 8463, 455, 8391, 8519, 219, 347, 8283, 795, 8475, 459, 8395, 8523, 8643, 473, 8409, 857, 8537, 8985, 8649, 126, 318, 8254, 222, 350, 8286, 798, 8478, 462, 8398, 8526, 8646, 474, 8410, 858, 8538, 8986, 8650, 984, 8664, 9048, 127, 319, 8255, 223, 351, 8287, 799, 8479, 463, 8399, 8527, 8647, 475, 8411, 859, 8539, 8987, 8651, 985, 8665, 9049, 254, 382, 8318, 830, 8510, 478, 8414, 862, 8542, 8990, 8654, 986, 8666, 9050, 2008, 9176, 255, 383, 8319, 831, 8511, 479, 8415, 863, 8543, 8991, 8655, 987, 8667, 9051, 2009, 9177, 510, 8446, 894, 8574, 9022, 990, 8670, 9054, 2010, 9178, 10200, 511, 8447, 895, 8575, 9023, 991, 8671, 9055, 2011, 9179, 10201, 1022, 8702, 9086, 2014, 9182, 10202, 1023, 8703, 9087, 2015, 9183, 10203, 2046, 9214, 10206, 2047, 9215, 10207, 4094, 10238, 4095, 10239, 12286, 8191, 12287, 16383, 32767] 32767 [(4, 0, 1), (9, 1, 1)] h (by kernel_rfl) (by kernel_rfl) (by kernel_rfl) (AllP.cons (c28 k r1.2 (40 : Int) r2 hr13) (AllP.cons (c28 k r2.2 (40 : Int) r3 hr14) AllP.nil)) ?_
  intro a w h
  refine wp_seq ?_
  obtain ⟨r4, hr12, hF⟩ := of_bind hF
  refine wp_reg_seq tok (orc := orcL [(21, [⟨.pt false 4294967295 (.pt true 97 (.st (.pair (.sl false 5 (.int .u8)) (.pair (.int .i64) (.int .i64))))), some (some r4.2)⟩, ⟨.bool, r4.1⟩])]) (fz := []) (l := [0, 2, 4, 21]) (c := _) (.inl rfl) h (by kernel_rfl) (AllP.cons (c29 k r3.2 (4 : Int) r4 hr12) AllP.nil) ?_
  intro a w h
  refine wp_midT (fun a w => ∃ v : (((List Int) × (Int × Int)) × (Int × Int)), f27.j9 k r1 v = some r ∧ Rel w0 f0 Zi ⟨Try.f27.ntmps, [0], fun _ => v0⟩ ((fun ((v7, v8) : (((List Int) × (Int × Int)) × (Int × Int))) => ([(0, .val sh0 (some v7)), (2, .val sh3 (some (((0 : Int), (0 : Int)), ((0 : Int), (0 : Int))))), (4, .val sh3 (some (r1.1, v8)))] : SS)) v) a w) ?_ ?_
  ·
    refine wp_if h (b := r4.1) (by kernel_rfl) (fun hb => ?_) (fun hb => ?_)
    · replace hF := of_t hb hF
      obtain ⟨r10, hr11, hF⟩ := of_bind hF
      refine wp_reg tok (orc := orcL [(23, [⟨.pt false 4294967295 (.pt true 97 (.st (.pair (.sl false 5 (.int .u8)) (.pair (.int .i64) (.int .i64))))), some (some r10.2)⟩, ⟨sh2, r10.1⟩])]) (fz := []) (l := [0, 2, 4]) (c := _) (.inl rfl) h (by kernel_rfl) (AllP.cons (c61 k r4.2 r10 hr11) AllP.nil) ?_
      intro a w h
      exact ⟨(r10.2, r10.1), hF, h.arrive (fz := []) (l := [0, 2, 4]) (.inl rfl) (by kernel_rfl)⟩
    · replace hF := of_f hb hF
      refine wp_skip ?_
      exact ⟨(r4.2, ((IntKind.i64.wrap (r1.1.1 + r2.1)), (IntKind.i64.wrap (r1.1.2 + r3.1)))), hF, h.arrive (fz := []) (l := [0, 2, 4]) (.inl rfl) (by kernel_rfl)⟩
  · rintro a w ⟨v, hF, h⟩
    obtain ⟨v7, v8⟩ := v
    rw [f27.j9] at hF
    refine wp_reg_seq tok (orc := orcL []) (fz := []) (l := [0, 2]) (c := _) (.inl rfl) h (by kernel_rfl) (AllP.nil) ?_
    intro a w h
    cases hF
    exact wp_ret (retM_ok tok h rfl (by kernel_rfl) (by kernel_rfl)).1

def f31.j27 (k : Nat) (v12 : Int) (v19 : Int) : (((List Int) × (Int × Int)) × Int) → Option ((Int × (Int × Int)) × ((List Int) × (Int × Int)))
  | (v25, v26) => some ((v26, (v12, v19)), v25)
def f31.j20 (k : Nat) (v12 : Int) (v4 : Int) : (((List Int) × (Int × Int)) × Int) → Option ((Int × (Int × Int)) × ((List Int) × (Int × Int)))
  | (v18, v19) => (f29 k v18 (30 : Int)).bind fun r21 => (if r21.1 then ((f28 k r21.2 (3 : Int)).bind fun r28 => (if (0 ≤ r28.1 ∧ r28.1 < (List.length [(-1 : Int), (11 : Int), (4611686018427387904 : Int)] : Int)) then (f31.j27 k v12 v19 (r28.2, (List.getD [(-1 : Int), (11 : Int), (4611686018427387904 : Int)] (Int.toNat r28.1) (0 : Int)))) else none)) else (f31.j27 k v12 v19 (r21.2, v4)))
def f31.j13 (k : Nat) (r1 : (Int × ((List Int) × (Int × Int)))) (v4 : Int) (v6 : Int) : (((List Int) × (Int × Int)) × Int) → Option ((Int × (Int × Int)) × ((List Int) × (Int × Int)))
  | (v11, v12) => (f29 k v11 (20 : Int)).bind fun r14 => (if r14.1 then ((f28 k r14.2 (3 : Int)).bind fun r32 => (if (0 ≤ r32.1 ∧ r32.1 < (List.length [(-1 : Int), (IntKind.i64.wrap ((1 : Int) * 2 ^ (min (Int.toNat (IntKind.u64.wrap r1.1)) IntKind.i64.bits))), (IntKind.i64.wrap ((IntKind.i64.wrap ((1 : Int) * 2 ^ (min (Int.toNat (IntKind.u64.wrap r1.1)) IntKind.i64.bits))) - (1 : Int)))] : Int)) then (f31.j20 k v12 v4 (r32.2, (List.getD [(-1 : Int), (IntKind.i64.wrap ((1 : Int) * 2 ^ (min (Int.toNat (IntKind.u64.wrap r1.1)) IntKind.i64.bits))), (IntKind.i64.wrap ((IntKind.i64.wrap ((1 : Int) * 2 ^ (min (Int.toNat (IntKind.u64.wrap r1.1)) IntKind.i64.bits))) - (1 : Int)))] (Int.toNat r32.1) (0 : Int)))) else none)) else (f31.j20 k v12 v4 (r14.2, v6)))
def f31.j7 (k : Nat) (r3 : (Int × ((List Int) × (Int × Int)))) (r1 : (Int × ((List Int) × (Int × Int)))) : (Int × Int × Int) → Option ((Int × (Int × Int)) × ((List Int) × (Int × Int)))
  | (v4, v5, v6) => (f29 k r3.2 (6 : Int)).bind fun r8 => (if r8.1 then ((f28 k r8.2 (IntKind.i64.wrap ((1 : Int) * 2 ^ (min (Int.toNat (IntKind.u64.wrap r1.1)) IntKind.i64.bits)))).bind fun r36 => (f31.j13 k r1 v4 v6 (r36.2, r36.1))) else (f31.j13 k r1 v4 v6 (r8.2, v5)))
def f31 (k : Nat) (x0 : ((List Int) × (Int × Int))) : Option ((Int × (Int × Int)) × ((List Int) × (Int × Int))) := (f28 k x0 (11 : Int)).bind fun r1 => (if ((0 : Int) ≤ (IntKind.u64.wrap r1.1)) then (if (((2 : Int) : Int) ≠ 0) then ((f28 k r1.2 (2 : Int)).bind fun r2 => (if (((2 : Int) : Int) ≠ 0) then ((f28 k r2.2 (2 : Int)).bind fun r3 => (if ((r1.1 : Int) == (0 : Int)) then (f31.j7 k r3 r1 ((0 : Int), (0 : Int), (0 : Int))) else (f31.j7 k r3 r1 (r1.1, (IntKind.i64.wrap ((IntKind.i64.wrap ((IntKind.i64.wrap (Int.tdiv (IntKind.i64.wrap ((1 : Int) * 2 ^ (min (Int.toNat (IntKind.u64.wrap r1.1)) IntKind.i64.bits))) (2 : Int))) + r2.1)) - (1 : Int))), (IntKind.i64.wrap ((IntKind.i64.wrap ((IntKind.i64.wrap (Int.tdiv (IntKind.i64.wrap ((1 : Int) * 2 ^ (min (Int.toNat (IntKind.u64.wrap r1.1)) IntKind.i64.bits))) (2 : Int))) + r3.1)) - (1 : Int))))))) else none)) else none) else none)
set_option maxRecDepth 100000 in
/-- 'spec.l6DrawTile'. -/
theorem c31 (k : Nat) (x0 : ((List Int) × (Int × Int))) (r : ((Int × (Int × Int)) × ((List Int) × (Int × Int)))) (hF : f31 k x0 = some r) : PMut Try.prog 31 [⟨sh0, some x0⟩] [⟨sh6, r.1⟩] (List.set [⟨sh0, some x0⟩] 0 ⟨sh0, some r.2⟩) := by
  refine pmut_intro (j := 0) (fin := ⟨sh0, some r.2⟩) Try.func31 rfl rfl (Nat.le_of_ble_eq_true rfl) (Nat.le_of_ble_eq_true rfl) (by kernel_rfl) ?_
  intro w0 Zi f0 v0 a w h
  rw [f31] at hF
  refine wp_reg_seq tok (orc := orcL []) (fz := []) (l := [0, 2]) (c := _) (.inl rfl) h (by kernel_rfl) (AllP.nil) ?_
  intro a w h
  obtain ⟨r1, hr44, hF⟩ := of_bind hF
  refine wp_reg_seq tok (orc := orcL [(7, [⟨.pt false 4294967295 (.pt true 97 (.st (.pair (.sl false 5 (.int .u8)) (.pair (.int .i64) (.int .i64))))), some (some r1.2)⟩, ⟨(.int .i64), r1.1⟩])]) (fz := []) (l := [0, 2, 3]) (c := _) (.inl rfl) h (by kernel_rfl) (AllP.cons (c28 k x0 (11 : Int) r1 hr44) AllP.nil) ?_
  intro a w h
  obtain ⟨hc43, hF⟩ := of_if hF
  refine wp_reg_seq tok (orc := orcL []) (fz := []) (l := [0, 2, 3, 4]) (c := _) (.inl rfl) h (by kernel_rfl) (AllP.cons hc43 AllP.nil) ?_
  intro a w h
  obtain ⟨hc39, hF⟩ := of_if hF
  obtain ⟨r2, hr40, hF⟩ := of_bind hF
  obtain ⟨hc41, hF⟩ := of_if hF
  obtain ⟨r3, hr42, hF⟩ := of_bind hF
  refine wp_reg_seq tok (orc := orcL [(15, [⟨.pt false 4294967295 (.pt true 97 (.st (.pair (.sl false 5 (.int .u8)) (.pair (.int .i64) (.int .i64))))), some (some r2.2)⟩, ⟨(.int .i64), r2.1⟩]), (21, [⟨.pt false 4294967295 (.pt true 97 (.st (.pair (.sl false 5 (.int .u8)) (.pair (.int .i64) (.int .i64))))), some (some r3.2)⟩, ⟨(.int .i64), r3.1⟩])]) (fz := []) (l := [0, 2, 3, 4, 5]) (c := _) (.inl rfl) h (by kernel_rfl) (AllP.cons hc39 (AllP.cons (c28 k r1.2 (2 : Int) r2 hr40) (AllP.cons hc41 (AllP.cons (c28 k r2.2 (2 : Int) r3 hr42) AllP.nil)))) ?_
  intro a w h
  refine wp_seq ?_
  refine wp_reg_seq tok (orc := orcL []) (fz := []) (l := [0, 2, 4, 5, 26]) (c := _) (.inl rfl) h (by kernel_rfl) (AllP.nil) ?_
  intro a w h
  refine wp_midT (fun a w => ∃ v : (Int × Int × Int), f31.j7 k r3 r1 v = some r ∧ Rel w0 f0 Zi ⟨Try.f31.ntmps, [0], fun _ => v0⟩ ((fun ((v4, v5, v6) : (Int × Int × Int)) => ([(0, .val sh0 (some r3.2)), (2, .val sh5 (some ((0 : Int), ((0 : Int), (0 : Int))))), (4, .val (.int .i64) (IntKind.i64.wrap ((1 : Int) * 2 ^ (min (Int.toNat (IntKind.u64.wrap r1.1)) IntKind.i64.bits)))), (5, .val sh5 (some (v4, (v5, v6))))] : SS)) v) a w) ?_ ?_
  ·
    refine wp_if h (b := ((r1.1 : Int) == (0 : Int))) (by kernel_rfl) (fun hb => ?_) (fun hb => ?_)
    · replace hF := of_t hb hF
      refine wp_reg tok (orc := orcL []) (fz := []) (l := [0, 2, 4, 5]) (c := _) (.inl rfl) h (by kernel_rfl) (AllP.nil) ?_
      intro a w h
      exact ⟨((0 : Int), (0 : Int), (0 : Int)), hF, h.arrive (fz := []) (l := [0, 2, 4, 5]) (.inl rfl) (by kernel_rfl)⟩
    · replace hF := of_f hb hF
      refine wp_skip ?_
      exact ⟨(r1.1, (IntKind.i64.wrap ((IntKind.i64.wrap ((IntKind.i64.wrap (Int.tdiv (IntKind.i64.wrap ((1 : Int) * 2 ^ (min (Int.toNat (IntKind.u64.wrap r1.1)) IntKind.i64.bits))) (2 : Int))) + r2.1)) - (1 : Int))), (IntKind.i64.wrap ((IntKind.i64.wrap ((IntKind.i64.wrap (Int.tdiv (IntKind.i64.wrap ((1 : Int) * 2 ^ (min (Int.toNat (IntKind.u64.wrap r1.1)) IntKind.i64.bits))) (2 : Int))) + r3.1)) - (1 : Int)))), hF, h.arrive (fz := []) (l := [0, 2, 4, 5]) (.inl rfl) (by kernel_rfl)⟩
  · rintro a w ⟨v, hF, h⟩
    obtain ⟨v4, v5, v6⟩ := v
    rw [f31.j7] at hF
    refine wp_seq ?_
    obtain ⟨r8, hr38, hF⟩ := of_bind hF
    refine wp_reg_seq tok (orc := orcL [(29, [⟨.pt false 4294967295 (.pt true 97 (.st (.pair (.sl false 5 (.int .u8)) (.pair (.int .i64) (.int .i64))))), some (some r8.2)⟩, ⟨.bool, r8.1⟩])]) (fz := []) (l := [0, 2, 4, 5, 29]) (c := _) (.inl rfl) h (by kernel_rfl) (AllP.cons (c29 k r3.2 (6 : Int) r8 hr38) AllP.nil) ?_
    intro a w h
    refine wp_midT (fun a w => ∃ v : (((List Int) × (Int × Int)) × Int), f31.j13 k r1 v4 v6 v = some r ∧ Rel w0 f0 Zi ⟨Try.f31.ntmps, [0], fun _ => v0⟩ ((fun ((v11, v12) : (((List Int) × (Int × Int)) × Int)) => ([(0, .val sh0 (some v11)), (2, .val sh5 (some ((0 : Int), ((0 : Int), (0 : Int))))), (4, .val (.int .i64) (IntKind.i64.wrap ((1 : Int) * 2 ^ (min (Int.toNat (IntKind.u64.wrap r1.1)) IntKind.i64.bits)))), (5, .val sh5 (some (v4, (v12, v6))))] : SS)) v) a w) ?_ ?_
    ·
      refine wp_if h (b := r8.1) (by kernel_rfl) (fun hb => ?_) (fun hb => ?_)
      · replace hF := of_t hb hF
        obtain ⟨r36, hr37, hF⟩ := of_bind hF
        refine wp_reg tok (orc := orcL [(32, [⟨.pt false 4294967295 (.pt true 97 (.st (.pair (.sl false 5 (.int .u8)) (.pair (.int .i64) (.int .i64))))), some (some r36.2)⟩, ⟨(.int .i64), r36.1⟩])]) (fz := []) (l := [0, 2, 4, 5]) (c := _) (.inl rfl) h (by kernel_rfl) (AllP.cons (c28 k r8.2 (IntKind.i64.wrap ((1 : Int) * 2 ^ (min (Int.toNat (IntKind.u64.wrap r1.1)) IntKind.i64.bits))) r36 hr37) AllP.nil) ?_
        intro a w h
        exact ⟨(r36.2, r36.1), hF, h.arrive (fz := []) (l := [0, 2, 4, 5]) (.inl rfl) (by kernel_rfl)⟩
      · replace hF := of_f hb hF
        refine wp_skip ?_
        exact ⟨(r8.2, v5), hF, h.arrive (fz := []) (l := [0, 2, 4, 5]) (.inl rfl) (by kernel_rfl)⟩
    · rintro a w ⟨v, hF, h⟩
      obtain ⟨v11, v12⟩ := v
      rw [f31.j13] at hF
      refine wp_seq ?_
      obtain ⟨r14, hr35, hF⟩ := of_bind hF
      refine wp_reg_seq tok (orc := orcL [(35, [⟨.pt false 4294967295 (.pt true 97 (.st (.pair (.sl false 5 (.int .u8)) (.pair (.int .i64) (.int .i64))))), some (some r14.2)⟩, ⟨.bool, r14.1⟩])]) (fz := []) (l := [0, 2, 4, 5, 35]) (c := _) (.inl rfl) h (by kernel_rfl) (AllP.cons (c29 k v11 (20 : Int) r14 hr35) AllP.nil) ?_
      intro a w h
      refine wp_midT (fun a w => ∃ v : (((List Int) × (Int × Int)) × Int), f31.j20 k v12 v4 v = some r ∧ Rel w0 f0 Zi ⟨Try.f31.ntmps, [0], fun _ => v0⟩ ((fun ((v18, v19) : (((List Int) × (Int × Int)) × Int)) => ([(0, .val sh0 (some v18)), (2, .val sh5 (some ((0 : Int), ((0 : Int), (0 : Int))))), (5, .val sh5 (some (v4, (v12, v19))))] : SS)) v) a w) ?_ ?_
      ·
        refine wp_if h (b := r14.1) (by kernel_rfl) (fun hb => ?_) (fun hb => ?_)
        · replace hF := of_t hb hF
          obtain ⟨r32, hr33, hF⟩ := of_bind hF
          obtain ⟨hc34, hF⟩ := of_if hF
          refine wp_reg tok (orc := orcL [(41, [⟨.pt false 4294967295 (.pt true 97 (.st (.pair (.sl false 5 (.int .u8)) (.pair (.int .i64) (.int .i64))))), some (some r32.2)⟩, ⟨(.int .i64), r32.1⟩])]) (fz := []) (l := [0, 2, 5]) (c := _) (.inl rfl) h (by kernel_rfl) (AllP.cons (c28 k r14.2 (3 : Int) r32 hr33) (AllP.cons hc34 AllP.nil)) ?_
          intro a w h
          exact ⟨(r32.2, (List.getD [(-1 : Int), (IntKind.i64.wrap ((1 : Int) * 2 ^ (min (Int.toNat (IntKind.u64.wrap r1.1)) IntKind.i64.bits))), (IntKind.i64.wrap ((IntKind.i64.wrap ((1 : Int) * 2 ^ (min (Int.toNat (IntKind.u64.wrap r1.1)) IntKind.i64.bits))) - (1 : Int)))] (Int.toNat r32.1) (0 : Int))), hF, h.arrive (fz := []) (l := [0, 2, 5]) (.inl rfl) (by kernel_rfl)⟩
        · replace hF := of_f hb hF
          refine wp_skip ?_
          exact ⟨(r14.2, v6), hF, h.arrive (fz := []) (l := [0, 2, 5]) (.inl rfl) (by kernel_rfl)⟩
      · rintro a w ⟨v, hF, h⟩
        obtain ⟨v18, v19⟩ := v
        rw [f31.j20] at hF
        refine wp_seq ?_
        obtain ⟨r21, hr31, hF⟩ := of_bind hF
        refine wp_reg_seq tok (orc := orcL [(46, [⟨.pt false 4294967295 (.pt true 97 (.st (.pair (.sl false 5 (.int .u8)) (.pair (.int .i64) (.int .i64))))), some (some r21.2)⟩, ⟨.bool, r21.1⟩])]) (fz := []) (l := [0, 2, 5, 46]) (c := _) (.inl rfl) h (by kernel_rfl) (AllP.cons (c29 k v18 (30 : Int) r21 hr31) AllP.nil) ?_
        intro a w h
        refine wp_midT (fun a w => ∃ v : (((List Int) × (Int × Int)) × Int), f31.j27 k v12 v19 v = some r ∧ Rel w0 f0 Zi ⟨Try.f31.ntmps, [0], fun _ => v0⟩ ((fun ((v25, v26) : (((List Int) × (Int × Int)) × Int)) => ([(0, .val sh0 (some v25)), (2, .val sh5 (some ((0 : Int), ((0 : Int), (0 : Int))))), (5, .val sh5 (some (v26, (v12, v19))))] : SS)) v) a w) ?_ ?_
        ·
          refine wp_if h (b := r21.1) (by kernel_rfl) (fun hb => ?_) (fun hb => ?_)
          · replace hF := of_t hb hF
            obtain ⟨r28, hr29, hF⟩ := of_bind hF
            obtain ⟨hc30, hF⟩ := of_if hF
            refine wp_reg tok (orc := orcL [(49, [⟨.pt false 4294967295 (.pt true 97 (.st (.pair (.sl false 5 (.int .u8)) (.pair (.int .i64) (.int .i64))))), some (some r28.2)⟩, ⟨(.int .i64), r28.1⟩])]) (fz := []) (l := [0, 2, 5]) (c := _) (.inl rfl) h (by kernel_rfl) (AllP.cons (c28 k r21.2 (3 : Int) r28 hr29) (AllP.cons hc30 AllP.nil)) ?_
            intro a w h
            exact ⟨(r28.2, (List.getD [(-1 : Int), (11 : Int), (4611686018427387904 : Int)] (Int.toNat r28.1) (0 : Int))), hF, h.arrive (fz := []) (l := [0, 2, 5]) (.inl rfl) (by kernel_rfl)⟩
          · replace hF := of_f hb hF
            refine wp_skip ?_
            exact ⟨(r21.2, v4), hF, h.arrive (fz := []) (l := [0, 2, 5]) (.inl rfl) (by kernel_rfl)⟩
        · rintro a w ⟨v, hF, h⟩
          obtain ⟨v25, v26⟩ := v
          rw [f31.j27] at hF
          refine wp_reg_seq tok (orc := orcL []) (fz := []) (l := [0, 2]) (c := _) (.inl rfl) h (by kernel_rfl) (AllP.nil) ?_
          intro a w h
          cases hF
          exact wp_ret (retM_ok tok h rfl (by kernel_rfl) (by kernel_rfl)).1

def f63 (k : Nat) (x0 : Int) : Option Int := if ((0 : Int) ≤ (IntKind.u64.wrap x0)) then (some (Int.fdiv (33554432 : Int) (2 ^ (min (Int.toNat (IntKind.u64.wrap x0)) IntKind.i64.bits)))) else none
set_option maxRecDepth 100000 in
/-- 'spec.l6Side'. -/
theorem c63 (k : Nat) (x0 : Int) (r : Int) (hF : f63 k x0 = some r) : PCall Try.prog 63 [⟨(.int .i64), x0⟩] [⟨(.int .i64), r⟩] := by
  refine pcall_intro Try.func63 rfl rfl (Nat.le_of_ble_eq_true rfl) ?_
  intro w0 Zi a w h
  rw [f63] at hF
  refine wp_reg_seq tok (orc := orcL []) (fz := []) (l := [0]) (c := _) (.inr fun i h => h) h (by kernel_rfl) (AllP.nil) ?_
  intro a w h
  obtain ⟨hc1, hF⟩ := of_if hF
  refine wp_reg_seq tok (orc := orcL []) (fz := []) (l := [2]) (c := _) (.inr fun i h => h) h (by kernel_rfl) (AllP.cons hc1 AllP.nil) ?_
  intro a w h
  cases hF
  exact wp_ret (ret_okR tok h rfl (by kernel_rfl)).1

def f30 (k : Nat) (x0 : (Int × (Int × Int))) : Option ((Int × Int) × (Int × Int)) := (f63 k x0.1).bind fun r1 => (some (((IntKind.i64.wrap ((IntKind.i64.wrap (x0.2.1 * r1)) - (16777216 : Int))), (IntKind.i64.wrap ((IntKind.i64.wrap (x0.2.2 * r1)) - (16777216 : Int)))), ((IntKind.i64.wrap ((IntKind.i64.wrap ((IntKind.i64.wrap (x0.2.1 * r1)) - (16777216 : Int))) + r1)), (IntKind.i64.wrap ((IntKind.i64.wrap ((IntKind.i64.wrap (x0.2.2 * r1)) - (16777216 : Int))) + r1)))))
set_option maxRecDepth 100000 in
/-- 'spec.l6Box'. -/
theorem c30 (k : Nat) (x0 : (Int × (Int × Int))) (r : ((Int × Int) × (Int × Int))) (hF : f30 k x0 = some r) : PCall Try.prog 30 [⟨sh6, x0⟩] [⟨sh4, r⟩] := by
  refine pcall_intro Try.func30 rfl rfl (Nat.le_of_ble_eq_true rfl) ?_
  intro w0 Zi a w h
  rw [f30] at hF
  refine wp_reg_seq tok (orc := orcL []) (fz := []) (l := [1, 2]) (c := _) (.inr fun i h => h) h (by kernel_rfl) (AllP.nil) ?_
  intro a w h
  obtain ⟨r1, hr2, hF⟩ := of_bind hF
  refine wp_reg_seq tok (orc := orcL [(7, [⟨(.int .i64), r1⟩])]) (fz := []) (l := [1, 2, 3]) (c := _) (.inr fun i h => h) h (by kernel_rfl) (AllP.cons (c63 k x0.1 r1 hr2) AllP.nil) ?_
  intro a w h
  refine wp_reg_seq tok (orc := orcL []) (fz := []) (l := [2, 3, 4]) (c := _) (.inr fun i h => h) h (by kernel_rfl) (AllP.nil) ?_
  intro a w h
  refine wp_reg_seq tok (orc := orcL []) (fz := []) (l := [2]) (c := _) (.inr fun i h => h) h (by kernel_rfl) (AllP.nil) ?_
  intro a w h
  cases hF
  exact wp_ret (ret_okR tok h rfl (by kernel_rfl)).1

def f7.j10 (k : Nat) (r3 : (Int × ((List Int) × (Int × Int)))) : ((Int × Int) × (Int × Int)) → Option (((Int × Int) × (Int × Int)) × Int)
  | v9 => some (v9, r3.1)
def f7 (k : Nat) (x0 : (List Int)) : Option (((Int × Int) × (Int × Int)) × Int) := (f26 k x0).bind fun r1 => ((f27 k r1).bind fun r2 => ((f28 k r2.2 (12 : Int)).bind fun r3 => ((f29 k r3.2 (4 : Int)).bind fun r4 => (if r4.1 then ((f31 k r4.2).bind fun r11 => ((f30 k r11.1).bind fun r12 => (f7.j10 k r3 r12))) else (f7.j10 k r3 r2.1)))))
set_option maxRecDepth 100000 in
/-- 'spec.DrawTilesOf'. -/
theorem c7 (k : Nat) (x0 : (List Int)) (r : (((Int × Int) × (Int × Int)) × Int)) (hF : f7 k x0 = some r) : PCall Try.prog 7 [⟨(.sl false 5 (.int .u8)), x0⟩] [⟨sh4, r.1⟩, ⟨(.int .i64), r.2⟩] := by
  refine pcall_intro Try.func7 rfl rfl (Nat.le_of_ble_eq_true rfl) ?_
  intro w0 Zi a w h
  rw [f7] at hF
  refine wp_reg_seq tok (orc := orcL []) (fz := []) (l := [0, 2]) (c := _) (.inr fun i h => h) h (by kernel_rfl) (AllP.nil) ?_
  intro a w h
  obtain ⟨r1, hr18, hF⟩ := of_bind hF
  refine wp_reg_seq tok (orc := orcL [(8, [⟨sh0, some r1⟩])]) (fz := []) (l := [2, 4]) (c := _) (.inr fun i h => h) h (by kernel_rfl) (AllP.cons (c26 k x0 r1 hr18) AllP.nil) ?_
  intro a w h
  obtain ⟨r2, hr17, hF⟩ := of_bind hF
  refine wp_reg_seq tok (orc := orcL [(10, [⟨.pt false 4294967295 (.pt true 97 (.st (.pair (.sl false 5 (.int .u8)) (.pair (.int .i64) (.int .i64))))), some (some r2.2)⟩, ⟨sh4, r2.1⟩])]) (fz := []) (l := [2, 4, 5]) (c := _) (.inr fun i h => h) h (by kernel_rfl) (AllP.cons (c27 k r1 r2 hr17) AllP.nil) ?_
  intro a w h
  obtain ⟨r3, hr16, hF⟩ := of_bind hF
  refine wp_reg_seq tok (orc := orcL [(12, [⟨.pt false 4294967295 (.pt true 97 (.st (.pair (.sl false 5 (.int .u8)) (.pair (.int .i64) (.int .i64))))), some (some r3.2)⟩, ⟨(.int .i64), r3.1⟩])]) (fz := []) (l := [2, 4, 5, 6]) (c := _) (.inr fun i h => h) h (by kernel_rfl) (AllP.cons (c28 k r2.2 (12 : Int) r3 hr16) AllP.nil) ?_
  intro a w h
  refine wp_seq ?_
  obtain ⟨r4, hr15, hF⟩ := of_bind hF
  refine wp_reg_seq tok (orc := orcL [(14, [⟨.pt false 4294967295 (.pt true 97 (.st (.pair (.sl false 5 (.int .u8)) (.pair (.int .i64) (.int .i64))))), some (some r4.2)⟩, ⟨.bool, r4.1⟩])]) (fz := []) (l := [2, 4, 5, 6, 14]) (c := _) (.inr fun i h => h) h (by kernel_rfl) (AllP.cons (c29 k r3.2 (4 : Int) r4 hr15) AllP.nil) ?_
  intro a w h
  refine wp_midT (fun a w => ∃ v : ((Int × Int) × (Int × Int)), f7.j10 k r3 v = some r ∧ Rel w0 (fun _ => False) Zi Try.f7.ntmps ((fun (v9 : ((Int × Int) × (Int × Int))) => ([(2, .val sh3 (some (((0 : Int), (0 : Int)), ((0 : Int), (0 : Int))))), (5, .val sh3 (some v9)), (6, .val (.int .i64) r3.1)] : SS)) v) a w) ?_ ?_
  ·
    refine wp_if h (b := r4.1) (by kernel_rfl) (fun hb => ?_) (fun hb => ?_)
    · replace hF := of_t hb hF
      obtain ⟨r11, hr13, hF⟩ := of_bind hF
      obtain ⟨r12, hr14, hF⟩ := of_bind hF
      refine wp_reg tok (orc := orcL [(16, [⟨.pt false 4294967295 (.pt true 97 (.st (.pair (.sl false 5 (.int .u8)) (.pair (.int .i64) (.int .i64))))), some (some r11.2)⟩, ⟨sh6, r11.1⟩]), (17, [⟨sh4, r12⟩])]) (fz := []) (l := [2, 5, 6]) (c := _) (.inr fun i h => h) h (by kernel_rfl) (AllP.cons (c31 k r4.2 r11 hr13) (AllP.cons (c30 k r11.1 r12 hr14) AllP.nil)) ?_
      intro a w h
      exact ⟨r12, hF, h.arrive (fz := []) (l := [2, 5, 6]) (.inr fun i h => h) (by kernel_rfl)⟩
    · replace hF := of_f hb hF
      refine wp_skip ?_
      exact ⟨r2.1, hF, h.arrive (fz := []) (l := [2, 5, 6]) (.inr fun i h => h) (by kernel_rfl)⟩
  · rintro a w ⟨v9, hF, h⟩
    rw [f7.j10] at hF
    refine wp_reg_seq tok (orc := orcL []) (fz := []) (l := [2, 3]) (c := _) (.inr fun i h => h) h (by kernel_rfl) (AllP.nil) ?_
    intro a w h
    cases hF
    exact wp_ret (ret_okR tok h rfl (by kernel_rfl)).1

def f64 (k : Nat) (x0 : (Int × Int)) : Option Bool := some (bif (bif (bif (decide ((x0.1 : Int) ≥ (-10000000 : Int))) then (decide ((x0.1 : Int) ≤ (10000000 : Int))) else false) then (decide ((x0.2 : Int) ≥ (-10000000 : Int))) else false) then (decide ((x0.2 : Int) ≤ (10000000 : Int))) else false)
set_option maxRecDepth 100000 in
/-- 'impl.PointOk'. -/
theorem c64 (k : Nat) (x0 : (Int × Int)) (r : Bool) (hF : f64 k x0 = some r) : PCall Try.prog 64 [⟨sh2, x0⟩] [⟨.bool, r⟩] := by
  refine pcall_intro Try.func64 rfl rfl (Nat.le_of_ble_eq_true rfl) ?_
  intro w0 Zi a w h
  rw [f64] at hF
  refine wp_reg_seq tok (orc := orcL []) (fz := []) (l := [1]) (c := _) (.inr fun i h => h) h (by kernel_rfl) (AllP.nil) ?_
  intro a w h
  refine wp_reg_seq tok (orc := orcL []) (fz := []) (l := [2]) (c := _) (.inr fun i h => h) h (by kernel_rfl) (AllP.nil) ?_
  intro a w h
  cases hF
  exact wp_ret (ret_okR tok h rfl (by kernel_rfl)).1

def f32 (k : Nat) (x0 : ((Int × Int) × (Int × Int))) : Option Bool := (f64 k x0.1).bind fun r1 => ((if (r1 = true) then f64 k x0.2 else some default).bind fun r2 => (some (bif (bif (bif r1 then r2 else false) then (decide ((x0.1.1 : Int) ≤ x0.2.1)) else false) then (decide ((x0.1.2 : Int) ≤ x0.2.2)) else false)))
set_option maxRecDepth 100000 in
/-- 'impl.goodBox'. -/
theorem c32 (k : Nat) (x0 : ((Int × Int) × (Int × Int))) (r : Bool) (hF : f32 k x0 = some r) : PCall Try.prog 32 [⟨sh4, x0⟩] [⟨.bool, r⟩] := by
  refine pcall_intro Try.func32 rfl rfl (Nat.le_of_ble_eq_true rfl) ?_
  intro w0 Zi a w h
  rw [f32] at hF
  refine wp_reg_seq tok (orc := orcL []) (fz := []) (l := [1]) (c := _) (.inr fun i h => h) h (by kernel_rfl) (AllP.nil) ?_
  intro a w h
  obtain ⟨r1, hr3, hF⟩ := of_bind hF
  obtain ⟨r2, hr4, hF⟩ := of_bind hF
  refine wp_reg_seq tok (orc := orcL [(5, [⟨.bool, r1⟩]), (9, [⟨.bool, r2⟩])]) (fz := []) (l := [2]) (c := _) (.inr fun i h => h) h (by kernel_rfl) (AllP.cons (c64 k x0.1 r1 hr3) (AllP.cons (fun (hg : (r1 = true)) => c64 k x0.2 r2 (of_g hg hr4)) AllP.nil)) ?_
  intro a w h
  cases hF
  exact wp_ret (ret_okR tok h rfl (by kernel_rfl)).1

def f33 (k : Nat) (x0 : Int) (x1 : Int) (x2_0 : Int) (x3_0 : Int) : Option (Int × Int) := if ((x2_0 : Int) ≠ 0) then (if ((x2_0 : Int) ≠ 0) then (some ((if ((0 : Int) : Int) > (IntKind.i64.wrap ((IntKind.i64.wrap (Int.tdiv (IntKind.i64.wrap ((IntKind.i64.wrap ((IntKind.i64.wrap (x0 + (16777216 : Int))) + x2_0)) - (1 : Int))) x2_0)) - (1 : Int))) then (0 : Int) else (IntKind.i64.wrap ((IntKind.i64.wrap (Int.tdiv (IntKind.i64.wrap ((IntKind.i64.wrap ((IntKind.i64.wrap (x0 + (16777216 : Int))) + x2_0)) - (1 : Int))) x2_0)) - (1 : Int)))), (if ((IntKind.i64.wrap (x3_0 - (1 : Int))) : Int) < (IntKind.i64.wrap (Int.tdiv (IntKind.i64.wrap (x1 + (16777216 : Int))) x2_0)) then (IntKind.i64.wrap (x3_0 - (1 : Int))) else (IntKind.i64.wrap (Int.tdiv (IntKind.i64.wrap (x1 + (16777216 : Int))) x2_0))))) else none) else none
set_option maxRecDepth 100000 in
/-- 'impl.TilesOf$1'. -/
theorem c33 (k : Nat) (x0 : Int) (x1 : Int) (x2_0 : Int) (x3_0 : Int) (r : (Int × Int)) (hF : f33 k x0 x1 x2_0 x3_0 = some r) : PCall Try.prog 33 [⟨(.int .i64), x0⟩, ⟨(.int .i64), x1⟩, ⟨(.pt false 0 (.int .i64)), (some x2_0)⟩, ⟨(.pt false 0 (.int .i64)), (some x3_0)⟩] [⟨(.int .i64), r.1⟩, ⟨(.int .i64), r.2⟩] := by
  refine pcall_intro Try.func33 rfl rfl (Nat.le_of_ble_eq_true rfl) ?_
  intro w0 Zi a w h
  rw [f33] at hF
  refine wp_reg_seq tok (orc := orcL []) (fz := []) (l := [0, 1, 2, 3]) (c := _) (.inr fun i h => h) h (by kernel_rfl) (AllP.nil) ?_
  intro a w h
  obtain ⟨hc2, hF⟩ := of_if hF
  refine wp_reg_seq tok (orc := orcL []) (fz := []) (l := [1, 2, 3, 8]) (c := _) (.inr fun i h => h) h (by kernel_rfl) (AllP.cons hc2 AllP.nil) ?_
  intro a w h
  refine wp_reg_seq tok (orc := orcL []) (fz := []) (l := [1, 2, 3, 8]) (c := _) (.inr fun i h => h) h (by kernel_rfl) (AllP.nil) ?_
  intro a w h
  obtain ⟨hc1, hF⟩ := of_if hF
  refine wp_reg_seq tok (orc := orcL []) (fz := []) (l := [3, 8, 9]) (c := _) (.inr fun i h => h) h (by kernel_rfl) (AllP.cons hc1 AllP.nil) ?_
  intro a w h
  refine wp_regy_seq tok (orc := orcL []) (fz := []) (l := [6, 7]) (c := _) ([], [], [], []) 8 (.inr fun i h => h) h (by kernel_rfl) (by kernel_rfl) (AllP.nil) ?_
  intro a w h
  cases hF
  exact wp_ret (ret_okR tok h rfl (by kernel_rfl)).1

def f8.l187 (k : Nat) (r2 : (Int × Int)) (x1 : Int) (v171 : Int) (q103 : ((List (Int × (Int × Int))) × Int) → Option (List (Int × (Int × Int)))) : Nat → ((List (Int × (Int × Int))) × Int) → Option (List (Int × (Int × Int)))
  | 0, _ => none
  | m187 + 1, (v198, v199) => if (decide ((v199 : Int) ≤ r2.2)) then (if ((List.length v198 + List.length [(x1, (v199, v171))]) * 24 ≤ 140737488355328) then ((f8.l187 k r2 x1 v171 q103) m187 ((v198 ++ [(x1, (v199, v171))]), (IntKind.i64.wrap (v199 + (1 : Int))))) else none) else (q103 (v198, (IntKind.i64.wrap (v171 + (1 : Int)))))
def f8.l103 (k : Nat) (r3 : (Int × Int)) (r2 : (Int × Int)) (x1 : Int) : Nat → ((List (Int × (Int × Int))) × Int) → Option (List (Int × (Int × Int)))
  | 0, _ => none
  | m103 + 1, (v170, v171) => if (decide ((v171 : Int) ≤ r3.2)) then (f8.l187 k r2 x1 v171 ((f8.l103 k r3 r2 x1) m103) k (v170, r2.1)) else (some v170)
def f8 (k : Nat) (x0 : ((Int × Int) × (Int × Int))) (x1 : Int) : Option (List (Int × (Int × Int))) := (f32 k x0).bind fun r1 => (if (bif (bif (!r1) then true else (decide ((x1 : Int) < (0 : Int)))) then true else (decide ((x1 : Int) > (10 : Int)))) then (some ([] : (List (Int × (Int × Int))))) else (if ((0 : Int) ≤ x1) then (if ((0 : Int) ≤ x1) then ((f33 k x0.1.1 x0.2.1 (Int.fdiv (33554432 : Int) (2 ^ (min (Int.toNat x1) IntKind.i64.bits))) (IntKind.i64.wrap ((1 : Int) * 2 ^ (min (Int.toNat x1) IntKind.i64.bits)))).bind fun r2 => ((f33 k x0.1.2 x0.2.2 (Int.fdiv (33554432 : Int) (2 ^ (min (Int.toNat x1) IntKind.i64.bits))) (IntKind.i64.wrap ((1 : Int) * 2 ^ (min (Int.toNat x1) IntKind.i64.bits)))).bind fun r3 => (if (decide (((IntKind.i64.wrap ((IntKind.i64.wrap ((IntKind.i64.wrap (r2.2 - r2.1)) + (1 : Int))) * (IntKind.i64.wrap ((IntKind.i64.wrap (r3.2 - r3.1)) + (1 : Int))))) : Int) > (400 : Int))) then (some ([] : (List (Int × (Int × Int))))) else (f8.l103 k r3 r2 x1 k (([] : (List (Int × (Int × Int)))), r3.1))))) else none) else none))
set_option maxRecDepth 100000 in
/-- 'impl.TilesOf'. -/
theorem c8 (k : Nat) (x0 : ((Int × Int) × (Int × Int))) (x1 : Int) (r : (List (Int × (Int × Int)))) (hF : f8 k x0 x1 = some r) : PCall Try.prog 8 [⟨sh4, x0⟩, ⟨(.int .i64), x1⟩] [⟨sh7, r⟩] := by
  refine pcall_intro Try.func8 rfl rfl (Nat.le_of_ble_eq_true rfl) ?_
  intro w0 Zi a w h
  rw [f8] at hF
  refine wp_reg_seq tok (orc := orcL []) (fz := []) (l := [1, 2]) (c := _) (.inr fun i h => h) h (by kernel_rfl) (AllP.nil) ?_
  intro a w h
  refine wp_seq ?_
  obtain ⟨r1, hr206, hF⟩ := of_bind hF
  refine wp_reg_seq tok (orc := orcL [(16, [⟨.bool, r1⟩])]) (fz := []) (l := [1, 2, 25]) (c := _) (.inr fun i h => h) h (by kernel_rfl) (AllP.cons (c32 k x0 r1 hr206) AllP.nil) ?_
  intro a w h
  refine wp_if h (b := (bif (bif (!r1) then true else (decide ((x1 : Int) < (0 : Int)))) then true else (decide ((x1 : Int) > (10 : Int))))) (by kernel_rfl) (fun hb => ?_) (fun hb => ?_)
  · replace hF := of_t hb hF
    refine wp_reg_seq tok (orc := orcL []) (fz := []) (l := [4]) (c := _) (.inr fun i h => h) h (by kernel_rfl) (AllP.nil) ?_
    intro a w h
    cases hF
    exact wp_ret (ret_okR tok h rfl (by kernel_rfl)).1
  · replace hF := of_f hb hF
    refine wp_skip ?_
    obtain ⟨hc205, hF⟩ := of_if hF
    refine wp_reg_seq tok (orc := orcL []) (fz := []) (l := [1, 2, 5]) (c := _) (.inr fun i h => h) h (by kernel_rfl) (AllP.cons hc205 AllP.nil) ?_
    intro a w h
    obtain ⟨hc204, hF⟩ := of_if hF
    refine wp_reg_seq tok (orc := orcL []) (fz := []) (l := [1, 2, 5, 6]) (c := _) (.inr fun i h => h) h (by kernel_rfl) (AllP.cons hc204 AllP.nil) ?_
    intro a w h
    refine wp_reg_seq tok (orc := orcL []) (fz := []) (l := [1, 2, 5, 6, 7]) (c := _) (.inr fun i h => h) h (by kernel_rfl) (AllP.nil) ?_
    intro a w h
    obtain ⟨r2, hr203, hF⟩ := of_bind hF
    refine wp_reg_seq tok (orc := orcL [(39, [⟨(.int .i64), r2.1⟩, ⟨(.int .i64), r2.2⟩])]) (fz := []) (l := [1, 2, 5, 6, 7, 8, 9]) (c := _) (.inr fun i h => h) h (by kernel_rfl) (AllP.cons (c33 k x0.1.1 x0.2.1 (Int.fdiv (33554432 : Int) (2 ^ (min (Int.toNat x1) IntKind.i64.bits))) (IntKind.i64.wrap ((1 : Int) * 2 ^ (min (Int.toNat x1) IntKind.i64.bits))) r2 hr203) AllP.nil) ?_
    intro a w h
    obtain ⟨r3, hr202, hF⟩ := of_bind hF
    refine wp_reg_seq tok (orc := orcL [(50, [⟨(.int .i64), r3.1⟩, ⟨(.int .i64), r3.2⟩])]) (fz := []) (l := [1, 8, 9, 10, 11]) (c := _) (.inr fun i h => h) h (by kernel_rfl) (AllP.cons (c33 k x0.1.2 x0.2.2 (Int.fdiv (33554432 : Int) (2 ^ (min (Int.toNat x1) IntKind.i64.bits))) (IntKind.i64.wrap ((1 : Int) * 2 ^ (min (Int.toNat x1) IntKind.i64.bits))) r3 hr202) AllP.nil) ?_
    intro a w h
    refine wp_seq ?_
    refine wp_reg_seq tok (orc := orcL []) (fz := []) (l := [1, 8, 9, 10, 11, 62]) (c := _) (.inr fun i h => h) h (by kernel_rfl) (AllP.nil) ?_
    intro a w h
    refine wp_if h (b := (decide (((IntKind.i64.wrap ((IntKind.i64.wrap ((IntKind.i64.wrap (r2.2 - r2.1)) + (1 : Int))) * (IntKind.i64.wrap ((IntKind.i64.wrap (r3.2 - r3.1)) + (1 : Int))))) : Int) > (400 : Int)))) (by kernel_rfl) (fun hb => ?_) (fun hb => ?_)
    · replace hF := of_t hb hF
      refine wp_reg_seq tok (orc := orcL []) (fz := []) (l := [4]) (c := _) (.inr fun i h => h) h (by kernel_rfl) (AllP.nil) ?_
      intro a w h
      cases hF
      exact wp_ret (ret_okR tok h rfl (by kernel_rfl)).1
    · replace hF := of_f hb hF
      refine wp_skip ?_
      refine wp_reg_seq tok (orc := orcL []) (fz := []) (l := [1, 8, 9, 10, 11, 12]) (c := _) (.inr fun i h => h) h (by kernel_rfl) (AllP.nil) ?_
      intro a w h
      refine wp_seq ?_
      refine wp_reg_seq tok (orc := orcL []) (fz := []) (l := [1, 8, 9, 11, 12, 13]) (c := _) (.inr fun i h => h) h (by kernel_rfl) (AllP.nil) ?_
      intro a w h
      refine wp_block ?_
      refine wp_loop_fuel (f8.l103 k r3 r2 x1) (fun ((v170, v171) : ((List (Int × (Int × Int))) × Int)) => [(1, .val (.int .i64) x1), (8, .val (.int .i64) r2.1), (9, .val (.int .i64) r2.2), (11, .val (.int .i64) r3.2), (12, .val sh7 v170), (13, .val (.int .i64) v171)]) (fun v h => by obtain ⟨v170, v171⟩ := v; rw [f8.l103] at h; cases h) ?_ hF (h.arrive (fz := []) (l := [1, 8, 9, 11, 12, 13]) (.inr fun i h => h) (by kernel_rfl))
      intro m103 v a w hF h
      obtain ⟨v170, v171⟩ := v
      rw [f8.l103] at hF
      refine wp_seq ?_
      refine wp_reg_seq tok (orc := orcL []) (fz := []) (l := [1, 8, 9, 11, 12, 13, 66]) (c := _) (.inr fun i h => h) h (by kernel_rfl) (AllP.nil) ?_
      intro a w h
      refine wp_if h (b := (decide ((v171 : Int) ≤ r3.2))) (by kernel_rfl) (fun hb => ?_) (fun hb => ?_)
      · replace hF := of_t hb hF
        refine wp_skip ?_
        refine wp_seq <| wp_block ?_
        refine wp_reg_seq tok (orc := orcL []) (fz := []) (l := [1, 8, 9, 11, 12, 13, 14]) (c := _) (.inr fun i h => h) h (by kernel_rfl) (AllP.nil) ?_
        intro a w h
        refine wp_block ?_
        refine wp_loop_fuel (f8.l187 k r2 x1 v171 ((f8.l103 k r3 r2 x1) m103)) (fun ((v198, v199) : ((List (Int × (Int × Int))) × Int)) => [(1, .val (.int .i64) x1), (8, .val (.int .i64) r2.1), (9, .val (.int .i64) r2.2), (11, .val (.int .i64) r3.2), (12, .val sh7 v198), (13, .val (.int .i64) v171), (14, .val (.int .i64) v199)]) (fun v h => by obtain ⟨v198, v199⟩ := v; rw [f8.l187] at h; cases h) ?_ hF (h.arrive (fz := []) (l := [1, 8, 9, 11, 12, 13, 14]) (.inr fun i h => h) (by kernel_rfl))
        intro m187 v a w hF h
        obtain ⟨v198, v199⟩ := v
        rw [f8.l187] at hF
        refine wp_seq ?_
        refine wp_reg_seq tok (orc := orcL []) (fz := []) (l := [1, 8, 9, 11, 12, 13, 14, 72]) (c := _) (.inr fun i h => h) h (by kernel_rfl) (AllP.nil) ?_
        intro a w h
        refine wp_if h (b := (decide ((v199 : Int) ≤ r2.2))) (by kernel_rfl) (fun hb => ?_) (fun hb => ?_)
        · replace hF := of_t hb hF
          refine wp_skip ?_
          refine wp_seq <| wp_block ?_
          obtain ⟨hc201, hF⟩ := of_if hF
          refine wp_reg tok (orc := orcL []) (fz := []) (l := [1, 8, 9, 11, 12, 13, 14]) (c := _) (.inr fun i h => h) h (by kernel_rfl) (AllP.cons hc201 AllP.nil) ?_
          intro a w h
          refine wp_reg tok (orc := orcL []) (fz := []) (l := [1, 8, 9, 11, 12, 13, 14]) (c := _) (.inr fun i h => h) h (by kernel_rfl) (AllP.nil) ?_
          intro a w h
          exact ⟨((v198 ++ [(x1, (v199, v171))]), (IntKind.i64.wrap (v199 + (1 : Int)))), hF, h.arrive (fz := []) (l := [1, 8, 9, 11, 12, 13, 14]) (.inr fun i h => h) (by kernel_rfl)⟩
        · replace hF := of_f hb hF
          refine wp_exit ?_
          refine wp_reg tok (orc := orcL []) (fz := []) (l := [1, 8, 9, 11, 12, 13]) (c := _) (.inr fun i h => h) h (by kernel_rfl) (AllP.nil) ?_
          intro a w h
          exact ⟨(v198, (IntKind.i64.wrap (v171 + (1 : Int)))), hF, h.arrive (fz := []) (l := [1, 8, 9, 11, 12, 13]) (.inr fun i h => h) (by kernel_rfl)⟩
      · replace hF := of_f hb hF
        refine wp_exit ?_
        refine wp_reg_seq tok (orc := orcL []) (fz := []) (l := [4, 12]) (c := _) (.inr fun i h => h) h (by kernel_rfl) (AllP.nil) ?_
        intro a w h
        cases hF
        exact wp_ret (ret_okR tok h rfl (by kernel_rfl)).1

def f65 (k : Nat) (x0 : (Int × Int)) : Option Bool := some (bif (bif (bif (decide ((x0.1 : Int) ≥ (-10000000 : Int))) then (decide ((x0.1 : Int) ≤ (10000000 : Int))) else false) then (decide ((x0.2 : Int) ≥ (-10000000 : Int))) else false) then (decide ((x0.2 : Int) ≤ (10000000 : Int))) else false)
set_option maxRecDepth 100000 in
/-- 'spec.PointOk'. -/
theorem c65 (k : Nat) (x0 : (Int × Int)) (r : Bool) (hF : f65 k x0 = some r) : PCall Try.prog 65 [⟨sh2, x0⟩] [⟨.bool, r⟩] := by
  refine pcall_intro Try.func65 rfl rfl (Nat.le_of_ble_eq_true rfl) ?_
  intro w0 Zi a w h
  rw [f65] at hF
  refine wp_reg_seq tok (orc := orcL []) (fz := []) (l := [1]) (c := _) (.inr fun i h => h) h (by kernel_rfl) (AllP.nil) ?_
  intro a w h
  refine wp_reg_seq tok (orc := orcL []) (fz := []) (l := [2]) (c := _) (.inr fun i h => h) h (by kernel_rfl) (AllP.nil) ?_
  intro a w h
  cases hF
  exact wp_ret (ret_okR tok h rfl (by kernel_rfl)).1

def f34 (k : Nat) (x0 : ((Int × Int) × (Int × Int))) : Option Bool := (f65 k x0.1).bind fun r1 => ((if (r1 = true) then f65 k x0.2 else some default).bind fun r2 => (some (bif (bif (bif r1 then r2 else false) then (decide ((x0.1.1 : Int) ≤ x0.2.1)) else false) then (decide ((x0.1.2 : Int) ≤ x0.2.2)) else false)))
set_option maxRecDepth 100000 in
/-- 'spec.l6BoxOk'. -/
theorem c34 (k : Nat) (x0 : ((Int × Int) × (Int × Int))) (r : Bool) (hF : f34 k x0 = some r) : PCall Try.prog 34 [⟨sh4, x0⟩] [⟨.bool, r⟩] := by
  refine pcall_intro Try.func34 rfl rfl (Nat.le_of_ble_eq_true rfl) ?_
  intro w0 Zi a w h
  rw [f34] at hF
  refine wp_reg_seq tok (orc := orcL []) (fz := []) (l := [1]) (c := _) (.inr fun i h => h) h (by kernel_rfl) (AllP.nil) ?_
  intro a w h
  obtain ⟨r1, hr3, hF⟩ := of_bind hF
  obtain ⟨r2, hr4, hF⟩ := of_bind hF
  refine wp_reg_seq tok (orc := orcL [(5, [⟨.bool, r1⟩]), (9, [⟨.bool, r2⟩])]) (fz := []) (l := [2]) (c := _) (.inr fun i h => h) h (by kernel_rfl) (AllP.cons (c65 k x0.1 r1 hr3) (AllP.cons (fun (hg : (r1 = true)) => c65 k x0.2 r2 (of_g hg hr4)) AllP.nil)) ?_
  intro a w h
  cases hF
  exact wp_ret (ret_okR tok h rfl (by kernel_rfl)).1

def f35.j5 (k : Nat) (v2 : Int) : Int → Option (Int × Int)
  | v4 => some (v2, v4)
def f35.j3 (k : Nat) (r1 : Int) (x1 : Int) (x2 : Int) : Int → Option (Int × Int)
  | v2 => if ((r1 : Int) ≠ 0) then (if (decide (((IntKind.i64.wrap (Int.tdiv (IntKind.i64.wrap (x1 + (16777216 : Int))) r1)) : Int) > (IntKind.i64.wrap ((IntKind.i64.wrap ((1 : Int) * 2 ^ (min (Int.toNat (IntKind.u64.wrap x2)) IntKind.i64.bits))) - (1 : Int))))) then (f35.j5 k v2 (IntKind.i64.wrap ((IntKind.i64.wrap ((1 : Int) * 2 ^ (min (Int.toNat (IntKind.u64.wrap x2)) IntKind.i64.bits))) - (1 : Int)))) else (f35.j5 k v2 (IntKind.i64.wrap (Int.tdiv (IntKind.i64.wrap (x1 + (16777216 : Int))) r1)))) else none
def f35 (k : Nat) (x0 : Int) (x1 : Int) (x2 : Int) : Option (Int × Int) := (f63 k x2).bind fun r1 => (if ((0 : Int) ≤ (IntKind.u64.wrap x2)) then (if ((r1 : Int) ≠ 0) then (if (((decide (((IntKind.i64.wrap (Int.tdiv (IntKind.i64.wrap (x0 + (16777216 : Int))) r1)) : Int) > (0 : Int))) = true) → ((r1 : Int) ≠ 0)) then (if (bif (decide (((IntKind.i64.wrap (Int.tdiv (IntKind.i64.wrap (x0 + (16777216 : Int))) r1)) : Int) > (0 : Int))) then (((Int.tmod (IntKind.i64.wrap (x0 + (16777216 : Int))) r1) : Int) == (0 : Int)) else false) then (f35.j3 k r1 x1 x2 (IntKind.i64.wrap ((IntKind.i64.wrap (Int.tdiv (IntKind.i64.wrap (x0 + (16777216 : Int))) r1)) - (1 : Int)))) else (f35.j3 k r1 x1 x2 (IntKind.i64.wrap (Int.tdiv (IntKind.i64.wrap (x0 + (16777216 : Int))) r1)))) else none) else none) else none)
set_option maxRecDepth 100000 in
/-- 'spec.l6Range'. -/
theorem c35 (k : Nat) (x0 : Int) (x1 : Int) (x2 : Int) (r : (Int × Int)) (hF : f35 k x0 x1 x2 = some r) : PCall Try.prog 35 [⟨(.int .i64), x0⟩, ⟨(.int .i64), x1⟩, ⟨(.int .i64), x2⟩] [⟨(.int .i64), r.1⟩, ⟨(.int .i64), r.2⟩] := by
  refine pcall_intro Try.func35 rfl rfl (Nat.le_of_ble_eq_true rfl) ?_
  intro w0 Zi a w h
  rw [f35] at hF
  refine wp_reg_seq tok (orc := orcL []) (fz := []) (l := [0, 1, 2]) (c := _) (.inr fun i h => h) h (by kernel_rfl) (AllP.nil) ?_
  intro a w h
  obtain ⟨r1, hr10, hF⟩ := of_bind hF
  refine wp_reg_seq tok (orc := orcL [(13, [⟨(.int .i64), r1⟩])]) (fz := []) (l := [0, 1, 2, 8]) (c := _) (.inr fun i h => h) h (by kernel_rfl) (AllP.cons (c63 k x2 r1 hr10) AllP.nil) ?_
  intro a w h
  obtain ⟨hc9, hF⟩ := of_if hF
  refine wp_reg_seq tok (orc := orcL []) (fz := []) (l := [0, 1, 8, 9]) (c := _) (.inr fun i h => h) h (by kernel_rfl) (AllP.cons hc9 AllP.nil) ?_
  intro a w h
  obtain ⟨hc8, hF⟩ := of_if hF
  refine wp_reg_seq tok (orc := orcL []) (fz := []) (l := [0, 1, 8, 9, 10]) (c := _) (.inr fun i h => h) h (by kernel_rfl) (AllP.cons hc8 AllP.nil) ?_
  intro a w h
  refine wp_seq ?_
  obtain ⟨hc7, hF⟩ := of_if hF
  refine wp_reg_seq tok (orc := orcL []) (fz := []) (l := [1, 8, 9, 10, 29]) (c := _) (.inr fun i h => h) h (by kernel_rfl) (AllP.cons hc7 AllP.nil) ?_
  intro a w h
  refine wp_midT (fun a w => ∃ v : Int, f35.j3 k r1 x1 x2 v = some r ∧ Rel w0 (fun _ => False) Zi Try.f35.ntmps ((fun (v2 : Int) => ([(1, .val (.int .i64) x1), (8, .val (.int .i64) r1), (9, .val (.int .i64) (IntKind.i64.wrap ((1 : Int) * 2 ^ (min (Int.toNat (IntKind.u64.wrap x2)) IntKind.i64.bits)))), (10, .val (.int .i64) v2)] : SS)) v) a w) ?_ ?_
  ·
    refine wp_if h (b := (bif (decide (((IntKind.i64.wrap (Int.tdiv (IntKind.i64.wrap (x0 + (16777216 : Int))) r1)) : Int) > (0 : Int))) then (((Int.tmod (IntKind.i64.wrap (x0 + (16777216 : Int))) r1) : Int) == (0 : Int)) else false)) (by kernel_rfl) (fun hb => ?_) (fun hb => ?_)
    · replace hF := of_t hb hF
      refine wp_reg tok (orc := orcL []) (fz := []) (l := [1, 8, 9, 10]) (c := _) (.inr fun i h => h) h (by kernel_rfl) (AllP.nil) ?_
      intro a w h
      exact ⟨(IntKind.i64.wrap ((IntKind.i64.wrap (Int.tdiv (IntKind.i64.wrap (x0 + (16777216 : Int))) r1)) - (1 : Int))), hF, h.arrive (fz := []) (l := [1, 8, 9, 10]) (.inr fun i h => h) (by kernel_rfl)⟩
    · replace hF := of_f hb hF
      refine wp_skip ?_
      exact ⟨(IntKind.i64.wrap (Int.tdiv (IntKind.i64.wrap (x0 + (16777216 : Int))) r1)), hF, h.arrive (fz := []) (l := [1, 8, 9, 10]) (.inr fun i h => h) (by kernel_rfl)⟩
  · rintro a w ⟨v2, hF, h⟩
    rw [f35.j3] at hF
    obtain ⟨hc6, hF⟩ := of_if hF
    refine wp_reg_seq tok (orc := orcL []) (fz := []) (l := [9, 10, 11]) (c := _) (.inr fun i h => h) h (by kernel_rfl) (AllP.cons hc6 AllP.nil) ?_
    intro a w h
    refine wp_seq ?_
    refine wp_reg_seq tok (orc := orcL []) (fz := []) (l := [9, 10, 11, 39]) (c := _) (.inr fun i h => h) h (by kernel_rfl) (AllP.nil) ?_
    intro a w h
    refine wp_midT (fun a w => ∃ v : Int, f35.j5 k v2 v = some r ∧ Rel w0 (fun _ => False) Zi Try.f35.ntmps ((fun (v4 : Int) => ([(10, .val (.int .i64) v2), (11, .val (.int .i64) v4)] : SS)) v) a w) ?_ ?_
    ·
      refine wp_if h (b := (decide (((IntKind.i64.wrap (Int.tdiv (IntKind.i64.wrap (x1 + (16777216 : Int))) r1)) : Int) > (IntKind.i64.wrap ((IntKind.i64.wrap ((1 : Int) * 2 ^ (min (Int.toNat (IntKind.u64.wrap x2)) IntKind.i64.bits))) - (1 : Int)))))) (by kernel_rfl) (fun hb => ?_) (fun hb => ?_)
      · replace hF := of_t hb hF
        refine wp_reg tok (orc := orcL []) (fz := []) (l := [10, 11]) (c := _) (.inr fun i h => h) h (by kernel_rfl) (AllP.nil) ?_
        intro a w h
        exact ⟨(IntKind.i64.wrap ((IntKind.i64.wrap ((1 : Int) * 2 ^ (min (Int.toNat (IntKind.u64.wrap x2)) IntKind.i64.bits))) - (1 : Int))), hF, h.arrive (fz := []) (l := [10, 11]) (.inr fun i h => h) (by kernel_rfl)⟩
      · replace hF := of_f hb hF
        refine wp_skip ?_
        exact ⟨(IntKind.i64.wrap (Int.tdiv (IntKind.i64.wrap (x1 + (16777216 : Int))) r1)), hF, h.arrive (fz := []) (l := [10, 11]) (.inr fun i h => h) (by kernel_rfl)⟩
    · rintro a w ⟨v4, hF, h⟩
      rw [f35.j5] at hF
      refine wp_reg_seq tok (orc := orcL []) (fz := []) (l := [6, 7]) (c := _) (.inr fun i h => h) h (by kernel_rfl) (AllP.nil) ?_
      intro a w h
      cases hF
      exact wp_ret (ret_okR tok h rfl (by kernel_rfl)).1

def f9.l187 (k : Nat) (r2 : (Int × Int)) (x1 : Int) (v171 : Int) (q103 : ((List (Int × (Int × Int))) × Int) → Option (List (Int × (Int × Int)))) : Nat → ((List (Int × (Int × Int))) × Int) → Option (List (Int × (Int × Int)))
  | 0, _ => none
  | m187 + 1, (v198, v199) => if (decide ((v199 : Int) ≤ r2.2)) then (if ((List.length v198 + List.length [(x1, (v199, v171))]) * 24 ≤ 140737488355328) then ((f9.l187 k r2 x1 v171 q103) m187 ((v198 ++ [(x1, (v199, v171))]), (IntKind.i64.wrap (v199 + (1 : Int))))) else none) else (q103 (v198, (IntKind.i64.wrap (v171 + (1 : Int)))))
def f9.l103 (k : Nat) (r3 : (Int × Int)) (r2 : (Int × Int)) (x1 : Int) : Nat → ((List (Int × (Int × Int))) × Int) → Option (List (Int × (Int × Int)))
  | 0, _ => none
  | m103 + 1, (v170, v171) => if (decide ((v171 : Int) ≤ r3.2)) then (f9.l187 k r2 x1 v171 ((f9.l103 k r3 r2 x1) m103) k (v170, r2.1)) else (some v170)
def f9 (k : Nat) (x0 : ((Int × Int) × (Int × Int))) (x1 : Int) : Option (List (Int × (Int × Int))) := (f34 k x0).bind fun r1 => (if (bif (bif (!r1) then true else (decide ((x1 : Int) < (0 : Int)))) then true else (decide ((x1 : Int) > (10 : Int)))) then (some ([] : List (Int × (Int × Int)))) else ((f35 k x0.1.1 x0.2.1 x1).bind fun r2 => ((f35 k x0.1.2 x0.2.2 x1).bind fun r3 => (if (decide (((IntKind.i64.wrap ((IntKind.i64.wrap ((IntKind.i64.wrap (r2.2 - r2.1)) + (1 : Int))) * (IntKind.i64.wrap ((IntKind.i64.wrap (r3.2 - r3.1)) + (1 : Int))))) : Int) > (400 : Int))) then (some ([] : List (Int × (Int × Int)))) else (f9.l103 k r3 r2 x1 k (([] : List (Int × (Int × Int))), r3.1))))))
set_option maxRecDepth 100000 in
/-- 'spec.TilesOf'. -/
theorem c9 (k : Nat) (x0 : ((Int × Int) × (Int × Int))) (x1 : Int) (r : (List (Int × (Int × Int)))) (hF : f9 k x0 x1 = some r) : PCall Try.prog 9 [⟨sh4, x0⟩, ⟨(.int .i64), x1⟩] [⟨sh7, r⟩] := by
  refine pcall_intro Try.func9 rfl rfl (Nat.le_of_ble_eq_true rfl) ?_
  intro w0 Zi a w h
  rw [f9] at hF
  refine wp_reg_seq tok (orc := orcL []) (fz := []) (l := [1, 2]) (c := _) (.inr fun i h => h) h (by kernel_rfl) (AllP.nil) ?_
  intro a w h
  refine wp_reg_seq tok (orc := orcL []) (fz := []) (l := [1, 2, 5]) (c := _) (.inr fun i h => h) h (by kernel_rfl) (AllP.nil) ?_
  intro a w h
  refine wp_seq ?_
  obtain ⟨r1, hr204, hF⟩ := of_bind hF
  refine wp_reg_seq tok (orc := orcL [(14, [⟨.bool, r1⟩])]) (fz := []) (l := [1, 2, 5, 23]) (c := _) (.inr fun i h => h) h (by kernel_rfl) (AllP.cons (c34 k x0 r1 hr204) AllP.nil) ?_
  intro a w h
  refine wp_if h (b := (bif (bif (!r1) then true else (decide ((x1 : Int) < (0 : Int)))) then true else (decide ((x1 : Int) > (10 : Int))))) (by kernel_rfl) (fun hb => ?_) (fun hb => ?_)
  · replace hF := of_t hb hF
    refine wp_reg_seq tok (orc := orcL []) (fz := []) (l := [4, 5]) (c := _) (.inr fun i h => h) h (by kernel_rfl) (AllP.nil) ?_
    intro a w h
    cases hF
    exact wp_ret (ret_okR tok h rfl (by kernel_rfl)).1
  · replace hF := of_f hb hF
    refine wp_skip ?_
    obtain ⟨r2, hr203, hF⟩ := of_bind hF
    refine wp_reg_seq tok (orc := orcL [(33, [⟨(.int .i64), r2.1⟩, ⟨(.int .i64), r2.2⟩])]) (fz := []) (l := [1, 2, 5, 6, 7]) (c := _) (.inr fun i h => h) h (by kernel_rfl) (AllP.cons (c35 k x0.1.1 x0.2.1 x1 r2 hr203) AllP.nil) ?_
    intro a w h
    obtain ⟨r3, hr202, hF⟩ := of_bind hF
    refine wp_reg_seq tok (orc := orcL [(44, [⟨(.int .i64), r3.1⟩, ⟨(.int .i64), r3.2⟩])]) (fz := []) (l := [1, 5, 6, 7, 8, 9]) (c := _) (.inr fun i h => h) h (by kernel_rfl) (AllP.cons (c35 k x0.1.2 x0.2.2 x1 r3 hr202) AllP.nil) ?_
    intro a w h
    refine wp_seq ?_
    refine wp_reg_seq tok (orc := orcL []) (fz := []) (l := [1, 5, 6, 7, 8, 9, 56]) (c := _) (.inr fun i h => h) h (by kernel_rfl) (AllP.nil) ?_
    intro a w h
    refine wp_if h (b := (decide (((IntKind.i64.wrap ((IntKind.i64.wrap ((IntKind.i64.wrap (r2.2 - r2.1)) + (1 : Int))) * (IntKind.i64.wrap ((IntKind.i64.wrap (r3.2 - r3.1)) + (1 : Int))))) : Int) > (400 : Int)))) (by kernel_rfl) (fun hb => ?_) (fun hb => ?_)
    · replace hF := of_t hb hF
      refine wp_reg_seq tok (orc := orcL []) (fz := []) (l := [4, 5]) (c := _) (.inr fun i h => h) h (by kernel_rfl) (AllP.nil) ?_
      intro a w h
      cases hF
      exact wp_ret (ret_okR tok h rfl (by kernel_rfl)).1
    · replace hF := of_f hb hF
      refine wp_skip ?_
      refine wp_seq ?_
      refine wp_reg_seq tok (orc := orcL []) (fz := []) (l := [1, 5, 6, 7, 9, 10]) (c := _) (.inr fun i h => h) h (by kernel_rfl) (AllP.nil) ?_
      intro a w h
      refine wp_block ?_
      refine wp_loop_fuel (f9.l103 k r3 r2 x1) (fun ((v170, v171) : ((List (Int × (Int × Int))) × Int)) => [(1, .val (.int .i64) x1), (5, .val sh7 v170), (6, .val (.int .i64) r2.1), (7, .val (.int .i64) r2.2), (9, .val (.int .i64) r3.2), (10, .val (.int .i64) v171)]) (fun v h => by obtain ⟨v170, v171⟩ := v; rw [f9.l103] at h; cases h) ?_ hF (h.arrive (fz := []) (l := [1, 5, 6, 7, 9, 10]) (.inr fun i h => h) (by kernel_rfl))
      intro m103 v a w hF h
      obtain ⟨v170, v171⟩ := v
      rw [f9.l103] at hF
      refine wp_seq ?_
      refine wp_reg_seq tok (orc := orcL []) (fz := []) (l := [1, 5, 6, 7, 9, 10, 61]) (c := _) (.inr fun i h => h) h (by kernel_rfl) (AllP.nil) ?_
      intro a w h
      refine wp_if h (b := (decide ((v171 : Int) ≤ r3.2))) (by kernel_rfl) (fun hb => ?_) (fun hb => ?_)
      · replace hF := of_t hb hF
        refine wp_skip ?_
        refine wp_seq <| wp_block ?_
        refine wp_reg_seq tok (orc := orcL []) (fz := []) (l := [1, 5, 6, 7, 9, 10, 11]) (c := _) (.inr fun i h => h) h (by kernel_rfl) (AllP.nil) ?_
        intro a w h
        refine wp_block ?_
        refine wp_loop_fuel (f9.l187 k r2 x1 v171 ((f9.l103 k r3 r2 x1) m103)) (fun ((v198, v199) : ((List (Int × (Int × Int))) × Int)) => [(1, .val (.int .i64) x1), (5, .val sh7 v198), (6, .val (.int .i64) r2.1), (7, .val (.int .i64) r2.2), (9, .val (.int .i64) r3.2), (10, .val (.int .i64) v171), (11, .val (.int .i64) v199)]) (fun v h => by obtain ⟨v198, v199⟩ := v; rw [f9.l187] at h; cases h) ?_ hF (h.arrive (fz := []) (l := [1, 5, 6, 7, 9, 10, 11]) (.inr fun i h => h) (by kernel_rfl))
        intro m187 v a w hF h
        obtain ⟨v198, v199⟩ := v
        rw [f9.l187] at hF
        refine wp_seq ?_
        refine wp_reg_seq tok (orc := orcL []) (fz := []) (l := [1, 5, 6, 7, 9, 10, 11, 67]) (c := _) (.inr fun i h => h) h (by kernel_rfl) (AllP.nil) ?_
        intro a w h
        refine wp_if h (b := (decide ((v199 : Int) ≤ r2.2))) (by kernel_rfl) (fun hb => ?_) (fun hb => ?_)
        · replace hF := of_t hb hF
          refine wp_skip ?_
          refine wp_seq <| wp_block ?_
          obtain ⟨hc201, hF⟩ := of_if hF
          refine wp_reg tok (orc := orcL []) (fz := []) (l := [1, 5, 6, 7, 9, 10, 11]) (c := _) (.inr fun i h => h) h (by kernel_rfl) (AllP.cons hc201 AllP.nil) ?_
          intro a w h
          refine wp_reg tok (orc := orcL []) (fz := []) (l := [1, 5, 6, 7, 9, 10, 11]) (c := _) (.inr fun i h => h) h (by kernel_rfl) (AllP.nil) ?_
          intro a w h
          exact ⟨((v198 ++ [(x1, (v199, v171))]), (IntKind.i64.wrap (v199 + (1 : Int)))), hF, h.arrive (fz := []) (l := [1, 5, 6, 7, 9, 10, 11]) (.inr fun i h => h) (by kernel_rfl)⟩
        · replace hF := of_f hb hF
          refine wp_exit ?_
          refine wp_reg tok (orc := orcL []) (fz := []) (l := [1, 5, 6, 7, 9, 10]) (c := _) (.inr fun i h => h) h (by kernel_rfl) (AllP.nil) ?_
          intro a w h
          exact ⟨(v198, (IntKind.i64.wrap (v171 + (1 : Int)))), hF, h.arrive (fz := []) (l := [1, 5, 6, 7, 9, 10]) (.inr fun i h => h) (by kernel_rfl)⟩
      · replace hF := of_f hb hF
        refine wp_exit ?_
        refine wp_reg_seq tok (orc := orcL []) (fz := []) (l := [4, 5]) (c := _) (.inr fun i h => h) h (by kernel_rfl) (AllP.nil) ?_
        intro a w h
        cases hF
        exact wp_ret (ret_okR tok h rfl (by kernel_rfl)).1

def f11 (k : Nat) (x0 : (Int × (Int × Int))) : Option Bool := if (bif (decide ((x0.1 : Int) < (0 : Int))) then true else (decide ((x0.1 : Int) > (10 : Int)))) then (some false) else (if ((0 : Int) ≤ x0.1) then (some (bif (bif (bif (decide ((x0.2.1 : Int) ≥ (0 : Int))) then (decide ((x0.2.1 : Int) < (IntKind.i64.wrap ((1 : Int) * 2 ^ (min (Int.toNat x0.1) IntKind.i64.bits))))) else false) then (decide ((x0.2.2 : Int) ≥ (0 : Int))) else false) then (decide ((x0.2.2 : Int) < (IntKind.i64.wrap ((1 : Int) * 2 ^ (min (Int.toNat x0.1) IntKind.i64.bits))))) else false)) else none)
set_option maxRecDepth 100000 in
/-- 'impl.TileOk'. -/
theorem c11 (k : Nat) (x0 : (Int × (Int × Int))) (r : Bool) (hF : f11 k x0 = some r) : PCall Try.prog 11 [⟨sh6, x0⟩] [⟨.bool, r⟩] := by
  refine pcall_intro Try.func11 rfl rfl (Nat.le_of_ble_eq_true rfl) ?_
  intro w0 Zi a w h
  rw [f11] at hF
  refine wp_reg_seq tok (orc := orcL []) (fz := []) (l := [1]) (c := _) (.inr fun i h => h) h (by kernel_rfl) (AllP.nil) ?_
  intro a w h
  refine wp_seq ?_
  refine wp_reg_seq tok (orc := orcL []) (fz := []) (l := [1, 11]) (c := _) (.inr fun i h => h) h (by kernel_rfl) (AllP.nil) ?_
  intro a w h
  refine wp_if h (b := (bif (decide ((x0.1 : Int) < (0 : Int))) then true else (decide ((x0.1 : Int) > (10 : Int))))) (by kernel_rfl) (fun hb => ?_) (fun hb => ?_)
  · replace hF := of_t hb hF
    refine wp_reg_seq tok (orc := orcL []) (fz := []) (l := [2]) (c := _) (.inr fun i h => h) h (by kernel_rfl) (AllP.nil) ?_
    intro a w h
    cases hF
    exact wp_ret (ret_okR tok h rfl (by kernel_rfl)).1
  · replace hF := of_f hb hF
    refine wp_skip ?_
    obtain ⟨hc1, hF⟩ := of_if hF
    refine wp_reg_seq tok (orc := orcL []) (fz := []) (l := [1, 3]) (c := _) (.inr fun i h => h) h (by kernel_rfl) (AllP.cons hc1 AllP.nil) ?_
    intro a w h
    refine wp_reg_seq tok (orc := orcL []) (fz := []) (l := [2]) (c := _) (.inr fun i h => h) h (by kernel_rfl) (AllP.nil) ?_
    intro a w h
    cases hF
    exact wp_ret (ret_okR tok h rfl (by kernel_rfl)).1

def f10 (k : Nat) (x0 : (Int × (Int × Int))) : Option ((Int × Int) × (Int × Int)) := (f11 k x0).bind fun r1 => (if (!r1) then (some (((0 : Int), (0 : Int)), ((0 : Int), (0 : Int)))) else (if ((0 : Int) ≤ x0.1) then (some (((IntKind.i64.wrap ((IntKind.i64.wrap (x0.2.1 * (Int.fdiv (33554432 : Int) (2 ^ (min (Int.toNat x0.1) IntKind.i64.bits))))) - (16777216 : Int))), (IntKind.i64.wrap ((IntKind.i64.wrap (x0.2.2 * (Int.fdiv (33554432 : Int) (2 ^ (min (Int.toNat x0.1) IntKind.i64.bits))))) - (16777216 : Int)))), ((IntKind.i64.wrap ((IntKind.i64.wrap ((IntKind.i64.wrap (x0.2.1 * (Int.fdiv (33554432 : Int) (2 ^ (min (Int.toNat x0.1) IntKind.i64.bits))))) - (16777216 : Int))) + (Int.fdiv (33554432 : Int) (2 ^ (min (Int.toNat x0.1) IntKind.i64.bits))))), (IntKind.i64.wrap ((IntKind.i64.wrap ((IntKind.i64.wrap (x0.2.2 * (Int.fdiv (33554432 : Int) (2 ^ (min (Int.toNat x0.1) IntKind.i64.bits))))) - (16777216 : Int))) + (Int.fdiv (33554432 : Int) (2 ^ (min (Int.toNat x0.1) IntKind.i64.bits)))))))) else none))
set_option maxRecDepth 100000 in
/-- 'impl.TileBox'. -/
theorem c10 (k : Nat) (x0 : (Int × (Int × Int))) (r : ((Int × Int) × (Int × Int))) (hF : f10 k x0 = some r) : PCall Try.prog 10 [⟨sh6, x0⟩] [⟨sh4, r⟩] := by
  refine pcall_intro Try.func10 rfl rfl (Nat.le_of_ble_eq_true rfl) ?_
  intro w0 Zi a w h
  rw [f10] at hF
  refine wp_reg_seq tok (orc := orcL []) (fz := []) (l := [1, 2]) (c := _) (.inr fun i h => h) h (by kernel_rfl) (AllP.nil) ?_
  intro a w h
  refine wp_seq ?_
  obtain ⟨r1, hr3, hF⟩ := of_bind hF
  refine wp_reg_seq tok (orc := orcL [(6, [⟨.bool, r1⟩])]) (fz := []) (l := [1, 2, 7]) (c := _) (.inr fun i h => h) h (by kernel_rfl) (AllP.cons (c11 k x0 r1 hr3) AllP.nil) ?_
  intro a w h
  refine wp_if h (b := (!r1)) (by kernel_rfl) (fun hb => ?_) (fun hb => ?_)
  · replace hF := of_t hb hF
    refine wp_reg_seq tok (orc := orcL []) (fz := []) (l := [2]) (c := _) (.inr fun i h => h) h (by kernel_rfl) (AllP.nil) ?_
    intro a w h
    cases hF
    exact wp_ret (ret_okR tok h rfl (by kernel_rfl)).1
  · replace hF := of_f hb hF
    refine wp_skip ?_
    obtain ⟨hc2, hF⟩ := of_if hF
    refine wp_reg_seq tok (orc := orcL []) (fz := []) (l := [1, 2, 3]) (c := _) (.inr fun i h => h) h (by kernel_rfl) (AllP.cons hc2 AllP.nil) ?_
    intro a w h
    refine wp_reg_seq tok (orc := orcL []) (fz := []) (l := [2, 3, 4]) (c := _) (.inr fun i h => h) h (by kernel_rfl) (AllP.nil) ?_
    intro a w h
    refine wp_reg_seq tok (orc := orcL []) (fz := []) (l := [2]) (c := _) (.inr fun i h => h) h (by kernel_rfl) (AllP.nil) ?_
    intro a w h
    cases hF
    exact wp_ret (ret_okR tok h rfl (by kernel_rfl)).1

def f12.l12 (k : Nat) (x0 : (List (Int × (Int × Int)))) (x1 : (Int × (Int × Int))) : Nat → Int → Option Bool
  | 0, _ => none
  | m12 + 1, v20 => if (decide ((v20 : Int) < (List.length x0 : Int))) then (if (0 ≤ v20 ∧ v20 < (List.length x0 : Int)) then (if (Sh.beq sh6 (List.getD x0 (Int.toNat v20) ((0 : Int), ((0 : Int), (0 : Int)))) x1) then (some true) else ((f12.l12 k x0 x1) m12 (IntKind.i64.wrap (v20 + (1 : Int))))) else none) else (some false)
def f12 (k : Nat) (x0 : (List (Int × (Int × Int)))) (x1 : (Int × (Int × Int))) : Option Bool := f12.l12 k x0 x1 k (0 : Int)
set_option maxRecDepth 100000 in
/-- 'laws.hasTile'. -/
theorem c12 (k : Nat) (x0 : (List (Int × (Int × Int)))) (x1 : (Int × (Int × Int))) (r : Bool) (hF : f12 k x0 x1 = some r) : PCall Try.prog 12 [⟨sh8, x0⟩, ⟨sh6, x1⟩] [⟨.bool, r⟩] := by
  refine pcall_intro Try.func12 rfl rfl (Nat.le_of_ble_eq_true rfl) ?_
  intro w0 Zi a w h
  rw [f12] at hF
  refine wp_reg_seq tok (orc := orcL []) (fz := []) (l := [0, 3]) (c := _) (.inr fun i h => h) h (by kernel_rfl) (AllP.nil) ?_
  intro a w h
  refine wp_seq ?_
  refine wp_reg_seq tok (orc := orcL []) (fz := []) (l := [0, 3, 5]) (c := _) (.inr fun i h => h) h (by kernel_rfl) (AllP.nil) ?_
  intro a w h
  refine wp_block ?_
  refine wp_loop_fuel (f12.l12 k x0 x1) (fun (v20 : Int) => [(0, .val sh8 x0), (3, .val sh5 (some x1)), (5, .val (.int .i64) v20)]) (fun v h => by rw [f12.l12] at h; cases h) ?_ hF (h.arrive (fz := []) (l := [0, 3, 5]) (.inr fun i h => h) (by kernel_rfl))
  intro m12 v20 a w hF h
  rw [f12.l12] at hF
  refine wp_seq ?_
  refine wp_reg_seq tok (orc := orcL []) (fz := []) (l := [0, 3, 5, 9]) (c := _) (.inr fun i h => h) h (by kernel_rfl) (AllP.nil) ?_
  intro a w h
  refine wp_if h (b := (decide ((v20 : Int) < (List.length x0 : Int)))) (by kernel_rfl) (fun hb => ?_) (fun hb => ?_)
  · replace hF := of_t hb hF
    refine wp_skip ?_
    refine wp_seq <| wp_block ?_
    obtain ⟨hc22, hF⟩ := of_if hF
    refine wp_regy_seq tok (orc := orcL []) (fz := []) (l := [0, 3, 5, 17]) (c := _) ([], [], [], []) 6 (.inr fun i h => h) h (by kernel_rfl) (by kernel_rfl) (AllP.cons hc22 (AllP.cons (And.intro (show eqTy Try.prog 9 34 (.st (.pair (.int .i64) (.pair (.int .i64) (.int .i64)))) = true from by kernel_rfl) (show Try.prog.eqGuardType Try.prog.depth 34 = false from by kernel_rfl)) AllP.nil)) ?_
    intro a w h
    refine wp_if h (b := (Sh.beq sh6 (List.getD x0 (Int.toNat v20) ((0 : Int), ((0 : Int), (0 : Int)))) x1)) (by kernel_rfl) (fun hb => ?_) (fun hb => ?_)
    · replace hF := of_t hb hF
      refine wp_reg_seq tok (orc := orcL []) (fz := []) (l := [4]) (c := _) (.inr fun i h => h) h (by kernel_rfl) (AllP.nil) ?_
      intro a w h
      cases hF
      exact wp_ret (ret_okR tok h rfl (by kernel_rfl)).1
    · replace hF := of_f hb hF
      refine wp_skip ?_
      refine wp_reg tok (orc := orcL []) (fz := []) (l := [0, 3, 5]) (c := _) (.inr fun i h => h) h (by kernel_rfl) (AllP.nil) ?_
      intro a w h
      exact ⟨(IntKind.i64.wrap (v20 + (1 : Int))), hF, h.arrive (fz := []) (l := [0, 3, 5]) (.inr fun i h => h) (by kernel_rfl)⟩
  · replace hF := of_f hb hF
    refine wp_exit ?_
    refine wp_reg_seq tok (orc := orcL []) (fz := []) (l := [4]) (c := _) (.inr fun i h => h) h (by kernel_rfl) (AllP.nil) ?_
    intro a w h
    cases hF
    exact wp_ret (ret_okR tok h rfl (by kernel_rfl)).1

def f3.l3907 (k : Nat) (v3305 : Int) (r3 : (List (Int × (Int × Int)))) (r2 : (((Int × Int) × (Int × Int)) × Int)) (v3853 : Int) (q3637 : Int → Option Bool) : Nat → Int → Option Bool
  | 0, _ => none
  | m3907 + 1, v3943 => if (decide ((v3943 : Int) ≤ (1 : Int))) then (if (0 ≤ v3305 ∧ v3305 < (List.length r3 : Int)) then (if (0 ≤ v3305 ∧ v3305 < (List.length r3 : Int)) then ((f10 k (r2.2, ((IntKind.i64.wrap ((List.getD r3 (Int.toNat v3305) ((0 : Int), ((0 : Int), (0 : Int)))).2.1 + v3853)), (IntKind.i64.wrap ((List.getD r3 (Int.toNat v3305) ((0 : Int), ((0 : Int), (0 : Int)))).2.2 + v3943))))).bind fun r3952 => ((f11 k (r2.2, ((IntKind.i64.wrap ((List.getD r3 (Int.toNat v3305) ((0 : Int), ((0 : Int), (0 : Int)))).2.1 + v3853)), (IntKind.i64.wrap ((List.getD r3 (Int.toNat v3305) ((0 : Int), ((0 : Int), (0 : Int)))).2.2 + v3943))))).bind fun r3953 => ((if (r3953 = true) then f12 k r3 (r2.2, ((IntKind.i64.wrap ((List.getD r3 (Int.toNat v3305) ((0 : Int), ((0 : Int), (0 : Int)))).2.1 + v3853)), (IntKind.i64.wrap ((List.getD r3 (Int.toNat v3305) ((0 : Int), ((0 : Int), (0 : Int)))).2.2 + v3943)))) else some default).bind fun r3954 => (if (bif r3953 then (!(((bif (bif (bif (decide ((r3952.1.1 : Int) ≤ r2.1.2.1)) then (decide ((r2.1.1.1 : Int) ≤ r3952.2.1)) else false) then (decide ((r3952.1.2 : Int) ≤ r2.1.2.2)) else false) then (decide ((r2.1.1.2 : Int) ≤ r3952.2.2)) else false) : Bool) == r3954)) else false) then (some false) else ((f3.l3907 k v3305 r3 r2 v3853 q3637) m3907 (IntKind.i64.wrap (v3943 + (1 : Int)))))))) else none) else none) else (q3637 (IntKind.i64.wrap (v3853 + (1 : Int))))
def f3.l3637 (k : Nat) (v3305 : Int) (r3 : (List (Int × (Int × Int)))) (r2 : (((Int × Int) × (Int × Int)) × Int)) (q1985 : Int → Option Bool) : Nat → Int → Option Bool
  | 0, _ => none
  | m3637 + 1, v3853 => if (decide ((v3853 : Int) ≤ (1 : Int))) then (f3.l3907 k v3305 r3 r2 v3853 ((f3.l3637 k v3305 r3 r2 q1985) m3637) k (-1 : Int)) else (q1985 (IntKind.i64.wrap (v3305 + (1 : Int))))
def f3.l1985 (k : Nat) (r3 : (List (Int × (Int × Int)))) (r2 : (((Int × Int) × (Int × Int)) × Int)) : Nat → Int → Option Bool
  | 0, _ => none
  | m1985 + 1, v3305 => if (decide ((v3305 : Int) < (List.length r3 : Int))) then (if (0 ≤ v3305 ∧ v3305 < (List.length r3 : Int)) then ((f10 k (List.getD r3 (Int.toNat v3305) ((0 : Int), ((0 : Int), (0 : Int))))).bind fun r3635 => (if (0 ≤ v3305 ∧ v3305 < (List.length r3 : Int)) then ((f11 k (List.getD r3 (Int.toNat v3305) ((0 : Int), ((0 : Int), (0 : Int))))).bind fun r3636 => (if (bif (bif (bif (bif (!r3636) then true else (decide ((r3635.1.1 : Int) > r2.1.2.1))) then true else (decide ((r2.1.1.1 : Int) > r3635.2.1))) then true else (decide ((r3635.1.2 : Int) > r2.1.2.2))) then true else (decide ((r2.1.1.2 : Int) > r3635.2.2))) then (some false) else (f3.l3637 k v3305 r3 r2 ((f3.l1985 k r3 r2) m1985) k (-1 : Int)))) else none)) else none) else (some true)
def f3 (k : Nat) (x0 : (List Int)) : Option Bool := (f6 k x0).bind fun r1 => (if r1 then (some true) else ((f7 k x0).bind fun r2 => ((f8 k r2.1 r2.2).bind fun r3 => ((f8 k (((0 : Int), (0 : Int)), ((0 : Int), (0 : Int))) (0 : Int)).bind fun r4 => (if (((List.length r4 : Int) : Int) != (1 : Int)) then (some false) else ((f9 k r2.1 r2.2).bind fun r5 => (if (((List.length r3 : Int) : Int) != (List.length r5 : Int)) then (some false) else (f3.l1985 k r3 r2 k (0 : Int)))))))))
set_option maxRecDepth 100000 in
/-- 'laws.FnTilesOf'. -/
theorem c3 (k : Nat) (x0 : (List Int)) (r : Bool) (hF : f3 k x0 = some r) : PCall Try.prog 3 [⟨(.sl false 5 (.int .u8)), x0⟩] [⟨.bool, r⟩] := by
  refine pcall_intro Try.func3 rfl rfl (Nat.le_of_ble_eq_true rfl) ?_
  intro w0 Zi a w h
  rw [f3] at hF
  refine wp_reg_seq tok (orc := orcL []) (fz := []) (l := [0]) (c := _) (.inr fun i h => h) h (by kernel_rfl) (AllP.nil) ?_
  intro a w h
  refine wp_seq ?_
  obtain ⟨r1, hr3968, hF⟩ := of_bind hF
  refine wp_reg_seq tok (orc := orcL [(14, [⟨.bool, r1⟩])]) (fz := []) (l := [0, 14]) (c := _) (.inr fun i h => h) h (by kernel_rfl) (AllP.cons (c6 k x0 r1 hr3968) AllP.nil) ?_
  intro a w h
  refine wp_if h (b := r1) (by kernel_rfl) (fun hb => ?_) (fun hb => ?_)
  · replace hF := of_t hb hF
    refine wp_reg_seq tok (orc := orcL []) (fz := []) (l := [2]) (c := _) (.inr fun i h => h) h (by kernel_rfl) (AllP.nil) ?_
    intro a w h
    cases hF
    exact wp_ret (ret_okR tok h rfl (by kernel_rfl)).1
  · replace hF := of_f hb hF
    refine wp_skip ?_
    obtain ⟨r2, hr3967, hF⟩ := of_bind hF
    refine wp_reg_seq tok (orc := orcL [(17, [⟨sh4, r2.1⟩, ⟨(.int .i64), r2.2⟩])]) (fz := []) (l := [3, 4]) (c := _) (.inr fun i h => h) h (by kernel_rfl) (AllP.cons (c7 k x0 r2 hr3967) AllP.nil) ?_
    intro a w h
    obtain ⟨r3, hr3966, hF⟩ := of_bind hF
    refine wp_reg_seq tok (orc := orcL [(22, [⟨sh7, r3⟩])]) (fz := []) (l := [3, 4, 5]) (c := _) (.inr fun i h => h) h (by kernel_rfl) (AllP.cons (c8 k r2.1 r2.2 r3 hr3966) AllP.nil) ?_
    intro a w h
    refine wp_seq ?_
    obtain ⟨r4, hr3965, hF⟩ := of_bind hF
    refine wp_reg_seq tok (orc := orcL [(24, [⟨sh7, r4⟩])]) (fz := []) (l := [3, 4, 5, 26]) (c := _) (.inr fun i h => h) h (by kernel_rfl) (AllP.cons (c8 k (((0 : Int), (0 : Int)), ((0 : Int), (0 : Int))) (0 : Int) r4 hr3965) AllP.nil) ?_
    intro a w h
    refine wp_if h (b := (((List.length r4 : Int) : Int) != (1 : Int))) (by kernel_rfl) (fun hb => ?_) (fun hb => ?_)
    · replace hF := of_t hb hF
      refine wp_reg_seq tok (orc := orcL []) (fz := []) (l := [2]) (c := _) (.inr fun i h => h) h (by kernel_rfl) (AllP.nil) ?_
      intro a w h
      cases hF
      exact wp_ret (ret_okR tok h rfl (by kernel_rfl)).1
    · replace hF := of_f hb hF
      refine wp_skip ?_
      refine wp_seq ?_
      obtain ⟨r5, hr3964, hF⟩ := of_bind hF
      refine wp_reg_seq tok (orc := orcL [(31, [⟨sh7, r5⟩])]) (fz := []) (l := [3, 4, 5, 33]) (c := _) (.inr fun i h => h) h (by kernel_rfl) (AllP.cons (c9 k r2.1 r2.2 r5 hr3964) AllP.nil) ?_
      intro a w h
      refine wp_if h (b := (((List.length r3 : Int) : Int) != (List.length r5 : Int))) (by kernel_rfl) (fun hb => ?_) (fun hb => ?_)
      · replace hF := of_t hb hF
        refine wp_reg_seq tok (orc := orcL []) (fz := []) (l := [2]) (c := _) (.inr fun i h => h) h (by kernel_rfl) (AllP.nil) ?_
        intro a w h
        cases hF
        exact wp_ret (ret_okR tok h rfl (by kernel_rfl)).1
      · replace hF := of_f hb hF
        refine wp_skip ?_
        refine wp_seq ?_
        refine wp_reg_seq tok (orc := orcL []) (fz := []) (l := [3, 4, 5, 6]) (c := _) (.inr fun i h => h) h (by kernel_rfl) (AllP.nil) ?_
        intro a w h
        refine wp_block ?_
        refine wp_loop_fuel (f3.l1985 k r3 r2) (fun (v3305 : Int) => [(3, .val sh3 (some r2.1)), (4, .val (.int .i64) r2.2), (5, .val sh7 r3), (6, .val (.int .i64) v3305)]) (fun v h => by rw [f3.l1985] at h; cases h) ?_ hF (h.arrive (fz := []) (l := [3, 4, 5, 6]) (.inr fun i h => h) (by kernel_rfl))
        intro m1985 v3305 a w hF h
        rw [f3.l1985] at hF
        refine wp_seq ?_
        refine wp_reg_seq tok (orc := orcL []) (fz := []) (l := [3, 4, 5, 6, 37]) (c := _) (.inr fun i h => h) h (by kernel_rfl) (AllP.nil) ?_
        intro a w h
        refine wp_if h (b := (decide ((v3305 : Int) < (List.length r3 : Int)))) (by kernel_rfl) (fun hb => ?_) (fun hb => ?_)
        · replace hF := of_t hb hF
          refine wp_skip ?_
          refine wp_seq <| wp_block ?_
          obtain ⟨hc3962, hF⟩ := of_if hF
          obtain ⟨r3635, hr3963, hF⟩ := of_bind hF
          refine wp_reg_seq tok (orc := orcL [(44, [⟨sh4, r3635⟩])]) (fz := []) (l := [3, 4, 5, 6, 7]) (c := _) (.inr fun i h => h) h (by kernel_rfl) (AllP.cons hc3962 (AllP.cons (c10 k (List.getD r3 (Int.toNat v3305) ((0 : Int), ((0 : Int), (0 : Int)))) r3635 hr3963) AllP.nil)) ?_
          intro a w h
          refine wp_seq ?_
          obtain ⟨hc3960, hF⟩ := of_if hF
          obtain ⟨r3636, hr3961, hF⟩ := of_bind hF
          refine wp_reg_seq tok (orc := orcL [(49, [⟨.bool, r3636⟩])]) (fz := []) (l := [3, 4, 5, 6, 86]) (c := _) (.inr fun i h => h) h (by kernel_rfl) (AllP.cons hc3960 (AllP.cons (c11 k (List.getD r3 (Int.toNat v3305) ((0 : Int), ((0 : Int), (0 : Int)))) r3636 hr3961) AllP.nil)) ?_
          intro a w h
          refine wp_if h (b := (bif (bif (bif (bif (!r3636) then true else (decide ((r3635.1.1 : Int) > r2.1.2.1))) then true else (decide ((r2.1.1.1 : Int) > r3635.2.1))) then true else (decide ((r3635.1.2 : Int) > r2.1.2.2))) then true else (decide ((r2.1.1.2 : Int) > r3635.2.2)))) (by kernel_rfl) (fun hb => ?_) (fun hb => ?_)
          · replace hF := of_t hb hF
            refine wp_reg_seq tok (orc := orcL []) (fz := []) (l := [2]) (c := _) (.inr fun i h => h) h (by kernel_rfl) (AllP.nil) ?_
            intro a w h
            cases hF
            exact wp_ret (ret_okR tok h rfl (by kernel_rfl)).1
          · replace hF := of_f hb hF
            refine wp_skip ?_
            refine wp_reg_seq tok (orc := orcL []) (fz := []) (l := [3, 4, 5, 6, 8]) (c := _) (.inr fun i h => h) h (by kernel_rfl) (AllP.nil) ?_
            intro a w h
            refine wp_block ?_
            refine wp_loop_fuel (f3.l3637 k v3305 r3 r2 ((f3.l1985 k r3 r2) m1985)) (fun (v3853 : Int) => [(3, .val sh3 (some r2.1)), (4, .val (.int .i64) r2.2), (5, .val sh7 r3), (6, .val (.int .i64) v3305), (8, .val (.int .i64) v3853)]) (fun v h => by rw [f3.l3637] at h; cases h) ?_ hF (h.arrive (fz := []) (l := [3, 4, 5, 6, 8]) (.inr fun i h => h) (by kernel_rfl))
            intro m3637 v3853 a w hF h
            rw [f3.l3637] at hF
            refine wp_seq ?_
            refine wp_reg_seq tok (orc := orcL []) (fz := []) (l := [3, 4, 5, 6, 8, 88]) (c := _) (.inr fun i h => h) h (by kernel_rfl) (AllP.nil) ?_
            intro a w h
            refine wp_if h (b := (decide ((v3853 : Int) ≤ (1 : Int)))) (by kernel_rfl) (fun hb => ?_) (fun hb => ?_)
            · replace hF := of_t hb hF
              refine wp_skip ?_
              refine wp_seq <| wp_block ?_
              refine wp_reg_seq tok (orc := orcL []) (fz := []) (l := [3, 4, 5, 6, 8, 9]) (c := _) (.inr fun i h => h) h (by kernel_rfl) (AllP.nil) ?_
              intro a w h
              refine wp_block ?_
              refine wp_loop_fuel (f3.l3907 k v3305 r3 r2 v3853 ((f3.l3637 k v3305 r3 r2 ((f3.l1985 k r3 r2) m1985)) m3637)) (fun (v3943 : Int) => [(3, .val sh3 (some r2.1)), (4, .val (.int .i64) r2.2), (5, .val sh7 r3), (6, .val (.int .i64) v3305), (8, .val (.int .i64) v3853), (9, .val (.int .i64) v3943)]) (fun v h => by rw [f3.l3907] at h; cases h) ?_ hF (h.arrive (fz := []) (l := [3, 4, 5, 6, 8, 9]) (.inr fun i h => h) (by kernel_rfl))
              intro m3907 v3943 a w hF h
              rw [f3.l3907] at hF
              refine wp_seq ?_
              refine wp_reg_seq tok (orc := orcL []) (fz := []) (l := [3, 4, 5, 6, 8, 9, 92]) (c := _) (.inr fun i h => h) h (by kernel_rfl) (AllP.nil) ?_
              intro a w h
              refine wp_if h (b := (decide ((v3943 : Int) ≤ (1 : Int)))) (by kernel_rfl) (fun hb => ?_) (fun hb => ?_)
              · replace hF := of_t hb hF
                refine wp_skip ?_
                refine wp_seq <| wp_block ?_
                obtain ⟨hc3958, hF⟩ := of_if hF
                obtain ⟨hc3959, hF⟩ := of_if hF
                refine wp_regy_seq tok (orc := orcL []) (fz := []) (l := [3, 4, 5, 6, 8, 9, 10]) (c := _) ([], [], [], []) 17 (.inr fun i h => h) h (by kernel_rfl) (by kernel_rfl) (AllP.cons hc3958 (AllP.cons hc3959 AllP.nil)) ?_
                intro a w h
                obtain ⟨r3952, hr3957, hF⟩ := of_bind hF
                refine wp_reg_seq tok (orc := orcL [(112, [⟨sh4, r3952⟩])]) (fz := []) (l := [3, 4, 5, 6, 8, 9, 10, 11]) (c := _) (.inr fun i h => h) h (by kernel_rfl) (AllP.cons (c10 k (r2.2, ((IntKind.i64.wrap ((List.getD r3 (Int.toNat v3305) ((0 : Int), ((0 : Int), (0 : Int)))).2.1 + v3853)), (IntKind.i64.wrap ((List.getD r3 (Int.toNat v3305) ((0 : Int), ((0 : Int), (0 : Int)))).2.2 + v3943)))) r3952 hr3957) AllP.nil) ?_
                intro a w h
                refine wp_reg_seq tok (orc := orcL []) (fz := []) (l := [3, 4, 5, 6, 8, 9, 10, 12]) (c := _) (.inr fun i h => h) h (by kernel_rfl) (AllP.nil) ?_
                intro a w h
                obtain ⟨r3953, hr3955, hF⟩ := of_bind hF
                obtain ⟨r3954, hr3956, hF⟩ := of_bind hF
                refine wp_reg_seq tok (orc := orcL [(148, [⟨.bool, r3953⟩]), (153, [⟨.bool, r3954⟩])]) (fz := []) (l := [3, 4, 5, 6, 8, 9, 155]) (c := _) (.inr fun i h => h) h (by kernel_rfl) (AllP.cons (c11 k (r2.2, ((IntKind.i64.wrap ((List.getD r3 (Int.toNat v3305) ((0 : Int), ((0 : Int), (0 : Int)))).2.1 + v3853)), (IntKind.i64.wrap ((List.getD r3 (Int.toNat v3305) ((0 : Int), ((0 : Int), (0 : Int)))).2.2 + v3943)))) r3953 hr3955) (AllP.cons (fun (hg : (r3953 = true)) => c12 k r3 (r2.2, ((IntKind.i64.wrap ((List.getD r3 (Int.toNat v3305) ((0 : Int), ((0 : Int), (0 : Int)))).2.1 + v3853)), (IntKind.i64.wrap ((List.getD r3 (Int.toNat v3305) ((0 : Int), ((0 : Int), (0 : Int)))).2.2 + v3943)))) r3954 (of_g hg hr3956)) AllP.nil)) ?_
                intro a w h
                refine wp_if h (b := (bif r3953 then (!(((bif (bif (bif (decide ((r3952.1.1 : Int) ≤ r2.1.2.1)) then (decide ((r2.1.1.1 : Int) ≤ r3952.2.1)) else false) then (decide ((r3952.1.2 : Int) ≤ r2.1.2.2)) else false) then (decide ((r2.1.1.2 : Int) ≤ r3952.2.2)) else false) : Bool) == r3954)) else false)) (by kernel_rfl) (fun hb => ?_) (fun hb => ?_)
                · replace hF := of_t hb hF
                  refine wp_reg_seq tok (orc := orcL []) (fz := []) (l := [2]) (c := _) (.inr fun i h => h) h (by kernel_rfl) (AllP.nil) ?_
                  intro a w h
                  cases hF
                  exact wp_ret (ret_okR tok h rfl (by kernel_rfl)).1
                · replace hF := of_f hb hF
                  refine wp_skip ?_
                  refine wp_reg tok (orc := orcL []) (fz := []) (l := [3, 4, 5, 6, 8, 9]) (c := _) (.inr fun i h => h) h (by kernel_rfl) (AllP.nil) ?_
                  intro a w h
                  exact ⟨(IntKind.i64.wrap (v3943 + (1 : Int))), hF, h.arrive (fz := []) (l := [3, 4, 5, 6, 8, 9]) (.inr fun i h => h) (by kernel_rfl)⟩
              · replace hF := of_f hb hF
                refine wp_exit ?_
                refine wp_reg tok (orc := orcL []) (fz := []) (l := [3, 4, 5, 6, 8]) (c := _) (.inr fun i h => h) h (by kernel_rfl) (AllP.nil) ?_
                intro a w h
                exact ⟨(IntKind.i64.wrap (v3853 + (1 : Int))), hF, h.arrive (fz := []) (l := [3, 4, 5, 6, 8]) (.inr fun i h => h) (by kernel_rfl)⟩
            · replace hF := of_f hb hF
              refine wp_exit ?_
              refine wp_reg tok (orc := orcL []) (fz := []) (l := [3, 4, 5, 6]) (c := _) (.inr fun i h => h) h (by kernel_rfl) (AllP.nil) ?_
              intro a w h
              exact ⟨(IntKind.i64.wrap (v3305 + (1 : Int))), hF, h.arrive (fz := []) (l := [3, 4, 5, 6]) (.inr fun i h => h) (by kernel_rfl)⟩
        · replace hF := of_f hb hF
          refine wp_exit ?_
          refine wp_reg_seq tok (orc := orcL []) (fz := []) (l := [2]) (c := _) (.inr fun i h => h) h (by kernel_rfl) (AllP.nil) ?_
          intro a w h
          cases hF
          exact wp_ret (ret_okR tok h rfl (by kernel_rfl)).1
end Go.Proofs.Ytckhnmkabmognaa.V
