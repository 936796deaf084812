/- FnTilesOf: the tiles of a box, program and specification. -/
import Derived.Test.YtckhnmkabmognaaR5al
set_option linter.unusedVariables false
set_option linter.unusedSimpArgs false
open Go Go.Vm Go.Proofs
namespace Go.Proofs.Ytckhnmkabmognaa.V
abbrev TT := Int × (Int × Int)
def trow (z y x : Int) : Nat → List TT
  | 0 => []
  | n + 1 => (z, (x, y)) :: trow z y (x + 1) n
def tall (z x0 y : Int) (w : Nat) : Nat → List TT
  | 0 => []
  | h + 1 => trow z y x0 w ++ tall z x0 (y + 1) w h
theorem trow_len : ∀ (n : Nat) (z y x : Int), (trow z y x n).length = n
  | 0, _, _, _ => rfl
  | n + 1, z, y, x => by simp [trow, trow_len n]
theorem tall_len (w : Nat) : ∀ (h : Nat) (z x0 y : Int), (tall z x0 y w h).length = h * w
  | 0, _, _, _ => by simp [tall]
  | h + 1, z, x0, y => by simp [tall, tall_len w h, trow_len, Nat.add_mul]; omega
theorem trow_mem : ∀ (n : Nat) (z y x : Int) (t : TT), t ∈ trow z y x n ↔ t.1 = z ∧ t.2.2 = y ∧ x ≤ t.2.1 ∧ t.2.1 < x + (n : Int)
  | 0, z, y, x, t => by simp [trow]
  | n + 1, z, y, x, t => by
    obtain ⟨a, b, c⟩ := t
    simp only [trow, List.mem_cons, trow_mem n, Prod.mk.injEq]
    omega
theorem tall_mem (w : Nat) : ∀ (h : Nat) (z x0 y : Int) (t : TT), t ∈ tall z x0 y w h ↔ t.1 = z ∧ (x0 ≤ t.2.1 ∧ t.2.1 < x0 + (w : Int)) ∧ y ≤ t.2.2 ∧ t.2.2 < y + (h : Int)
  | 0, z, x0, y, t => by simp [tall]
  | h + 1, z, x0, y, t => by
    simp only [tall, List.mem_append, trow_mem, tall_mem w h]
    omega
theorem rowLoop {L : Nat → List TT × Int → Option (List TT)} {q : List TT × Int → Option (List TT)} {z y hi : Int}
    (hL : ∀ m acc x, L (m + 1) (acc, x) = if decide ((x : Int) ≤ hi) then (if (List.length acc + List.length [(z, (x, y))]) * 24 ≤ 140737488355328 then L m (acc ++ [(z, (x, y))], IntKind.i64.wrap (x + 1)) else none) else q (acc, IntKind.i64.wrap (y + 1))) (hh : hi ≤ 1000000) :
    ∀ (w m : Nat) (acc : List TT) (x : Int), w = (hi + 1 - x).toNat → w < m → -1000000 ≤ x → acc.length + w ≤ 1000000000 → L m (acc, x) = q (acc ++ trow z y x w, IntKind.i64.wrap (y + 1)) := by
  intro w
  induction w with
  | zero =>
    intro m acc x hw hm hx ha
    obtain ⟨m, rfl⟩ : ∃ m', m = m' + 1 := ⟨m - 1, by omega⟩
    rw [hL, if_f (by simp; omega)]
    simp [trow]
  | succ w ih =>
    intro m acc x hw hm hx ha
    obtain ⟨m, rfl⟩ : ∃ m', m = m' + 1 := ⟨m - 1, by omega⟩
    rw [hL, if_t (by simp; omega), if_t (by simp; omega), wrap_in (n := x + 1) (by omega) (by omega), ih m _ (x + 1) (by omega) (by omega) (by omega) (by simp; omega)]
    simp [trow]
theorem colLoop {L : Nat → List TT × Int → Option (List TT)} {z x0 hy : Int} {w : Nat}
    (hL : ∀ m acc y, List.length acc + w ≤ 1000000000 → L (m + 1) (acc, y) = if decide ((y : Int) ≤ hy) then L m (acc ++ trow z y x0 w, IntKind.i64.wrap (y + 1)) else some acc) (hh : hy ≤ 1000000) (hw : w ≤ 1000000) :
    ∀ (h m : Nat) (acc : List TT) (y : Int), h = (hy + 1 - y).toNat → h < m → -1000000 ≤ y → acc.length + (h + 1) * w ≤ 1000000000 → L m (acc, y) = some (acc ++ tall z x0 y w h) := by
  intro h
  induction h with
  | zero =>
    intro m acc y he hm hy' ha
    obtain ⟨m, rfl⟩ : ∃ m', m = m' + 1 := ⟨m - 1, by omega⟩
    rw [hL _ _ _ (by omega), if_f (by simp; omega)]
    simp [tall]
  | succ h ih =>
    intro m acc y he hm hy' ha
    obtain ⟨m, rfl⟩ : ∃ m', m = m' + 1 := ⟨m - 1, by omega⟩
    have e : (h + 1 + 1) * w = (h + 1) * w + w := by rw [Nat.add_mul (h + 1) 1 w, Nat.one_mul]
    rw [hL _ _ _ (by omega), if_t (by simp; omega), wrap_in (n := y + 1) (by omega) (by omega), ih m _ (y + 1) (by omega) (by omega) (by omega) (by rw [List.length_append, trow_len]; omega)]
    simp [tall]
theorem divq {y s c : Int} (hs : 0 < s) (h1 : c * s ≤ y) (h2 : y < c * s + s) : y / s = c := by
  have a := (Int.le_ediv_iff_mul_le hs).2 h1
  have b := (Int.ediv_lt_iff_lt_mul hs).2 (show y < (c + 1) * s by rw [Int.add_mul]; omega)
  omega
structure Zf (z s n : Int) : Prop where
  s0 : 0 < s
  s1 : s ≤ 33554432
  n0 : 0 < n
  n1 : n ≤ 1024
  sn : n * s = 33554432
  fd : Int.fdiv (33554432 : Int) (2 ^ (min (Int.toNat z) IntKind.i64.bits)) = s
  tw : IntKind.i64.wrap ((1 : Int) * 2 ^ (min (Int.toNat z) IntKind.i64.bits)) = n
  u : IntKind.u64.wrap z = z
theorem zf (z : Int) (h0 : 0 ≤ z) (h1 : z ≤ 10) : ∃ s n, Zf z s n := by
  have : z = 0 ∨ z = 1 ∨ z = 2 ∨ z = 3 ∨ z = 4 ∨ z = 5 ∨ z = 6 ∨ z = 7 ∨ z = 8 ∨ z = 9 ∨ z = 10 := by omega
  rcases this with rfl | rfl | rfl | rfl | rfl | rfl | rfl | rfl | rfl | rfl | rfl
  · exact ⟨33554432, 1, by constructor <;> decide⟩
  · exact ⟨16777216, 2, by constructor <;> decide⟩
  · exact ⟨8388608, 4, by constructor <;> decide⟩
  · exact ⟨4194304, 8, by constructor <;> decide⟩
  · exact ⟨2097152, 16, by constructor <;> decide⟩
  · exact ⟨1048576, 32, by constructor <;> decide⟩
  · exact ⟨524288, 64, by constructor <;> decide⟩
  · exact ⟨262144, 128, by constructor <;> decide⟩
  · exact ⟨131072, 256, by constructor <;> decide⟩
  · exact ⟨65536, 512, by constructor <;> decide⟩
  · exact ⟨32768, 1024, by constructor <;> decide⟩
structure Rg (lx hx s n a b : Int) : Prop where
  a0 : 0 ≤ a
  a1 : a ≤ 1024
  b0 : 0 ≤ b
  b1 : b < n
  hi : ∀ X : Int, 0 ≤ X → X < n → (X * s - 16777216 ≤ hx ↔ X ≤ b)
  lo : ∀ X : Int, 0 ≤ X → X < n → (lx ≤ X * s - 16777216 + s ↔ a ≤ X)
theorem rng (k : Nat) {z s n lx hx : Int} (hz : Zf z s n) (hz0 : 0 ≤ z) (l1 : -10000000 ≤ lx) (l2 : lx ≤ hx) (l3 : hx ≤ 10000000) :
    ∃ a b, f33 k lx hx s n = some (a, b) ∧ f35 k lx hx z = some (a, b) ∧ Rg lx hx s n a b := by
  obtain ⟨s0, s1, n0, n1, sn, fd, tw, u⟩ := hz
  have hq := Int.mul_ediv_add_emod (lx + 16777216) s
  have hr0 := Int.emod_nonneg (lx + 16777216) (show s ≠ 0 by omega)
  have hr1 := Int.emod_lt_of_pos (lx + 16777216) s0
  rw [Int.mul_comm] at hq
  have hq0 : 0 ≤ (lx + 16777216) / s := Int.ediv_nonneg (by omega) (by omega)
  have hq1 : (lx + 16777216) / s ≤ lx + 16777216 := Int.ediv_le_self _ (by omega)
  have hp := Int.mul_ediv_add_emod (hx + 16777216) s
  have hp0 : 0 ≤ (hx + 16777216) / s := Int.ediv_nonneg (by omega) (by omega)
  have hp1 : (hx + 16777216) / s ≤ hx + 16777216 := Int.ediv_le_self _ (by omega)
  have hnr : (lx + 16777216) / s < n := (Int.ediv_lt_iff_lt_mul s0).2 (by rw [sn]; omega)
  have hc : (lx + 16777216 + s - 1) / s = if (lx + 16777216) % s = 0 then (lx + 16777216) / s else (lx + 16777216) / s + 1 := by
    split
    · exact divq s0 (by omega) (by omega)
    · exact divq s0 (by rw [Int.add_mul]; omega) (by rw [Int.add_mul]; omega)
  have w1 : IntKind.i64.wrap (lx + 16777216) = lx + 16777216 := wrap_in (by omega) (by omega)
  have w2 : IntKind.i64.wrap (hx + 16777216) = hx + 16777216 := wrap_in (by omega) (by omega)
  have w3 : IntKind.i64.wrap (lx + 16777216 + s) = lx + 16777216 + s := wrap_in (by omega) (by omega)
  have w4 : IntKind.i64.wrap (lx + 16777216 + s - 1) = lx + 16777216 + s - 1 := wrap_in (by omega) (by omega)
  have d1 : Int.tdiv (lx + 16777216 + s - 1) s = (lx + 16777216 + s - 1) / s := Int.tdiv_eq_ediv_of_nonneg (by omega)
  have d2 : Int.tdiv (hx + 16777216) s = (hx + 16777216) / s := Int.tdiv_eq_ediv_of_nonneg (by omega)
  have d3 : Int.tdiv (lx + 16777216) s = (lx + 16777216) / s := Int.tdiv_eq_ediv_of_nonneg (by omega)
  have d4 : Int.tmod (lx + 16777216) s = (lx + 16777216) % s := Int.tmod_eq_emod_of_nonneg (by omega)
  have w5 : IntKind.i64.wrap ((hx + 16777216) / s) = (hx + 16777216) / s := wrap_in (by omega) (by omega)
  have w6 : IntKind.i64.wrap ((lx + 16777216) / s) = (lx + 16777216) / s := wrap_in (by omega) (by omega)
  have w7 : IntKind.i64.wrap ((lx + 16777216) / s - 1) = (lx + 16777216) / s - 1 := wrap_in (by omega) (by omega)
  have w8 : IntKind.i64.wrap (n - 1) = n - 1 := wrap_in (by omega) (by omega)
  have w9 : IntKind.i64.wrap ((lx + 16777216) / s + 1) = (lx + 16777216) / s + 1 := wrap_in (by omega) (by omega)
  have w10 : IntKind.i64.wrap ((lx + 16777216) / s + 1 - 1) = (lx + 16777216) / s := by rw [show (lx + 16777216) / s + 1 - 1 = (lx + 16777216) / s by omega]; exact w6
  refine ⟨if (lx + 16777216) % s = 0 ∧ 0 < (lx + 16777216) / s then (lx + 16777216) / s - 1 else (lx + 16777216) / s, if n - 1 < (hx + 16777216) / s then n - 1 else (hx + 16777216) / s, ?_, ?_, ?_⟩
  · unfold f33
    rw [if_t (show (s : Int) ≠ 0 by omega)]
    rw [if_t (show (s : Int) ≠ 0 by omega)]
    simp only [w1, w2, w3, w4, w8, d1, d2, w5, hc, Option.some.injEq, Prod.mk.injEq]
    refine ⟨?_, trivial⟩
    by_cases hm : (lx + 16777216) % s = 0
    · simp only [hm, if_true, w6, w7, true_and]
      by_cases h9 : 0 < (lx + 16777216) / s
      · rw [if_f (by omega), if_t h9]
      · rw [if_t (by omega), if_f h9]; omega
    · simp only [hm, if_false, w9, w10, false_and]
      rw [if_f (by omega)]
  · unfold f35 f63
    rw [if_t (u64_nn _), u, fd]
    simp only [Option.bind_some]
    rw [if_t hz0]
    rw [if_t (show (s : Int) ≠ 0 by omega)]
    rw [if_t (fun _ => (show (s : Int) ≠ 0 by omega))]
    have fin : ∀ v, f35.j3 k s hx z v = some (v, if n - 1 < (hx + 16777216) / s then n - 1 else (hx + 16777216) / s) := fun v => by
      unfold f35.j3
      rw [if_t (show (s : Int) ≠ 0 by omega), u, tw]
      simp only [w2, d2, w5, w8, f35.j5, gt_iff_lt, decide_eq_true_eq]
      split <;> rfl
    simp only [w1, d3, d4, w6, w7, fin]
    by_cases hm : (lx + 16777216) % s = 0
    · by_cases h9 : 0 < (lx + 16777216) / s
      · simp [hm, h9]
      · simp [hm, h9]
    · simp [hm]
  · refine ⟨?_, ?_, ?_, ?_, fun X h0 h1 => ?_, fun X h0 h1 => ?_⟩
    · split <;> omega
    · split <;> omega
    · split <;> omega
    · split <;> omega
    · have : X ≤ (hx + 16777216) / s ↔ X * s ≤ hx + 16777216 := Int.le_ediv_iff_mul_le s0
      split
      · constructor
        · intro _; omega
        · intro _; have := this.1 (by omega); omega
      · constructor
        · intro h'; exact this.2 (by omega)
        · intro h'; have := this.1 h'; omega
    · have key : (lx ≤ X * s - 16777216 + s) ↔ (lx + 16777216 + s - 1) / s < X + 2 := by
        rw [Int.ediv_lt_iff_lt_mul s0, Int.add_mul]
        omega
      rw [key, hc]
      by_cases hm : (lx + 16777216) % s = 0
      · simp only [hm, if_true, true_and]
        split <;> omega
      · simp only [hm, if_false, false_and]
        omega
end Go.Proofs.Ytckhnmkabmognaa.V
