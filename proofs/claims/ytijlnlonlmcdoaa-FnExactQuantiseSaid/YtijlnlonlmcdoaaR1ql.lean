/-
  FnExactQuantise: at every row of points and every tile the law's function returns true. No condition.
-/
import Derived.Test.YtijlnlonlmcdoaaRows
import Derived.Test.YtijlnlonlmcdoaaR1qp
import Derived.Test.YtijlnlonlmcdoaaVmU
set_option linter.unusedVariables false
set_option linter.unusedSimpArgs false
namespace Go.Proofs.Ytijlnlonlmcdoaa
open Go Go.Vm Go.Proofs V

abbrev Pt := Int × Int
abbrev dP : Pt := ((0 : Int), (0 : Int))
abbrev Tile := Int × (Int × Int)
abbrev Box := (Int × Int) × (Int × Int)

def ptB (a : Int × Int) : Bool := bif (bif (bif (decide ((a.1 : Int) ≥ (-10000000 : Int))) then (decide ((a.1 : Int) ≤ (10000000 : Int))) else false) then (decide ((a.2 : Int) ≥ (-10000000 : Int))) else false) then (decide ((a.2 : Int) ≤ (10000000 : Int))) else false
theorem e115 (k : Nat) (a : Int × Int) : f115 k a = some (ptB a) := rfl
theorem e121 (k : Nat) (a : Int × Int) : f121 k a = some (ptB a) := rfl
theorem gt_lit (a c : Nat) (C : Int) (h : C = (c : Int)) : decide ((a : Int) > C) = !decide (a ≤ c) := by
  subst h; rw [← decide_not]; congr 1; apply propext; omega
theorem le_lit (a c : Nat) (C : Int) (h : C = (c : Int)) : decide ((a : Int) ≤ C) = decide (a ≤ c) := by
  subst h; congr 1; apply propext; omega

def rowOk (x : List Pt) : Bool := decide (x.length ≤ 2000) && allTo (fun i => ptB (x.getD i dP)) x.length

theorem row92 (k : Nat) (hk : 1048576 < k) (x : List Pt) (hx : x.length ≤ 1048576) : f92 k x = some (rowOk x) := by
  have q := allLoop (L := f92.l24 k x) (n := x.length) (p := fun i => ptB (x.getD i dP)) (fin := some true) (fun m i hi => by
    rw [f92.l24, if_t (by simpa using hi), if_t ⟨by omega, by omega⟩, wrap_s (by omega), e121, Option.bind_some, Int.toNat_natCast]
    cases ptB (x.getD i dP) <;> simp) (fun m => by rw [f92.l24, if_f (by simp)]) (show x.length < k by omega)
  unfold f92 rowOk
  simp only [q, gt_lit x.length 2000 2000 rfl]
  cases decide (x.length ≤ 2000) <;> cases allTo (fun i => ptB (x.getD i dP)) x.length <;> rfl

theorem row89 (k : Nat) (hk : 1048576 < k) (x : List Pt) (hx : x.length ≤ 1048576) : f89 k x = some (rowOk x) := by
  have b := le_lit x.length 2000 2000 rfl
  unfold f89 rowOk
  by_cases hl : x.length ≤ 2000
  · have q := allLoop (L := f89.l24 k x) (n := x.length) (p := fun i => ptB (x.getD i dP)) (fin := some true) (fun m i hi => by
      rw [f89.l24, if_t (by simp [b, hl, hi]), if_t ⟨by omega, by omega⟩, wrap_s (by omega), e115, Option.bind_some, Int.toNat_natCast]
      cases ptB (x.getD i dP) <;> simp) (fun m => by rw [f89.l24, if_f (by simp), b]; simp [hl]) (show x.length < k by omega)
    rw [q]
    cases allTo (fun i => ptB (x.getD i dP)) x.length <;> simp [hl]
  · obtain ⟨j, rfl⟩ : ∃ j, k = j + 1 := ⟨k - 1, by omega⟩
    rw [f89.l24, b]
    simp [hl]

theorem wrap_u {z : Int} (h0 : 0 ≤ z) (h1 : z ≤ 10) : IntKind.u64.wrap z = z := by
  simp [IntKind.wrap, IntKind.signed, IntKind.bits]; omega

def tileB (t : Tile) : Bool := (f47 0 t).getD false
theorem e47 (k : Nat) (t : Tile) : f47 k t = some (tileB t) := by
  unfold tileB f47
  by_cases h : (bif (decide ((t.1 : Int) < (0 : Int))) then true else (decide ((t.1 : Int) > (10 : Int)))) = true
  · rw [if_t h]; rfl
  · rw [if_f h]
    have h0 : (0 : Int) ≤ t.1 := by
      rcases Int.lt_or_le t.1 0 with h' | h'
      · simp [h'] at h
      · exact h'
    rw [if_t h0]; rfl
theorem zoom_in {t : Tile} (h : tileB t = true) : 0 ≤ t.1 ∧ t.1 ≤ 10 := by
  unfold tileB f47 at h
  by_cases hc : (bif (decide ((t.1 : Int) < (0 : Int))) then true else (decide ((t.1 : Int) > (10 : Int)))) = true
  · rw [if_t hc] at h; simp at h
  · rcases Int.lt_or_le t.1 0 with h' | h'
    · simp [h'] at hc
    · rcases Int.lt_or_le 10 t.1 with h'' | h''
      · exfalso; apply hc
        have : ¬ t.1 < 0 := by omega
        simp [this]; omega
      · exact ⟨h', h''⟩
theorem e90 (k : Nat) (t : Tile) : f90 k t = some (tileB t) := by
  rw [← e47 k t]
  unfold f90 f47
  by_cases h : (bif (decide ((t.1 : Int) < (0 : Int))) then true else (decide ((t.1 : Int) > (10 : Int)))) = true
  · simp only [if_t h]
  · simp only [if_f h]
    have h0 : (0 : Int) ≤ t.1 := by
      rcases Int.lt_or_le t.1 0 with h' | h'
      · simp [h'] at h
      · exact h'
    have h1 : t.1 ≤ 10 := by
      rcases Int.lt_or_le 10 t.1 with h' | h'
      · exfalso; apply h
        have : ¬ t.1 < 0 := by omega
        simp [this]; omega
      · exact h'
    rw [wrap_u h0 h1]

def side (t : Tile) : Int := Int.fdiv (33554432 : Int) (2 ^ (min (Int.toNat t.1) IntKind.i64.bits))
theorem side_ne {t : Tile} (h0 : 0 ≤ t.1) (h1 : t.1 ≤ 10) : side t ≠ 0 := by
  obtain ⟨z, hz⟩ := Int.eq_ofNat_of_zero_le h0
  unfold side
  rw [hz]
  have : z ≤ 10 := by omega
  simp only [Int.toNat_natCast]
  match z, this with
  | 0, _ | 1, _ | 2, _ | 3, _ | 4, _ | 5, _ | 6, _ | 7, _ | 8, _ | 9, _ | 10, _ => decide
theorem e134 (k : Nat) (t : Tile) (h0 : 0 ≤ t.1) (h1 : t.1 ≤ 10) : f134 k t.1 = some (side t) := by
  unfold f134 side
  rw [wrap_u h0 h1, if_t h0]
def boxOf (t : Tile) : Box := (((IntKind.i64.wrap ((IntKind.i64.wrap (t.2.1 * side t)) - (16777216 : Int))), (IntKind.i64.wrap ((IntKind.i64.wrap (t.2.2 * side t)) - (16777216 : Int)))), ((IntKind.i64.wrap ((IntKind.i64.wrap ((IntKind.i64.wrap (t.2.1 * side t)) - (16777216 : Int))) + side t)), (IntKind.i64.wrap ((IntKind.i64.wrap ((IntKind.i64.wrap (t.2.2 * side t)) - (16777216 : Int))) + side t))))
theorem e101 (k : Nat) (t : Tile) (h0 : 0 ≤ t.1) (h1 : t.1 ≤ 10) : f101 k t = some (boxOf t) := by
  unfold f101
  rw [e134 k t h0 h1]; rfl
theorem e46 (k : Nat) (t : Tile) (h : tileB t = true) : f46 k t = some (boxOf t) := by
  unfold f46
  rw [e47, h]
  simp only [Option.bind_some]
  rw [if_f (by simp), if_t (zoom_in h).1]; rfl

def inB (b : Box) (p : Pt) : Bool := bif (bif (bif (decide ((p.1 : Int) ≥ b.1.1)) then (decide ((p.1 : Int) ≤ b.2.1)) else false) then (decide ((p.2 : Int) ≥ b.1.2)) else false) then (decide ((p.2 : Int) ≤ b.2.2)) else false
theorem e135 (k : Nat) (b : Box) (p : Pt) : f135 k b p = some (inB b p) := rfl
theorem e93 (k : Nat) (b : Box) (p : Pt) : f93 k p b = some (inB b p) := rfl

theorem loopQ (k : Nat) (x : List Pt) (hx : x.length ≤ 1048576) (b : Box) (t : Tile) (hs : side t ≠ 0) : ∀ (m i : Nat) (acc : List Pt), acc.length ≤ i → i ≤ x.length → x.length - i < m →
    ∃ r, f91.l84 k x b (side t) m (acc, (i : Int)) = some r ∧ f34.l73 k x b t m (acc, (i : Int)) = some r ∧ r.length ≤ x.length
  | 0, i, acc, _, _, h => by omega
  | m + 1, i, acc, ha, hi, h => by
    rw [f91.l84, f34.l73]
    by_cases hlt : i < x.length
    · have hb : (0 : Int) ≤ (i : Int) ∧ (i : Int) < (List.length x : Int) := ⟨by omega, by omega⟩
      have hl : (decide ((i : Int) < (List.length x : Int))) = true := by simpa using hlt
      have hc : ((((List.length acc : Int) : Int) == (0 : Int)) = false) → (0 ≤ (IntKind.i64.wrap ((List.length acc : Int) - (1 : Int))) ∧ (IntKind.i64.wrap ((List.length acc : Int) - (1 : Int))) < (List.length acc : Int)) := by
        intro hne
        have : acc.length ≠ 0 := by simpa using hne
        rw [wrap_in (by omega) (by omega)]
        omega
      have he : (Int.fdiv (33554432 : Int) (2 ^ (min (Int.toNat t.1) IntKind.i64.bits))) = side t := rfl
      simp only [if_t hl, if_t hb, he, e135, e93, Option.bind_some, f91.j153, f34.j132, wrap_s (show i < 9223372036854775807 by omega)]
      cases inB b (List.getD x (Int.toNat (i : Int)) dP) with
      | false => exact ⟨[], by simp, by simp, by simp⟩
      | true =>
        simp only [Bool.not_true, Bool.false_eq_true, if_false, if_t hs, if_t hc]
        generalize (bif (((List.length acc : Int) : Int) == (0 : Int)) then true else _) = v
        cases v with
        | false =>
          simp only [Bool.false_eq_true, if_false]
          exact loopQ k x hx b t hs m (i + 1) acc (by omega) (by omega) (by omega)
        | true =>
          simp only [if_true]
          have hg : ∀ q : Pt, (List.length acc + List.length [q]) * 16 ≤ 140737488355328 := fun q => by simp; omega
          simp only [if_t (hg _)]
          exact loopQ k x hx b t hs m (i + 1) _ (by simp; omega) (by omega) (by omega)
    · rw [if_f (by simpa using hlt), if_f (by simpa using hlt)]
      exact ⟨acc, rfl, rfl, by omega⟩

theorem same_quant (k : Nat) (hk : 1048576 < k) (x : List Pt) (hx : x.length ≤ 1048576) (t : Tile) : ∃ r, f31 k x t = some r ∧ f34 k x t = some r ∧ r.length ≤ x.length := by
  unfold f31 f34
  rw [row89 k hk x hx, row92 k hk x hx]
  simp only [Option.bind_some, e90, e47]
  cases rowOk x with
  | false => exact ⟨[], by simp, by simp, by simp⟩
  | true =>
    simp only [Bool.not_true, if_true, Option.bind_some, cond_false]
    cases ht : tileB t with
    | false => exact ⟨[], by simp, by simp, by simp⟩
    | true =>
      obtain ⟨h0, h1⟩ := zoom_in ht
      obtain ⟨r, q1, q2, q3⟩ := loopQ k x hx (boxOf t) t (side_ne h0 h1) k 0 [] (by simp) (by omega) (by omega)
      have q1' : f91.l84 k x (boxOf t) (side t) k (([] : List Pt), (0 : Int)) = some r := q1
      have q2' : f34.l73 k x (boxOf t) t k (([] : List Pt), (0 : Int)) = some r := q2
      refine ⟨r, ?_, ?_, q3⟩
      · unfold f91
        simp only [Bool.not_true, Bool.false_eq_true, if_false, e101 k t h0 h1, e134 k t h0 h1, Option.bind_some, q1']
      · simp only [Bool.not_true, Bool.false_eq_true, if_false, e46 k t ht, Option.bind_some, h0, if_true, q2']

/-! ### Marks -/
def mk (n : Nat) (c : Int) : List Pt := (List.range n).map fun (j : Nat) => (c + 2 * (j : Int), c + 2 * (j : Int) + 1)
theorem mk_len (n : Nat) (c : Int) : (mk n c).length = n := by simp [mk]
theorem mk_get {n : Nat} {c : Int} {i : Nat} (h : i < n) : (mk n c).getD i dP = (c + 2 * (i : Int), c + 2 * (i : Int) + 1) := by
  unfold mk
  rw [List.getD_eq_getElem?_getD, List.getElem?_map, List.getElem?_range h]; rfl

theorem mark36 (k : Nat) (c : Int) (h0 : 0 ≤ c) (h1 : c ≤ 1000000000000) (n : Nat) (hn : n ≤ 1048576) : ∀ (m i : Nat) (x : List Pt), x.length = n → x.take i = (mk n c).take i → i ≤ n → n - i < m → f36.l26 k m (x, c + 2 * (i : Int), (i : Int)) = some (c + 2 * (n : Int), mk n c)
  | 0, i, x, _, _, _, h => by omega
  | m + 1, i, x, hl, ht, hi, h => by
    rw [f36.l26]
    by_cases hlt : i < n
    · rw [if_t (by simp; omega), if_t ⟨by omega, by omega⟩, if_t ⟨by omega, by simp; omega⟩]
      rw [wrap_in (n := c + 2 * (i : Int) + 1) (by omega) (by omega), wrap_in (n := c + 2 * (i : Int) + 1 + 1) (by omega) (by omega), wrap_s (by omega)]
      have hset : (List.set (List.set x (Int.toNat (i : Int)) (c + 2 * (i : Int), (List.getD x (Int.toNat (i : Int)) ((0 : Int), (0 : Int))).2)) (Int.toNat (i : Int)) ((List.getD (List.set x (Int.toNat (i : Int)) (c + 2 * (i : Int), (List.getD x (Int.toNat (i : Int)) ((0 : Int), (0 : Int))).2)) (Int.toNat (i : Int)) ((0 : Int), (0 : Int))).1, c + 2 * (i : Int) + 1)) = x.set i ((mk n c).getD i dP) := by
        rw [Int.toNat_natCast, List.set_set, mk_get hlt]
        congr 2
        rw [List.getD_eq_getElem?_getD, List.getElem?_set_self (by omega)]
        rfl
      rw [hset]
      have := mark36 k c h0 h1 n hn m (i + 1) (x.set i ((mk n c).getD i dP)) (by simp [hl]) (take_set (by rw [hl, mk_len]) ht (by rw [mk_len]; exact hlt)) (by omega) (by omega)
      rw [show c + 2 * (i : Int) + 1 + 1 = c + 2 * ((i + 1 : Nat) : Int) by omega]
      exact this
    · obtain rfl : i = n := by omega
      rw [if_f (by simp; omega), take_all (by rw [hl, mk_len]) ht (by rw [mk_len]; omega)]

theorem held37 (k : Nat) (c : Int) (h0 : 0 ≤ c) (h1 : c ≤ 1000000000000) (n : Nat) (hn : n ≤ 1048576) : ∀ (m i : Nat), i ≤ n → n - i < m → f37.l22 k (mk n c) m (c + 2 * (i : Int), (i : Int)) = some (c + 2 * (n : Int))
  | 0, i, _, h => by omega
  | m + 1, i, hi, h => by
    rw [f37.l22]
    by_cases hlt : i < n
    · have hb : (0 : Int) ≤ (i : Int) ∧ (i : Int) < (List.length (mk n c) : Int) := ⟨by omega, by rw [mk_len]; omega⟩
      rw [if_t (by rw [mk_len]; simp; omega), if_t hb, Int.toNat_natCast]
      have hg : (mk n c).getD i ((0 : Int), (0 : Int)) = (c + 2 * (i : Int), c + 2 * (i : Int) + 1) := mk_get hlt
      rw [hg, if_f (by simp), if_t hb, wrap_in (n := c + 2 * (i : Int) + 1) (by omega) (by omega), if_f (by simp), wrap_in (n := c + 2 * (i : Int) + 1 + 1) (by omega) (by omega), wrap_s (by omega)]
      have := held37 k c h0 h1 n hn m (i + 1) (by omega) (by omega)
      rw [show c + 2 * (i : Int) + 1 + 1 = c + 2 * ((i + 1 : Nat) : Int) by omega]
      exact this
    · obtain rfl : i = n := by omega
      rw [if_f (by rw [mk_len]; simp)]

theorem law7 (x0 : List Pt) (w0 : Sh.wf (.sl false 23 (.st (.pair (.int .i64) (.int .i64)))) x0) (x1 : Tile) (w1 : Sh.wf (.st (.pair (.int .i64) (.pair (.int .i64) (.int .i64)))) x1) : ∃ k, f7 k x0 x1 = some true := by
  refine ⟨1048577, ?_⟩
  have hk : 1048576 < 1048577 := by decide
  obtain ⟨r, q1, q2, q3⟩ := sz30 1048577 hk x0 w0 1048576 (by decide) (by decide)
  have q1' : f30 1048577 x0 1048576 = some r := q1
  unfold f7
  rw [q1']
  simp only [Option.bind_some]
  by_cases hr : r < 0
  · rw [if_t (by simpa using hr)]
  · rw [if_f (by simpa using hr)]
    have hb := q3 (by omega)
    obtain ⟨v, v1, v2, v3⟩ := same_quant _ hk x0 hb.1 x1
    have hv : Sh.bd (.sl false 23 (.st (.pair (.int .i64) (.int .i64)))) v := ⟨Nat.le_trans v3 hb.1, fun y _ => ⟨trivial, trivial⟩⟩
    have hv1 : v.length ≤ 1048576 := hv.1
    have e33 : ∀ k (t : Tile), f33 k t = some t := fun k t => rfl
    have m1 : ∀ y : List Pt, y.length ≤ 1048576 → f36 1048577 y 1 = some (1 + 2 * (y.length : Int), mk y.length 1) := fun y hy =>
      mark36 1048577 1 (by decide) (by decide) y.length hy 1048577 0 y rfl (by simp) (by omega) (by omega)
    have m2 : f37 1048577 (mk v.length 1) 1 = some (1 + 2 * (v.length : Int)) :=
      held37 1048577 1 (by decide) (by decide) v.length hv.1 1048577 0 (by omega) (by omega)
    simp only [to32 _ hk x0 hb, e33, v1, v2, eq35 _ hk v hv, eq35 _ hk x0 hb, m1 x0 hb.1, m1 v hv.1, m2, Option.bind_some]
    have n1 : decide ((1 + 2 * (x0.length : Int)) < 0) = false := by simp; omega
    have n2 : decide ((1 + 2 * (v.length : Int)) < 0) = false := by simp; omega
    simp only [n1, n2]
    simp

end Go.Proofs.Ytijlnlonlmcdoaa
