/-
  Shared laws of the graph statements, those whose functions this claim has. No condition.
-/
import Derived.Test.YtjfledckleeoaaaR2hgl
set_option linter.unusedVariables false
set_option linter.unusedSimpArgs false
namespace Go.Proofs.Ytjfledckleeoaaa
open Go Go.Vm Go.Proofs V

theorem wrap_id {n : Int} (h1 : -9223372036854775808 ≤ n) (h2 : n < 9223372036854775808) : IntKind.i64.wrap n = n := wrap_in h1 (by omega)
theorem beq5 (a b : Int × Int) : Sh.beq (.st (.pair (.int .i64) (.int .i64))) a b = true ↔ a = b := by
  obtain ⟨a1, a2⟩ := a; obtain ⟨b1, b2⟩ := b
  simp [Sh.beq]
theorem beq5d (a b : Int × Int) : Sh.beq (.st (.pair (.int .i64) (.int .i64))) a b = decide (a = b) := by
  by_cases h : a = b
  · rw [(beq5 a b).2 h]; simp [h]
  · rw [decide_eq_false h]
    cases hb : Sh.beq (.st (.pair (.int .i64) (.int .i64))) a b with
    | false => rfl
    | true => exact absurd ((beq5 a b).1 hb) h

/-! ### Bans -/
theorem ban_iff {a b : Ban} : banLess a b = true ↔ a.1 < b.1 ∨ (a.1 = b.1 ∧ a.2 < b.2) := by simp [banLess]
theorem ban_trans {a b c : Ban} (h1 : banLess a b = true) (h2 : banLess b c = true) : banLess a c = true := by
  rw [ban_iff] at *; omega
theorem ban_irr {a : Ban} : banLess a a = false := by simp [banLess]

structure GOk (g : Graph) : Prop where
  n1 : g.1.length ≤ 5000
  n2 : g.2.1.length ≤ 8000
  n3 : g.2.2.length ≤ 2000
  spot : ∀ i, i < g.1.length → okSpot g i = true
  road : ∀ i, i < g.2.1.length → okRoad g i = true
  ban : ∀ i, i < g.2.2.length → okBan g i = true
theorem gok {g : Graph} (h : graphOk g = true) : GOk g := by
  unfold graphOk at h
  simp only [Bool.and_eq_true, decide_eq_true_eq] at h
  obtain ⟨⟨⟨⟨⟨h1, h2⟩, h3⟩, h4⟩, h5⟩, h6⟩ := h
  exact ⟨h1, h2, h3, allTo_iff.1 h4, allTo_iff.1 h5, allTo_iff.1 h6⟩

theorem ban_sorted {g : Graph} (hg : GOk g) : ∀ {d i : Nat}, i + d + 1 < g.2.2.length → banLess (g.2.2.getD i dB) (g.2.2.getD (i + d + 1) dB) = true
  | 0, i, h => by
    have := hg.ban (i + 1) (by omega)
    unfold okBan at this
    simp only [Bool.and_eq_true, Bool.or_eq_true, decide_eq_true_eq] at this
    rcases this.2 with h' | h'
    · omega
    · simpa using h'
  | d + 1, i, h => ban_trans (ban_sorted hg (d := d) (i := i) (by omega)) (by
    have h0 := ban_sorted hg (d := 0) (i := i + d + 1) (by omega)
    rwa [show i + d + 1 + 0 + 1 = i + (d + 1) + 1 by omega] at h0)
theorem ban_sort {g : Graph} (hg : GOk g) {i j : Nat} (hij : i < j) (hj : j < g.2.2.length) : banLess (g.2.2.getD i dB) (g.2.2.getD j dB) = true := by
  have := ban_sorted hg (d := j - i - 1) (i := i) (by omega)
  rwa [show i + (j - i - 1) + 1 = j by omega] at this

def banned (g : Graph) (e f : Int) : Bool := decide ((e, f) ∈ g.2.2)

theorem mem_getD {α : Type} {d : α} {x : α} {l : List α} (h : x ∈ l) : ∃ i, i < l.length ∧ l.getD i d = x := by
  obtain ⟨i, hi, he⟩ := List.getElem_of_mem h
  exact ⟨i, hi, by rw [List.getD_eq_getElem?_getD, List.getElem?_eq_getElem hi, he]; rfl⟩
theorem getD_in {α : Type} {d : α} {l : List α} {i : Nat} (h : i < l.length) : l.getD i d ∈ l := by
  rw [List.getD_eq_getElem?_getD, List.getElem?_eq_getElem h]; exact List.getElem_mem h

/-! ### Headings -/
def ab (x : Int) : Int := if x < 0 then -x else x
def headR (dx dy : Int) : Int :=
  if 5 * ab dy < 2 * ab dx ∧ dx > 0 then 0 else if 5 * ab dy < 2 * ab dx then 4 else if 5 * ab dx < 2 * ab dy ∧ dy > 0 then 2 else if 5 * ab dx < 2 * ab dy then 6 else
  if dx > 0 ∧ dy > 0 then 1 else if dx < 0 ∧ dy > 0 then 3 else if dx < 0 then 5 else 7
def headB (p q : Int × Int) : Int := if ptB p = true ∧ ptB q = true ∧ p ≠ q then headR (q.1 - p.1) (q.2 - p.2) else -1

theorem headR_range (dx dy : Int) : 0 ≤ headR dx dy ∧ headR dx dy ≤ 7 := by
  unfold headR
  repeat' split
  all_goals omega
theorem headB_range (p q : Int × Int) : -1 ≤ headB p q ∧ headB p q ≤ 7 := by
  unfold headB
  split
  · have := headR_range (q.1 - p.1) (q.2 - p.2); omega
  · omega
theorem ptB_iff {p : Int × Int} (h : ptB p = true) : -10000000 ≤ p.1 ∧ p.1 ≤ 10000000 ∧ -10000000 ≤ p.2 ∧ p.2 ≤ 10000000 := by
  unfold ptB at h
  simp only [cond_eq_ite, Bool.if_false_right, Bool.and_eq_true, decide_eq_true_eq] at h
  omega
theorem ab_range {x : Int} (h1 : -100000000 ≤ x) (h2 : x ≤ 100000000) : 0 ≤ ab x ∧ ab x ≤ 100000000 := by
  unfold ab; split <;> omega


/-! ### Turns -/
def roadAt (g : Graph) (r : Int) : Road := g.2.1.getD r.toNat dR
def spotAt (g : Graph) (p : Int) : Spot := g.1.getD p.toNat dS
def roadIs (g : Graph) (r : Int) : Bool := decide (0 ≤ r) && decide (r < (g.2.1.length : Int))
def spotIs (g : Graph) (p : Int) : Bool := decide (0 ≤ p) && decide (p < (g.1.length : Int))
def headOf (g : Graph) (r : Int) : Int := headB (spotAt g (roadAt g r).1).2 (spotAt g (roadAt g r).2.1).2
/-- The wind from one road to the other; -1 when one has no heading. -/
def windOf (g : Graph) (e f : Int) : Int := if headOf g e < 0 ∨ headOf g f < 0 then -1 else (headOf g f - headOf g e + 8) % 8
def costOf (w : Int) : Int := if w = 2 ∨ w = 3 ∨ w = 4 then 5 else if w = 5 ∨ w = 6 then 3 else 0
/-- What a turn costs between roads that meet. -/
def turnOf (g : Graph) (e f : Int) : Int := if banned g e f = true then -1 else if (roadAt g f).2.1 = (roadAt g e).1 then 20 else costOf (windOf g e f)

theorem foldR (g : Graph) (r : Int) : List.getD g.2.1 (Int.toNat r) ((0 : Int), ((0 : Int), ((0 : Int), ((0 : Int), ((0 : Int), (⟨#[]⟩ : ByteArray)))))) = roadAt g r := by cases g; exact id rfl
theorem foldS (g : Graph) (p : Int) : List.getD g.1 (Int.toNat p) ((0 : Int), ((0 : Int), (0 : Int))) = spotAt g p := by cases g; exact id rfl
theorem foldH (g : Graph) (r : Int) : headB (spotAt g (roadAt g r).1).2 (spotAt g (roadAt g r).2.1).2 = headOf g r := by cases g; exact id rfl
theorem roadIs_iff {g : Graph} {r : Int} : roadIs g r = true ↔ 0 ≤ r ∧ r < (g.2.1.length : Int) := by simp [roadIs]
theorem spotIs_iff {g : Graph} {r : Int} : spotIs g r = true ↔ 0 ≤ r ∧ r < (g.1.length : Int) := by simp [spotIs]
theorem road_ends {g : Graph} (hg : GOk g) {r : Int} (h : roadIs g r = true) : (0 ≤ (roadAt g r).1 ∧ (roadAt g r).1 < (g.1.length : Int)) ∧ (0 ≤ (roadAt g r).2.1 ∧ (roadAt g r).2.1 < (g.1.length : Int)) := by
  rw [roadIs_iff] at h
  have := hg.road r.toNat (by omega)
  unfold okRoad at this
  simp only [Bool.and_eq_true, decide_eq_true_eq] at this
  unfold roadAt
  omega

theorem mod8 {x : Int} (h1 : 0 ≤ x) : Int.tmod x 8 = x % 8 := Int.tmod_eq_emod_of_nonneg h1

/-! ### The net -/
abbrev Net := Graph × ((List (List Int)) × ((List (List Int)) × (Option (List ((Int × Int) × Bool)))))
def outs (g : Graph) (n p : Nat) : List Int := ((List.range n).filter fun r => decide ((g.2.1.getD r dR).1 = (p : Int))).map fun (r : Nat) => (r : Int)
def inns (g : Graph) (n p : Nat) : List Int := ((List.range n).filter fun r => decide ((g.2.1.getD r dR).2.1 = (p : Int))).map fun (r : Nat) => (r : Int)

/-- What the net of a graph is. -/
structure NetOf (g : Graph) (t : Net) : Prop where
  fst : t.1 = g
  out : t.2.1.length = g.1.length ∧ ∀ p, p < g.1.length → t.2.1.getD p [] = outs g g.2.1.length p
  inn : t.2.2.1.length = g.1.length ∧ ∀ p, p < g.1.length → t.2.2.1.getD p [] = inns g g.2.1.length p
  ban : ∃ m, t.2.2.2 = some m ∧ ∀ e f, mget (Sh.beq (.st (.pair (.int .i64) (.int .i64)))) (some m) (e, f) false = banned g e f

theorem outs_len (g : Graph) (n p : Nat) : (outs g n p).length ≤ n := by
  unfold outs; rw [List.length_map]
  exact Nat.le_trans (List.length_filter_le _ _) (by simp)
theorem inns_len (g : Graph) (n p : Nat) : (inns g n p).length ≤ n := by
  unfold inns; rw [List.length_map]
  exact Nat.le_trans (List.length_filter_le _ _) (by simp)
theorem outs_succ (g : Graph) (n p : Nat) : outs g (n + 1) p = if (g.2.1.getD n dR).1 = (p : Int) then outs g n p ++ [(n : Int)] else outs g n p := by
  unfold outs
  rw [List.range_succ, List.filter_append, List.map_append]
  by_cases h : (g.2.1.getD n dR).1 = (p : Int)
  · rw [if_pos h, List.filter_cons_of_pos (by simpa using h)]; rfl
  · rw [if_neg h, List.filter_cons_of_neg (by simpa using h)]; simp
theorem inns_succ (g : Graph) (n p : Nat) : inns g (n + 1) p = if (g.2.1.getD n dR).2.1 = (p : Int) then inns g n p ++ [(n : Int)] else inns g n p := by
  unfold inns
  rw [List.range_succ, List.filter_append, List.map_append]
  by_cases h : (g.2.1.getD n dR).2.1 = (p : Int)
  · rw [if_pos h, List.filter_cons_of_pos (by simpa using h)]; rfl
  · rw [if_neg h, List.filter_cons_of_neg (by simpa using h)]; simp

theorem mem_take_succ {α : Type} {d : α} {l : List α} {i : Nat} (h : i < l.length) (x : α) : x ∈ l.take (i + 1) ↔ x ∈ l.take i ∨ x = l.getD i d := by
  rw [List.take_add_one, List.mem_append, List.getD_eq_getElem?_getD, List.getElem?_eq_getElem h]
  simp


def nextsOf (g : Graph) (e : Int) : List Int := (outs g g.2.1.length (roadAt g e).2.1.toNat).filter fun f => !banned g e f
theorem outs_road {g : Graph} {p : Nat} {f : Int} (h : f ∈ outs g g.2.1.length p) : roadIs g f = true := by
  unfold outs at h
  obtain ⟨r, hr, rfl⟩ := List.mem_map.1 h
  have := List.mem_range.1 (List.mem_filter.1 hr).1
  exact roadIs_iff.2 ⟨by omega, by omega⟩
theorem nexts_road {g : Graph} {e f : Int} (h : f ∈ nextsOf g e) : roadIs g f = true := outs_road (List.mem_filter.1 h).1
theorem nexts_len {g : Graph} (hg : GOk g) (e : Int) : (nextsOf g e).length ≤ 8000 := Nat.le_trans (List.length_filter_le _ _) (Nat.le_trans (outs_len g _ _) hg.n2)

theorem filter_take_succ {α : Type} {d : α} {p : α → Bool} {l : List α} {i : Nat} (h : i < l.length) : (l.take (i + 1)).filter p = if p (l.getD i d) = true then (l.take i).filter p ++ [l.getD i d] else (l.take i).filter p := by
  rw [List.take_add_one, List.filter_append, List.getD_eq_getElem?_getD, List.getElem?_eq_getElem h]
  by_cases hp : p l[i] = true
  · simp [hp]
  · simp [hp]


def windA (g : Graph) (e f : Int) : Int := if (roadAt g f).2.1 = (roadAt g e).1 then 8 else if windOf g e f < 0 then 0 else windOf g e f
theorem windOf_range (g : Graph) (e f : Int) : -1 ≤ windOf g e f ∧ windOf g e f ≤ 7 := by
  unfold windOf; split <;> omega
theorem windA_range (g : Graph) (e f : Int) : 0 ≤ windA g e f ∧ windA g e f ≤ 8 := by
  have := windOf_range g e f
  unfold windA; split
  · omega
  · split <;> omega


end Go.Proofs.Ytjfledckleeoaaa
