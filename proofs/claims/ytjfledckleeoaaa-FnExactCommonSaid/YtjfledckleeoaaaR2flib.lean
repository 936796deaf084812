/-
  Shared laws of the graph statements, those whose functions this claim has. No condition.
-/
import Derived.Test.YtjfledckleeoaaaR2fgl
set_option linter.unusedVariables false
set_option linter.unusedSimpArgs false
namespace Go.Proofs.Ytjfledckleeoaaa
open Go Go.Vm Go.Proofs V

theorem wrap_id {n : Int} (h1 : -9223372036854775808 ≤ n) (h2 : n < 9223372036854775808) : IntKind.i64.wrap n = n := wrap_in h1 (by omega)
theorem beq5 (a b : Int × Int) : Sh.beq (.st (.pair (.int .i64) (.int .i64))) a b = true ↔ a = b := by
  obtain ⟨a1, a2⟩ := a; obtain ⟨b1, b2⟩ := b
  simp [Sh.beq]
theorem beq5d (a b : Int × Int) : Sh.beq (.st (.pair (.int .i64) (.int .i64))) a b = decide (a = b) := by
  by_cases h : a = b
  · rw [(beq5 a b).2 h]; simp [h]
  · rw [decide_eq_false h]
    cases hb : Sh.beq (.st (.pair (.int .i64) (.int .i64))) a b with
    | false => rfl
    | true => exact absurd ((beq5 a b).1 hb) h

/-! ### Bans -/
theorem ban_iff {a b : Ban} : banLess a b = true ↔ a.1 < b.1 ∨ (a.1 = b.1 ∧ a.2 < b.2) := by simp [banLess]
theorem ban_trans {a b c : Ban} (h1 : banLess a b = true) (h2 : banLess b c = true) : banLess a c = true := by
  rw [ban_iff] at *; omega
theorem ban_irr {a : Ban} : banLess a a = false := by simp [banLess]

structure GOk (g : Graph) : Prop where
  n1 : g.1.length ≤ 5000
  n2 : g.2.1.length ≤ 8000
  n3 : g.2.2.length ≤ 2000
  spot : ∀ i, i < g.1.length → okSpot g i = true
  road : ∀ i, i < g.2.1.length → okRoad g i = true
  ban : ∀ i, i < g.2.2.length → okBan g i = true
theorem gok {g : Graph} (h : graphOk g = true) : GOk g := by
  unfold graphOk at h
  simp only [Bool.and_eq_true, decide_eq_true_eq] at h
  obtain ⟨⟨⟨⟨⟨h1, h2⟩, h3⟩, h4⟩, h5⟩, h6⟩ := h
  exact ⟨h1, h2, h3, allTo_iff.1 h4, allTo_iff.1 h5, allTo_iff.1 h6⟩

theorem ban_sorted {g : Graph} (hg : GOk g) : ∀ {d i : Nat}, i + d + 1 < g.2.2.length → banLess (g.2.2.getD i dB) (g.2.2.getD (i + d + 1) dB) = true
  | 0, i, h => by
    have := hg.ban (i + 1) (by omega)
    unfold okBan at this
    simp only [Bool.and_eq_true, Bool.or_eq_true, decide_eq_true_eq] at this
    rcases this.2 with h' | h'
    · omega
    · simpa using h'
  | d + 1, i, h => ban_trans (ban_sorted hg (d := d) (i := i) (by omega)) (by
    have h0 := ban_sorted hg (d := 0) (i := i + d + 1) (by omega)
    rwa [show i + d + 1 + 0 + 1 = i + (d + 1) + 1 by omega] at h0)
theorem ban_sort {g : Graph} (hg : GOk g) {i j : Nat} (hij : i < j) (hj : j < g.2.2.length) : banLess (g.2.2.getD i dB) (g.2.2.getD j dB) = true := by
  have := ban_sorted hg (d := j - i - 1) (i := i) (by omega)
  rwa [show i + (j - i - 1) + 1 = j by omega] at this

def banned (g : Graph) (e f : Int) : Bool := decide ((e, f) ∈ g.2.2)

theorem mem_getD {α : Type} {d : α} {x : α} {l : List α} (h : x ∈ l) : ∃ i, i < l.length ∧ l.getD i d = x := by
  obtain ⟨i, hi, he⟩ := List.getElem_of_mem h
  exact ⟨i, hi, by rw [List.getD_eq_getElem?_getD, List.getElem?_eq_getElem hi, he]; rfl⟩
theorem getD_in {α : Type} {d : α} {l : List α} {i : Nat} (h : i < l.length) : l.getD i d ∈ l := by
  rw [List.getD_eq_getElem?_getD, List.getElem?_eq_getElem h]; exact List.getElem_mem h

/-! ### Headings -/
def ab (x : Int) : Int := if x < 0 then -x else x
def headR (dx dy : Int) : Int :=
  if 5 * ab dy < 2 * ab dx ∧ dx > 0 then 0 else if 5 * ab dy < 2 * ab dx then 4 else if 5 * ab dx < 2 * ab dy ∧ dy > 0 then 2 else if 5 * ab dx < 2 * ab dy then 6 else
  if dx > 0 ∧ dy > 0 then 1 else if dx < 0 ∧ dy > 0 then 3 else if dx < 0 then 5 else 7
def headB (p q : Int × Int) : Int := if ptB p = true ∧ ptB q = true ∧ p ≠ q then headR (q.1 - p.1) (q.2 - p.2) else -1

theorem headR_range (dx dy : Int) : 0 ≤ headR dx dy ∧ headR dx dy ≤ 7 := by
  unfold headR
  repeat' split
  all_goals omega
theorem headB_range (p q : Int × Int) : -1 ≤ headB p q ∧ headB p q ≤ 7 := by
  unfold headB
  split
  · have := headR_range (q.1 - p.1) (q.2 - p.2); omega
  · omega
theorem ptB_iff {p : Int × Int} (h : ptB p = true) : -10000000 ≤ p.1 ∧ p.1 ≤ 10000000 ∧ -10000000 ≤ p.2 ∧ p.2 ≤ 10000000 := by
  unfold ptB at h
  simp only [cond_eq_ite, Bool.if_false_right, Bool.and_eq_true, decide_eq_true_eq] at h
  omega
theorem ab_range {x : Int} (h1 : -100000000 ≤ x) (h2 : x ≤ 100000000) : 0 ≤ ab x ∧ ab x ≤ 100000000 := by
  unfold ab; split <;> omega


/-! ### Turns -/
def roadAt (g : Graph) (r : Int) : Road := g.2.1.getD r.toNat dR
def spotAt (g : Graph) (p : Int) : Spot := g.1.getD p.toNat dS
def roadIs (g : Graph) (r : Int) : Bool := decide (0 ≤ r) && decide (r < (g.2.1.length : Int))
def spotIs (g : Graph) (p : Int) : Bool := decide (0 ≤ p) && decide (p < (g.1.length : Int))
def headOf (g : Graph) (r : Int) : Int := headB (spotAt g (roadAt g r).1).2 (spotAt g (roadAt g r).2.1).2
/-- The wind from one road to the other; -1 when one has no heading. -/
def windOf (g : Graph) (e f : Int) : Int := if headOf g e < 0 ∨ headOf g f < 0 then -1 else (headOf g f - headOf g e + 8) % 8
def costOf (w : Int) : Int := if w = 2 ∨ w = 3 ∨ w = 4 then 5 else if w = 5 ∨ w = 6 then 3 else 0
/-- What a turn costs between roads that meet. -/
def turnOf (g : Graph) (e f : Int) : Int := if banned g e f = true then -1 else if (roadAt g f).2.1 = (roadAt g e).1 then 20 else costOf (windOf g e f)

theorem foldR (g : Graph) (r : Int) : List.getD g.2.1 (Int.toNat r) ((0 : Int), ((0 : Int), ((0 : Int), ((0 : Int), ((0 : Int), (⟨#[]⟩ : ByteArray)))))) = roadAt g r := by cases g; exact id rfl
theorem foldS (g : Graph) (p : Int) : List.getD g.1 (Int.toNat p) ((0 : Int), ((0 : Int), (0 : Int))) = spotAt g p := by cases g; exact id rfl
theorem foldH (g : Graph) (r : Int) : headB (spotAt g (roadAt g r).1).2 (spotAt g (roadAt g r).2.1).2 = headOf g r := by cases g; exact id rfl
theorem roadIs_iff {g : Graph} {r : Int} : roadIs g r = true ↔ 0 ≤ r ∧ r < (g.2.1.length : Int) := by simp [roadIs]
theorem spotIs_iff {g : Graph} {r : Int} : spotIs g r = true ↔ 0 ≤ r ∧ r < (g.1.length : Int) := by simp [spotIs]
theorem road_ends {g : Graph} (hg : GOk g) {r : Int} (h : roadIs g r = true) : (0 ≤ (roadAt g r).1 ∧ (roadAt g r).1 < (g.1.length : Int)) ∧ (0 ≤ (roadAt g r).2.1 ∧ (roadAt g r).2.1 < (g.1.length : Int)) := by
  rw [roadIs_iff] at h
  have := hg.road r.toNat (by omega)
  unfold okRoad at this
  simp only [Bool.and_eq_true, decide_eq_true_eq] at this
  unfold roadAt
  omega

theorem mod8 {x : Int} (h1 : 0 ≤ x) : Int.tmod x 8 = x % 8 := Int.tmod_eq_emod_of_nonneg h1

/-! ### The net -/
abbrev Net := Graph × ((List (List Int)) × ((List (List Int)) × (Option (List ((Int × Int) × Bool)))))
def outs (g : Graph) (n p : Nat) : List Int := ((List.range n).filter fun r => decide ((g.2.1.getD r dR).1 = (p : Int))).map fun (r : Nat) => (r : Int)
def inns (g : Graph) (n p : Nat) : List Int := ((List.range n).filter fun r => decide ((g.2.1.getD r dR).2.1 = (p : Int))).map fun (r : Nat) => (r : Int)

/-- What the net of a graph is. -/
structure NetOf (g : Graph) (t : Net) : Prop where
  fst : t.1 = g
  out : t.2.1.length = g.1.length ∧ ∀ p, p < g.1.length → t.2.1.getD p [] = outs g g.2.1.length p
  inn : t.2.2.1.length = g.1.length ∧ ∀ p, p < g.1.length → t.2.2.1.getD p [] = inns g g.2.1.length p
  ban : ∃ m, t.2.2.2 = some m ∧ ∀ e f, mget (Sh.beq (.st (.pair (.int .i64) (.int .i64)))) (some m) (e, f) false = banned g e f

theorem outs_len (g : Graph) (n p : Nat) : (outs g n p).length ≤ n := by
  unfold outs; rw [List.length_map]
  exact Nat.le_trans (List.length_filter_le _ _) (by simp)
theorem inns_len (g : Graph) (n p : Nat) : (inns g n p).length ≤ n := by
  unfold inns; rw [List.length_map]
  exact Nat.le_trans (List.length_filter_le _ _) (by simp)
theorem outs_succ (g : Graph) (n p : Nat) : outs g (n + 1) p = if (g.2.1.getD n dR).1 = (p : Int) then outs g n p ++ [(n : Int)] else outs g n p := by
  unfold outs
  rw [List.range_succ, List.filter_append, List.map_append]
  by_cases h : (g.2.1.getD n dR).1 = (p : Int)
  · rw [if_pos h, List.filter_cons_of_pos (by simpa using h)]; rfl
  · rw [if_neg h, List.filter_cons_of_neg (by simpa using h)]; simp
theorem inns_succ (g : Graph) (n p : Nat) : inns g (n + 1) p = if (g.2.1.getD n dR).2.1 = (p : Int) then inns g n p ++ [(n : Int)] else inns g n p := by
  unfold inns
  rw [List.range_succ, List.filter_append, List.map_append]
  by_cases h : (g.2.1.getD n dR).2.1 = (p : Int)
  · rw [if_pos h, List.filter_cons_of_pos (by simpa using h)]; rfl
  · rw [if_neg h, List.filter_cons_of_neg (by simpa using h)]; simp

theorem mem_take_succ {α : Type} {d : α} {l : List α} {i : Nat} (h : i < l.length) (x : α) : x ∈ l.take (i + 1) ↔ x ∈ l.take i ∨ x = l.getD i d := by
  rw [List.take_add_one, List.mem_append, List.getD_eq_getElem?_getD, List.getElem?_eq_getElem h]
  simp


theorem e75 (k : Nat) (g : Graph) (r : Int) : f75 k g r = some (roadIs g r) := by
  unfold f75 roadIs
  congr 1
  by_cases h : 0 ≤ r <;> simp [h]


theorem net_bans {g : Graph} (hg : GOk g) (k : Nat) (o i : List (List Int)) : ∀ (m q : Nat) (v : List ((Int × Int) × Bool)), q ≤ g.2.2.length → g.2.2.length - q < m →
    (∀ e f, mget (Sh.beq (.st (.pair (.int .i64) (.int .i64)))) (some v) (e, f) false = decide ((e, f) ∈ g.2.2.take q)) →
    ∃ v', f64.l126 k g o i m (v, (q : Int)) = some (g, (o, (i, some v'))) ∧ ∀ e f, mget (Sh.beq (.st (.pair (.int .i64) (.int .i64)))) (some v') (e, f) false = banned g e f
  | 0, q, v, _, h, _ => by omega
  | m + 1, q, v, hq, h, hv => by
    have hn := hg.n3
    rw [f64.l126]
    by_cases hlt : q < g.2.2.length
    · rw [if_t (by simpa using hlt), if_t ⟨by omega, by omega⟩, wrap_s (by omega), Int.toNat_natCast]
      refine net_bans hg k o i m (q + 1) _ (by omega) (by omega) (fun e f => ?_)
      rw [mget_put beq5, hv e f, beq5d]
      by_cases hx : (e, f) = g.2.2.getD q ((0 : Int), (0 : Int))
      · have : (e, f) ∈ g.2.2.take (q + 1) := (mem_take_succ (d := ((0 : Int), (0 : Int))) hlt _).2 (.inr hx)
        rw [decide_eq_true hx, decide_eq_true this]; rfl
      · rw [decide_eq_false hx, cond_false]
        congr 1
        apply propext
        rw [mem_take_succ (d := ((0 : Int), (0 : Int))) hlt]
        exact ⟨.inl, fun h => h.resolve_right hx⟩
    · obtain rfl : q = g.2.2.length := by omega
      rw [if_f (by simp)]
      refine ⟨v, rfl, fun e f => ?_⟩
      rw [hv e f, List.take_length]; rfl

theorem net_roads {g : Graph} (hg : GOk g) (k : Nat) (hk : 1048576 < k) : ∀ (m q : Nat) (o i : List (List Int)), q ≤ g.2.1.length → g.2.1.length - q < m →
    (o.length = g.1.length ∧ ∀ p, p < g.1.length → o.getD p [] = outs g q p) → (i.length = g.1.length ∧ ∀ p, p < g.1.length → i.getD p [] = inns g q p) →
    ∃ t, f64.l56 k g m (o, i, (q : Int)) = some t ∧ NetOf g t
  | 0, q, o, i, _, h, _, _ => by omega
  | m + 1, q, o, i, hq, h, ho, hi => by
    have hn := hg.n2
    have hn3 := hg.n3
    rw [f64.l56]
    by_cases hlt : q < g.2.1.length
    · have hr : roadIs g (q : Int) = true := roadIs_iff.2 ⟨by omega, by omega⟩
      obtain ⟨r1, r2⟩ := road_ends hg hr
      have e0 : roadAt g (q : Int) = g.2.1.getD q dR := by unfold roadAt; rw [Int.toNat_natCast]
      rw [e0] at r1 r2
      rw [if_t (by simpa using hlt), if_t ⟨by omega, by omega⟩, wrap_s (by omega), Int.toNat_natCast]
      have c1 : ∀ (x : List (List Int)) (p n : Nat), n ≤ 8000 → (x.getD p []).length ≤ n → ((x.getD p []).length + [(q : Int)].length) * 8 ≤ 140737488355328 := fun x p n h1 h2 => by
        simp only [List.length_singleton]; omega
      generalize hR : g.2.1.getD q dR = R at *
      obtain ⟨P, hP⟩ : ∃ P : Nat, R.1 = (P : Int) := ⟨R.1.toNat, by omega⟩
      obtain ⟨O, hO⟩ : ∃ O : Nat, R.2.1 = (O : Int) := ⟨R.2.1.toNat, by omega⟩
      have b1 : 0 ≤ R.1 ∧ R.1 < (o.length : Int) := by rw [ho.1]; exact r1
      have b2 : 0 ≤ R.2.1 ∧ R.2.1 < (i.length : Int) := by rw [hi.1]; exact r2
      have l1 : (o.getD R.1.toNat []).length ≤ q := by rw [ho.2 _ (by omega)]; exact outs_len g q _
      have l2 : (i.getD R.2.1.toNat []).length ≤ q := by rw [hi.2 _ (by omega)]; exact inns_len g q _
      rw [if_t b1, if_t (c1 o _ q (by omega) l1), if_t b1, if_t b2, if_t (c1 i _ q (by omega) l2), if_t b2]
      refine net_roads hg k hk m (q + 1) _ _ (by omega) (by omega) ⟨by rw [List.length_set]; exact ho.1, fun p hp => ?_⟩ ⟨by rw [List.length_set]; exact hi.1, fun p hp => ?_⟩
      · rw [outs_succ, hR, List.getD_eq_getElem?_getD, List.getElem?_set]
        by_cases hx : R.1 = (p : Int)
        · have : R.1.toNat = p := by omega
          rw [if_pos hx, if_pos this, if_pos (by rw [ho.1]; omega), Option.getD_some, this, ho.2 p hp]; rfl
        · have : ¬ R.1.toNat = p := by omega
          rw [if_neg hx, if_neg this, ← List.getD_eq_getElem?_getD, ho.2 p hp]
      · rw [inns_succ, hR, List.getD_eq_getElem?_getD, List.getElem?_set]
        by_cases hx : R.2.1 = (p : Int)
        · have : R.2.1.toNat = p := by omega
          rw [if_pos hx, if_pos this, if_pos (by rw [hi.1]; omega), Option.getD_some, this, hi.2 p hp]; rfl
        · have : ¬ R.2.1.toNat = p := by omega
          rw [if_neg hx, if_neg this, ← List.getD_eq_getElem?_getD, hi.2 p hp]
    · obtain rfl : q = g.2.1.length := by omega
      rw [if_f (by simp)]
      obtain ⟨v', h1, h2⟩ := net_bans hg k o i k 0 [] (Nat.zero_le _) (by omega) (fun e f => by rw [mget_nil]; simp)
      exact ⟨_, h1, rfl, ho, hi, v', rfl, h2⟩

theorem e64 {g : Graph} (hg : GOk g) (k : Nat) (hk : 1048576 < k) : ∃ t, f64 k g = some t ∧ NetOf g t := by
  have h1 := hg.n1
  have h2 := hg.n2
  have c : (0 : Int) ≤ (g.1.length : Int) ∧ Int.toNat (g.1.length : Int) * 24 ≤ 140737488355328 := ⟨by omega, by rw [Int.toNat_natCast]; omega⟩
  unfold f64
  rw [if_t c, if_t c, Int.toNat_natCast]
  refine net_roads hg k hk k 0 _ _ (Nat.zero_le _) (by omega) ⟨by simp, fun p hp => ?_⟩ ⟨by simp, fun p hp => ?_⟩
  · rw [List.getD_eq_getElem?_getD, List.getElem?_replicate]
    simp [hp, outs]
  · rw [List.getD_eq_getElem?_getD, List.getElem?_replicate]
    simp [hp, inns]


theorem e65 (k : Nat) {g : Graph} {t : Net} (ht : NetOf g t) (r : Int) : f65 k t r = some (roadIs g r) := by
  unfold f65 roadIs
  rw [ht.fst]
  congr 1
  by_cases h : 0 ≤ r <;> simp [h]


def nextsOf (g : Graph) (e : Int) : List Int := (outs g g.2.1.length (roadAt g e).2.1.toNat).filter fun f => !banned g e f
theorem outs_road {g : Graph} {p : Nat} {f : Int} (h : f ∈ outs g g.2.1.length p) : roadIs g f = true := by
  unfold outs at h
  obtain ⟨r, hr, rfl⟩ := List.mem_map.1 h
  have := List.mem_range.1 (List.mem_filter.1 hr).1
  exact roadIs_iff.2 ⟨by omega, by omega⟩
theorem nexts_road {g : Graph} {e f : Int} (h : f ∈ nextsOf g e) : roadIs g f = true := outs_road (List.mem_filter.1 h).1
theorem nexts_len {g : Graph} (hg : GOk g) (e : Int) : (nextsOf g e).length ≤ 8000 := Nat.le_trans (List.length_filter_le _ _) (Nat.le_trans (outs_len g _ _) hg.n2)

theorem filter_take_succ {α : Type} {d : α} {p : α → Bool} {l : List α} {i : Nat} (h : i < l.length) : (l.take (i + 1)).filter p = if p (l.getD i d) = true then (l.take i).filter p ++ [l.getD i d] else (l.take i).filter p := by
  rw [List.take_add_one, List.filter_append, List.getD_eq_getElem?_getD, List.getElem?_eq_getElem h]
  by_cases hp : p l[i] = true
  · simp [hp]
  · simp [hp]


def windA (g : Graph) (e f : Int) : Int := if (roadAt g f).2.1 = (roadAt g e).1 then 8 else if windOf g e f < 0 then 0 else windOf g e f
theorem windOf_range (g : Graph) (e f : Int) : -1 ≤ windOf g e f ∧ windOf g e f ≤ 7 := by
  unfold windOf; split <;> omega
theorem windA_range (g : Graph) (e f : Int) : 0 ≤ windA g e f ∧ windA g e f ≤ 8 := by
  have := windOf_range g e f
  unfold windA; split
  · omega
  · split <;> omega


end Go.Proofs.Ytjfledckleeoaaa
