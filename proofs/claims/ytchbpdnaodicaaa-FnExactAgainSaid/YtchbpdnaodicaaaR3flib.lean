/-
  Shared laws of the graph statements, those whose functions this claim has. No condition.
-/
import Derived.Test.YtchbpdnaodicaaaR3fgl
set_option linter.unusedVariables false
set_option linter.unusedSimpArgs false
namespace Go.Proofs.Ytchbpdnaodicaaa
open Go Go.Vm Go.Proofs V
theorem wrap_id {n : Int} (h1 : -9223372036854775808 ≤ n) (h2 : n < 9223372036854775808) : IntKind.i64.wrap n = n := wrap_in h1 (by omega)
theorem beq5 (a b : Int × Int) : Sh.beq (.st (.pair (.int .i64) (.int .i64))) a b = true ↔ a = b := by
  obtain ⟨a1, a2⟩ := a; obtain ⟨b1, b2⟩ := b
  simp [Sh.beq]
theorem beq5d (a b : Int × Int) : Sh.beq (.st (.pair (.int .i64) (.int .i64))) a b = decide (a = b) := by
  by_cases h : a = b
  · rw [(beq5 a b).2 h]; simp [h]
  · rw [decide_eq_false h]
    cases hb : Sh.beq (.st (.pair (.int .i64) (.int .i64))) a b with
    | false => rfl
    | true => exact absurd ((beq5 a b).1 hb) h
theorem ban_iff {a b : Ban} : banLess a b = true ↔ a.1 < b.1 ∨ (a.1 = b.1 ∧ a.2 < b.2) := by simp [banLess]
theorem ban_trans {a b c : Ban} (h1 : banLess a b = true) (h2 : banLess b c = true) : banLess a c = true := by
  rw [ban_iff] at *; omega
theorem ban_irr {a : Ban} : banLess a a = false := by simp [banLess]
structure GOk (g : Graph) : Prop where
  n1 : g.1.length ≤ 5000
  n2 : g.2.1.length ≤ 8000
  n3 : g.2.2.length ≤ 2000
  spot : ∀ i, i < g.1.length → okSpot g i = true
  road : ∀ i, i < g.2.1.length → okRoad g i = true
  ban : ∀ i, i < g.2.2.length → okBan g i = true
theorem gok {g : Graph} (h : graphOk g = true) : GOk g := by
  unfold graphOk at h
  simp only [Bool.and_eq_true, decide_eq_true_eq] at h
  obtain ⟨⟨⟨⟨⟨h1, h2⟩, h3⟩, h4⟩, h5⟩, h6⟩ := h
  exact ⟨h1, h2, h3, allTo_iff.1 h4, allTo_iff.1 h5, allTo_iff.1 h6⟩
theorem ban_sorted {g : Graph} (hg : GOk g) : ∀ {d i : Nat}, i + d + 1 < g.2.2.length → banLess (g.2.2.getD i dB) (g.2.2.getD (i + d + 1) dB) = true
  | 0, i, h => by
    have := hg.ban (i + 1) (by omega)
    unfold okBan at this
    simp only [Bool.and_eq_true, Bool.or_eq_true, decide_eq_true_eq] at this
    rcases this.2 with h' | h'
    · omega
    · simpa using h'
  | d + 1, i, h => ban_trans (ban_sorted hg (d := d) (i := i) (by omega)) (by
    have h0 := ban_sorted hg (d := 0) (i := i + d + 1) (by omega)
    rwa [show i + d + 1 + 0 + 1 = i + (d + 1) + 1 by omega] at h0)
theorem ban_sort {g : Graph} (hg : GOk g) {i j : Nat} (hij : i < j) (hj : j < g.2.2.length) : banLess (g.2.2.getD i dB) (g.2.2.getD j dB) = true := by
  have := ban_sorted hg (d := j - i - 1) (i := i) (by omega)
  rwa [show i + (j - i - 1) + 1 = j by omega] at this
def banned (g : Graph) (e f : Int) : Bool := decide ((e, f) ∈ g.2.2)
theorem mem_getD {α : Type} {d : α} {x : α} {l : List α} (h : x ∈ l) : ∃ i, i < l.length ∧ l.getD i d = x := by
  obtain ⟨i, hi, he⟩ := List.getElem_of_mem h
  exact ⟨i, hi, by rw [List.getD_eq_getElem?_getD, List.getElem?_eq_getElem hi, he]; rfl⟩
theorem getD_in {α : Type} {d : α} {l : List α} {i : Nat} (h : i < l.length) : l.getD i d ∈ l := by
  rw [List.getD_eq_getElem?_getD, List.getElem?_eq_getElem h]; exact List.getElem_mem h
def ab (x : Int) : Int := if x < 0 then -x else x
def headR (dx dy : Int) : Int :=
  if 5 * ab dy < 2 * ab dx ∧ dx > 0 then 0 else if 5 * ab dy < 2 * ab dx then 4 else if 5 * ab dx < 2 * ab dy ∧ dy > 0 then 2 else if 5 * ab dx < 2 * ab dy then 6 else
  if dx > 0 ∧ dy > 0 then 1 else if dx < 0 ∧ dy > 0 then 3 else if dx < 0 then 5 else 7
def headB (p q : Int × Int) : Int := if ptB p = true ∧ ptB q = true ∧ p ≠ q then headR (q.1 - p.1) (q.2 - p.2) else -1
theorem headR_range (dx dy : Int) : 0 ≤ headR dx dy ∧ headR dx dy ≤ 7 := by
  unfold headR
  repeat' split
  all_goals omega
theorem headB_range (p q : Int × Int) : -1 ≤ headB p q ∧ headB p q ≤ 7 := by
  unfold headB
  split
  · have := headR_range (q.1 - p.1) (q.2 - p.2); omega
  · omega
theorem ptB_iff {p : Int × Int} (h : ptB p = true) : -10000000 ≤ p.1 ∧ p.1 ≤ 10000000 ∧ -10000000 ≤ p.2 ∧ p.2 ≤ 10000000 := by
  unfold ptB at h
  simp only [cond_eq_ite, Bool.if_false_right, Bool.and_eq_true, decide_eq_true_eq] at h
  omega
theorem ab_range {x : Int} (h1 : -100000000 ≤ x) (h2 : x ≤ 100000000) : 0 ≤ ab x ∧ ab x ≤ 100000000 := by
  unfold ab; split <;> omega
def roadAt (g : Graph) (r : Int) : Road := g.2.1.getD r.toNat dR
def spotAt (g : Graph) (p : Int) : Spot := g.1.getD p.toNat dS
def roadIs (g : Graph) (r : Int) : Bool := decide (0 ≤ r) && decide (r < (g.2.1.length : Int))
def spotIs (g : Graph) (p : Int) : Bool := decide (0 ≤ p) && decide (p < (g.1.length : Int))
def headOf (g : Graph) (r : Int) : Int := headB (spotAt g (roadAt g r).1).2 (spotAt g (roadAt g r).2.1).2
def windOf (g : Graph) (e f : Int) : Int := if headOf g e < 0 ∨ headOf g f < 0 then -1 else (headOf g f - headOf g e + 8) % 8
def costOf (w : Int) : Int := if w = 2 ∨ w = 3 ∨ w = 4 then 5 else if w = 5 ∨ w = 6 then 3 else 0
def turnOf (g : Graph) (e f : Int) : Int := if banned g e f = true then -1 else if (roadAt g f).2.1 = (roadAt g e).1 then 20 else costOf (windOf g e f)
theorem foldR (g : Graph) (r : Int) : List.getD g.2.1 (Int.toNat r) ((0 : Int), ((0 : Int), ((0 : Int), ((0 : Int), ((0 : Int), (⟨#[]⟩ : ByteArray)))))) = roadAt g r := by cases g; exact id rfl
theorem foldS (g : Graph) (p : Int) : List.getD g.1 (Int.toNat p) ((0 : Int), ((0 : Int), (0 : Int))) = spotAt g p := by cases g; exact id rfl
theorem foldH (g : Graph) (r : Int) : headB (spotAt g (roadAt g r).1).2 (spotAt g (roadAt g r).2.1).2 = headOf g r := by cases g; exact id rfl
theorem roadIs_iff {g : Graph} {r : Int} : roadIs g r = true ↔ 0 ≤ r ∧ r < (g.2.1.length : Int) := by simp [roadIs]
theorem spotIs_iff {g : Graph} {r : Int} : spotIs g r = true ↔ 0 ≤ r ∧ r < (g.1.length : Int) := by simp [spotIs]
theorem road_ends {g : Graph} (hg : GOk g) {r : Int} (h : roadIs g r = true) : (0 ≤ (roadAt g r).1 ∧ (roadAt g r).1 < (g.1.length : Int)) ∧ (0 ≤ (roadAt g r).2.1 ∧ (roadAt g r).2.1 < (g.1.length : Int)) := by
  rw [roadIs_iff] at h
  have := hg.road r.toNat (by omega)
  unfold okRoad at this
  simp only [Bool.and_eq_true, decide_eq_true_eq] at this
  unfold roadAt
  omega
theorem mod8 {x : Int} (h1 : 0 ≤ x) : Int.tmod x 8 = x % 8 := Int.tmod_eq_emod_of_nonneg h1
abbrev Net := Graph × ((List (List Int)) × ((List (List Int)) × (Option (List ((Int × Int) × Bool)))))
def outs (g : Graph) (n p : Nat) : List Int := ((List.range n).filter fun r => decide ((g.2.1.getD r dR).1 = (p : Int))).map fun (r : Nat) => (r : Int)
def inns (g : Graph) (n p : Nat) : List Int := ((List.range n).filter fun r => decide ((g.2.1.getD r dR).2.1 = (p : Int))).map fun (r : Nat) => (r : Int)
structure NetOf (g : Graph) (t : Net) : Prop where
  fst : t.1 = g
  out : t.2.1.length = g.1.length ∧ ∀ p, p < g.1.length → t.2.1.getD p [] = outs g g.2.1.length p
  inn : t.2.2.1.length = g.1.length ∧ ∀ p, p < g.1.length → t.2.2.1.getD p [] = inns g g.2.1.length p
  ban : ∃ m, t.2.2.2 = some m ∧ ∀ e f, mget (Sh.beq (.st (.pair (.int .i64) (.int .i64)))) (some m) (e, f) false = banned g e f
theorem outs_len (g : Graph) (n p : Nat) : (outs g n p).length ≤ n := by
  unfold outs; rw [List.length_map]
  exact Nat.le_trans (List.length_filter_le _ _) (by simp)
theorem inns_len (g : Graph) (n p : Nat) : (inns g n p).length ≤ n := by
  unfold inns; rw [List.length_map]
  exact Nat.le_trans (List.length_filter_le _ _) (by simp)
theorem outs_succ (g : Graph) (n p : Nat) : outs g (n + 1) p = if (g.2.1.getD n dR).1 = (p : Int) then outs g n p ++ [(n : Int)] else outs g n p := by
  unfold outs
  rw [List.range_succ, List.filter_append, List.map_append]
  by_cases h : (g.2.1.getD n dR).1 = (p : Int)
  · rw [if_pos h, List.filter_cons_of_pos (by simpa using h)]; rfl
  · rw [if_neg h, List.filter_cons_of_neg (by simpa using h)]; simp
theorem inns_succ (g : Graph) (n p : Nat) : inns g (n + 1) p = if (g.2.1.getD n dR).2.1 = (p : Int) then inns g n p ++ [(n : Int)] else inns g n p := by
  unfold inns
  rw [List.range_succ, List.filter_append, List.map_append]
  by_cases h : (g.2.1.getD n dR).2.1 = (p : Int)
  · rw [if_pos h, List.filter_cons_of_pos (by simpa using h)]; rfl
  · rw [if_neg h, List.filter_cons_of_neg (by simpa using h)]; simp
theorem mem_take_succ {α : Type} {d : α} {l : List α} {i : Nat} (h : i < l.length) (x : α) : x ∈ l.take (i + 1) ↔ x ∈ l.take i ∨ x = l.getD i d := by
  rw [List.take_add_one, List.mem_append, List.getD_eq_getElem?_getD, List.getElem?_eq_getElem h]
  simp
theorem banned_loop {g : Graph} (hg : GOk g) (k : Nat) (e f : Int) : ∀ (m lo hi : Nat), lo ≤ hi → hi ≤ g.2.2.length → hi - lo < m → (∀ j, j < lo → banLess (g.2.2.getD j dB) (e, f) = true) → (∀ j, hi ≤ j → j < g.2.2.length → banLess (g.2.2.getD j dB) (e, f) = false) →
    f218.l22 k g e f m ((lo : Int), (hi : Int)) = some (banned g e f)
  | 0, lo, hi, _, _, h, _, _ => by omega
  | m + 1, lo, hi, h1, h2, h3, h4, h5 => by
    have hn := hg.n3
    rw [f218.l22]
    by_cases hlt : lo < hi
    · rw [if_t (by simpa using hlt), if_t (by decide), wrap_id (n := (lo : Int) + hi) (by omega) (by omega)]
      have hmid : Int.tdiv ((lo : Int) + hi) 2 = (((lo + hi) / 2 : Nat) : Int) := by
        rw [Int.tdiv_eq_ediv_of_nonneg (by omega)]; omega
      rw [hmid, wrap_id (n := (((lo + hi) / 2 : Nat) : Int)) (by omega) (by omega), if_t ⟨by omega, by omega⟩]
      generalize hM : (lo + hi) / 2 = M at *
      rw [e160, Option.bind_some, Int.toNat_natCast]
      cases hb : banLess (g.2.2.getD M dB) (e, f) with
      | true =>
        rw [if_t rfl, wrap_s (by omega)]
        refine banned_loop hg k e f m (M + 1) hi (by omega) h2 (by omega) (fun j hj => ?_) h5
        by_cases hjM : j = M
        · rw [hjM]; exact hb
        · exact ban_trans (ban_sort hg (i := j) (j := M) (by omega) (by omega)) hb
      | false =>
        rw [if_f (by simp)]
        refine banned_loop hg k e f m lo M (by omega) (by omega) (by omega) h4 (fun j hj hjn => ?_)
        by_cases hjM : j = M
        · rw [hjM]; exact hb
        · cases hb2 : banLess (g.2.2.getD j dB) (e, f) with
          | false => rfl
          | true =>
            have := ban_trans (ban_sort hg (i := M) (j := j) (by omega) hjn) hb2
            rw [hb] at this; cases this
    · obtain rfl : lo = hi := by omega
      rw [if_f (by simp)]
      rw [if_t (fun hh => ⟨by omega, by simpa using hh⟩)]
      congr 1
      rw [Int.toNat_natCast]
      have key : banned g e f = true ↔ lo < g.2.2.length ∧ g.2.2.getD lo dB = (e, f) := by
        unfold banned
        rw [decide_eq_true_iff]
        constructor
        · intro hm
          obtain ⟨j, hj, hje⟩ := mem_getD (d := dB) hm
          have hlo : j = lo := by
            rcases Nat.lt_trichotomy j lo with h' | h' | h'
            · have := h4 j h'
              rw [hje, ban_irr] at this; cases this
            · exact h'
            · have := h5 lo (Nat.le_refl _) (by omega)
              have h6 := ban_sort hg h' hj
              rw [hje, this] at h6; cases h6
          subst hlo
          exact ⟨hj, hje⟩
        · rintro ⟨h6, h7⟩
          rw [← h7]; exact getD_in h6
      by_cases hl : lo < g.2.2.length
      · have : decide ((lo : Int) < (g.2.2.length : Int)) = true := by simpa using hl
        rw [this, cond_true, beq5d]
        by_cases hq : g.2.2.getD lo dB = (e, f)
        · rw [key.2 ⟨hl, hq⟩]; simpa using hq
        · have : banned g e f = false := Bool.eq_false_iff.2 (fun h => hq (key.1 h).2)
          rw [this]; simpa using hq
      · have : decide ((lo : Int) < (g.2.2.length : Int)) = false := by simpa using hl
        rw [this, cond_false]
        exact (Bool.eq_false_iff.2 (fun h => hl (key.1 h).1)).symm
theorem e218 {g : Graph} (hg : GOk g) (k : Nat) (hk : 1048576 < k) (e f : Int) : f218 k g e f = some (banned g e f) := by
  have := hg.n3
  exact banned_loop hg k e f k 0 g.2.2.length (by omega) (Nat.le_refl _) (by omega) (fun j hj => by omega) (fun j h1 h2 => by omega)
theorem abs_eq (k : Nat) {x : Int} (h1 : -100000000 ≤ x) (h2 : x ≤ 100000000) : f250 k x = some (ab x) ∧ f268 k x = some (ab x) := by
  unfold f250 f268 ab
  by_cases h : x < 0
  · rw [if_t (by simpa using h), if_pos h, wrap_id (by omega) (by omega)]; simp
  · rw [if_f (by simpa using h), if_neg h]; simp
theorem e219 (k : Nat) (p q : Int × Int) : f219 k p q = some (headB p q) := by
  unfold f219 headB
  rw [e159]
  simp only [Option.bind_some, e159, beq5d]
  by_cases hp : ptB p = true
  · by_cases hq : ptB q = true
    · by_cases he : p = q
      · subst he; simp [hp]
      · have bp := ptB_iff hp
        have bq := ptB_iff hq
        have w1 : IntKind.i64.wrap (q.1 - p.1) = q.1 - p.1 := wrap_id (by omega) (by omega)
        have w2 : IntKind.i64.wrap (q.2 - p.2) = q.2 - p.2 := wrap_id (by omega) (by omega)
        have hR : (if ptB p = true ∧ ptB q = true ∧ p ≠ q then headR (q.1 - p.1) (q.2 - p.2) else -1) = headR (q.1 - p.1) (q.2 - p.2) := if_pos ⟨hp, hq, he⟩
        rw [hR]
        simp only [hp, hq, he, w1, w2]
        obtain ⟨dx, hdx⟩ : ∃ dx, dx = q.1 - p.1 := ⟨_, rfl⟩
        obtain ⟨dy, hdy⟩ : ∃ dy, dy = q.2 - p.2 := ⟨_, rfl⟩
        rw [← hdx, ← hdy]
        rw [(abs_eq k (x := dx) (by omega) (by omega)).1, (abs_eq k (x := dy) (by omega) (by omega)).1]
        have r1 := ab_range (x := dx) (by omega) (by omega)
        have r2 := ab_range (x := dy) (by omega) (by omega)
        simp only [Option.bind_some, if_true]
        rw [wrap_id (n := 5 * ab dy) (by omega) (by omega), wrap_id (n := 2 * ab dx) (by omega) (by omega), wrap_id (n := 5 * ab dx) (by omega) (by omega), wrap_id (n := 2 * ab dy) (by omega) (by omega)]
        unfold headR
        by_cases c1 : 5 * ab dy < 2 * ab dx <;> by_cases c2 : dx > 0 <;> by_cases c3 : 5 * ab dx < 2 * ab dy <;> by_cases c4 : dy > 0 <;> by_cases c5 : dx < 0 <;> simp [c1, c2, c3, c4, c5]
    · simp only [Bool.not_eq_true] at hq
      simp [hp, hq]
  · simp only [Bool.not_eq_true] at hp
    simp [hp]
theorem e251 (k : Nat) (p q : Int × Int) : f251 k p q = some (headB p q) := by
  unfold f251 headB
  simp only [e169, beq5d]
  by_cases he : p = q
  · subst he; simp
  · by_cases hp : ptB p = true
    · by_cases hq : ptB q = true
      · have bp := ptB_iff hp
        have bq := ptB_iff hq
        have w1 : IntKind.i64.wrap (q.1 - p.1) = q.1 - p.1 := wrap_id (by omega) (by omega)
        have w2 : IntKind.i64.wrap (q.2 - p.2) = q.2 - p.2 := wrap_id (by omega) (by omega)
        have hR : (if ptB p = true ∧ ptB q = true ∧ p ≠ q then headR (q.1 - p.1) (q.2 - p.2) else -1) = headR (q.1 - p.1) (q.2 - p.2) := if_pos ⟨hp, hq, he⟩
        rw [hR]
        simp only [hp, hq, he, w1, w2]
        obtain ⟨dx, hdx⟩ : ∃ dx, dx = q.1 - p.1 := ⟨_, rfl⟩
        obtain ⟨dy, hdy⟩ : ∃ dy, dy = q.2 - p.2 := ⟨_, rfl⟩
        rw [← hdx, ← hdy]
        rw [(abs_eq k (x := dx) (by omega) (by omega)).2, (abs_eq k (x := dy) (by omega) (by omega)).2]
        have r1 := ab_range (x := dx) (by omega) (by omega)
        have r2 := ab_range (x := dy) (by omega) (by omega)
        simp only [Option.bind_some, if_true, decide_false, cond_false, Bool.not_true, cond_true]
        have m1 : -100000000 ≤ (if ab dy < ab dx then ab dy else ab dx) ∧ (if ab dy < ab dx then ab dy else ab dx) ≤ 100000000 := by split <;> omega
        have m2 : -100000000 ≤ (if ab dy > ab dx then ab dy else ab dx) ∧ (if ab dy > ab dx then ab dy else ab dx) ≤ 100000000 := by split <;> omega
        rw [wrap_id (n := 5 * (if ab dy < ab dx then ab dy else ab dx)) (by omega) (by omega), wrap_id (n := 2 * (if ab dy > ab dx then ab dy else ab dx)) (by omega) (by omega)]
        unfold headR
        have a1 : ab dx = if dx < 0 then -dx else dx := rfl
        have a2 : ab dy = if dy < 0 then -dy else dy := rfl
        generalize ab dx = X at *
        generalize ab dy = Y at *
        by_cases c0 : Y < X <;> by_cases c1 : 5 * Y < 2 * X <;> by_cases c3 : 5 * X < 2 * Y <;> by_cases c2 : dx > 0 <;> by_cases c4 : dy > 0 <;> by_cases c5 : dx < 0 <;> by_cases c6 : dy < 0 <;> by_cases c7 : Y > X <;> simp [c0, c1, c2, c3, c4, c5, c6, c7] at a1 a2 ⊢ <;> omega
      · simp only [Bool.not_eq_true] at hq
        simp [hp, hq, he]
    · simp only [Bool.not_eq_true] at hp
      simp [hp, he]
theorem net_bans {g : Graph} (hg : GOk g) (k : Nat) (o i : List (List Int)) : ∀ (m q : Nat) (v : List ((Int × Int) × Bool)), q ≤ g.2.2.length → g.2.2.length - q < m →
    (∀ e f, mget (Sh.beq (.st (.pair (.int .i64) (.int .i64)))) (some v) (e, f) false = decide ((e, f) ∈ g.2.2.take q)) →
    ∃ v', f80.l126 k g o i m (v, (q : Int)) = some (g, (o, (i, some v'))) ∧ ∀ e f, mget (Sh.beq (.st (.pair (.int .i64) (.int .i64)))) (some v') (e, f) false = banned g e f
  | 0, q, v, _, h, _ => by omega
  | m + 1, q, v, hq, h, hv => by
    have hn := hg.n3
    rw [f80.l126]
    by_cases hlt : q < g.2.2.length
    · rw [if_t (by simpa using hlt), if_t ⟨by omega, by omega⟩, wrap_s (by omega), Int.toNat_natCast]
      refine net_bans hg k o i m (q + 1) _ (by omega) (by omega) (fun e f => ?_)
      rw [mget_put beq5, hv e f, beq5d]
      by_cases hx : (e, f) = g.2.2.getD q ((0 : Int), (0 : Int))
      · have : (e, f) ∈ g.2.2.take (q + 1) := (mem_take_succ (d := ((0 : Int), (0 : Int))) hlt _).2 (.inr hx)
        rw [decide_eq_true hx, decide_eq_true this]; rfl
      · rw [decide_eq_false hx, cond_false]
        congr 1
        apply propext
        rw [mem_take_succ (d := ((0 : Int), (0 : Int))) hlt]
        exact ⟨.inl, fun h => h.resolve_right hx⟩
    · obtain rfl : q = g.2.2.length := by omega
      rw [if_f (by simp)]
      refine ⟨v, rfl, fun e f => ?_⟩
      rw [hv e f, List.take_length]; rfl
theorem net_roads {g : Graph} (hg : GOk g) (k : Nat) (hk : 1048576 < k) : ∀ (m q : Nat) (o i : List (List Int)), q ≤ g.2.1.length → g.2.1.length - q < m →
    (o.length = g.1.length ∧ ∀ p, p < g.1.length → o.getD p [] = outs g q p) → (i.length = g.1.length ∧ ∀ p, p < g.1.length → i.getD p [] = inns g q p) →
    ∃ t, f80.l56 k g m (o, i, (q : Int)) = some t ∧ NetOf g t
  | 0, q, o, i, _, h, _, _ => by omega
  | m + 1, q, o, i, hq, h, ho, hi => by
    have hn := hg.n2
    have hn3 := hg.n3
    rw [f80.l56]
    by_cases hlt : q < g.2.1.length
    · have hr : roadIs g (q : Int) = true := roadIs_iff.2 ⟨by omega, by omega⟩
      obtain ⟨r1, r2⟩ := road_ends hg hr
      have e0 : roadAt g (q : Int) = g.2.1.getD q dR := by unfold roadAt; rw [Int.toNat_natCast]
      rw [e0] at r1 r2
      rw [if_t (by simpa using hlt), if_t ⟨by omega, by omega⟩, wrap_s (by omega), Int.toNat_natCast]
      have c1 : ∀ (x : List (List Int)) (p n : Nat), n ≤ 8000 → (x.getD p []).length ≤ n → ((x.getD p []).length + [(q : Int)].length) * 8 ≤ 140737488355328 := fun x p n h1 h2 => by
        simp only [List.length_singleton]; omega
      generalize hR : g.2.1.getD q dR = R at *
      obtain ⟨P, hP⟩ : ∃ P : Nat, R.1 = (P : Int) := ⟨R.1.toNat, by omega⟩
      obtain ⟨O, hO⟩ : ∃ O : Nat, R.2.1 = (O : Int) := ⟨R.2.1.toNat, by omega⟩
      have b1 : 0 ≤ R.1 ∧ R.1 < (o.length : Int) := by rw [ho.1]; exact r1
      have b2 : 0 ≤ R.2.1 ∧ R.2.1 < (i.length : Int) := by rw [hi.1]; exact r2
      have l1 : (o.getD R.1.toNat []).length ≤ q := by rw [ho.2 _ (by omega)]; exact outs_len g q _
      have l2 : (i.getD R.2.1.toNat []).length ≤ q := by rw [hi.2 _ (by omega)]; exact inns_len g q _
      rw [if_t b1, if_t (c1 o _ q (by omega) l1), if_t b1, if_t b2, if_t (c1 i _ q (by omega) l2), if_t b2]
      refine net_roads hg k hk m (q + 1) _ _ (by omega) (by omega) ⟨by rw [List.length_set]; exact ho.1, fun p hp => ?_⟩ ⟨by rw [List.length_set]; exact hi.1, fun p hp => ?_⟩
      · rw [outs_succ, hR, List.getD_eq_getElem?_getD, List.getElem?_set]
        by_cases hx : R.1 = (p : Int)
        · have : R.1.toNat = p := by omega
          rw [if_pos hx, if_pos this, if_pos (by rw [ho.1]; omega), Option.getD_some, this, ho.2 p hp]; rfl
        · have : ¬ R.1.toNat = p := by omega
          rw [if_neg hx, if_neg this, ← List.getD_eq_getElem?_getD, ho.2 p hp]
      · rw [inns_succ, hR, List.getD_eq_getElem?_getD, List.getElem?_set]
        by_cases hx : R.2.1 = (p : Int)
        · have : R.2.1.toNat = p := by omega
          rw [if_pos hx, if_pos this, if_pos (by rw [hi.1]; omega), Option.getD_some, this, hi.2 p hp]; rfl
        · have : ¬ R.2.1.toNat = p := by omega
          rw [if_neg hx, if_neg this, ← List.getD_eq_getElem?_getD, hi.2 p hp]
    · obtain rfl : q = g.2.1.length := by omega
      rw [if_f (by simp)]
      obtain ⟨v', h1, h2⟩ := net_bans hg k o i k 0 [] (Nat.zero_le _) (by omega) (fun e f => by rw [mget_nil]; simp)
      exact ⟨_, h1, rfl, ho, hi, v', rfl, h2⟩
theorem e80 {g : Graph} (hg : GOk g) (k : Nat) (hk : 1048576 < k) : ∃ t, f80 k g = some t ∧ NetOf g t := by
  have h1 := hg.n1
  have h2 := hg.n2
  have c : (0 : Int) ≤ (g.1.length : Int) ∧ Int.toNat (g.1.length : Int) * 24 ≤ 140737488355328 := ⟨by omega, by rw [Int.toNat_natCast]; omega⟩
  unfold f80
  rw [if_t c, if_t c, Int.toNat_natCast]
  refine net_roads hg k hk k 0 _ _ (Nat.zero_le _) (by omega) ⟨by simp, fun p hp => ?_⟩ ⟨by simp, fun p hp => ?_⟩
  · rw [List.getD_eq_getElem?_getD, List.getElem?_replicate]
    simp [hp, outs]
  · rw [List.getD_eq_getElem?_getD, List.getElem?_replicate]
    simp [hp, inns]
theorem e221 {g : Graph} (hg : GOk g) (k : Nat) {t : Net} (ht : NetOf g t) {e f : Int} (he : roadIs g e = true) (hf : roadIs g f = true) : f221 k t e f = some (windOf g e f) := by
  have re := road_ends hg he
  have rf := road_ends hg hf
  rw [roadIs_iff] at he hf
  obtain ⟨g', t2⟩ := t
  obtain rfl : g' = g := ht.fst
  unfold f221
  simp only [foldR, foldS]
  rw [if_t he, if_t hf, if_t re.1, if_t re.2, e251, Option.bind_some, if_t rf.1, if_t rf.2, e251, Option.bind_some]
  simp only [foldH]
  unfold windOf
  have r1 : -1 ≤ headOf g' e ∧ headOf g' e ≤ 7 := headB_range _ _
  have r2 : -1 ≤ headOf g' f ∧ headOf g' f ≤ 7 := headB_range _ _
  generalize headOf g' e = x at *
  generalize headOf g' f = y at *
  by_cases hx : x < 0
  · simp [hx]
  · by_cases hy : y < 0
    · simp [hy]
    · have hW : (if x < 0 ∨ y < 0 then (-1 : Int) else (y - x + 8) % 8) = (y - x + 8) % 8 := if_neg (by omega)
      rw [hW, if_f (by simp [hx, hy]), if_t (by decide)]
      rw [wrap_id (n := y - x) (by omega) (by omega), wrap_id (n := y - x + 8) (by omega) (by omega), mod8 (by omega)]
theorem e162 {g : Graph} (hg : GOk g) (k : Nat) (hk : 1048576 < k) {e f : Int} (he : roadIs g e = true) (hf : roadIs g f = true) : f162 k g e f = some (turnOf g e f) := by
  have re := road_ends hg he
  have rf := road_ends hg hf
  rw [roadIs_iff] at he hf
  unfold f162 turnOf
  rw [e218 hg k hk, Option.bind_some]
  cases hb : banned g e f with
  | true => rw [if_t rfl, if_pos rfl]
  | false =>
    simp only [Bool.false_eq_true, if_false, foldR, foldS]
    rw [if_t he, if_t hf]
    by_cases hr : (roadAt g f).2.1 = (roadAt g e).1
    · simp [hr]
    · rw [if_neg hr, if_f (by simpa using hr), if_t re.1, if_t re.2, e219, Option.bind_some, if_t rf.1, if_t rf.2, e219, Option.bind_some]
      have r1 : -1 ≤ headOf g e ∧ headOf g e ≤ 7 := headB_range _ _
      have r2 : -1 ≤ headOf g f ∧ headOf g f ≤ 7 := headB_range _ _
      simp only [foldH]
      unfold windOf
      generalize headOf g e = x at *
      generalize headOf g f = y at *
      by_cases hx : x < 0
      · simp [hx, costOf]
      · by_cases hy : y < 0
        · simp [hy, costOf]
        · have hw : Int.tmod (IntKind.i64.wrap (IntKind.i64.wrap (y - x) + 8)) 8 = (y - x + 8) % 8 := by
            rw [wrap_id (n := y - x) (by omega) (by omega), wrap_id (n := y - x + 8) (by omega) (by omega), mod8 (by omega)]
          have hW : (if x < 0 ∨ y < 0 then (-1 : Int) else (y - x + 8) % 8) = (y - x + 8) % 8 := if_neg (by omega)
          rw [hW, if_f (by simp [hx, hy]), if_t (by decide)]
          unfold f162.j9 f162.j11
          rw [hw]
          generalize (y - x + 8) % 8 = z
          unfold costOf
          by_cases c2 : z = 2
          · subst c2; simp
          · by_cases c3 : z = 3
            · subst c3; simp
            · by_cases c4 : z = 4
              · subst c4; simp
              · by_cases c5 : z = 5
                · subst c5; simp
                · by_cases c6 : z = 6
                  · subst c6; simp
                  · simp [c2, c3, c4, c5, c6]
theorem e170 {g : Graph} (hg : GOk g) (k : Nat) {t : Net} (ht : NetOf g t) {e f : Int} (he : roadIs g e = true) (hf : roadIs g f = true) : f170 k t e f = some (if (roadAt g e).2.1 = (roadAt g f).1 then turnOf g e f else -1) := by
  have e221' := e221 hg k ht he hf
  rw [roadIs_iff] at he hf
  obtain ⟨g', o, i, mm⟩ := t
  obtain rfl : g' = g := ht.fst
  obtain ⟨v, hv1, hv2⟩ := ht.ban
  simp only at hv1
  subst hv1
  unfold f170
  simp only [foldR, foldS]
  rw [if_t he, if_t hf, hv2 e f, e221', Option.bind_some]
  unfold turnOf
  by_cases hm : (roadAt g' e).2.1 = (roadAt g' f).1
  · rw [if_pos hm]
    cases hb : banned g' e f with
    | true => simp
    | false =>
      simp only [hm, bne_self_eq_false, cond_false, Bool.false_eq_true, if_false]
      by_cases hr : (roadAt g' f).2.1 = (roadAt g' e).1
      · simp [hr]
      · rw [if_neg hr, if_f (by simpa using hr)]
        unfold f170.j7 f170.j9 costOf
        generalize windOf g' e f = z
        by_cases c2 : z = 2
        · subst c2; simp
        · by_cases c3 : z = 3
          · subst c3; simp
          · by_cases c4 : z = 4
            · subst c4; simp
            · by_cases c5 : z = 5
              · subst c5; simp
              · by_cases c6 : z = 6
                · subst c6; simp
                · simp [c2, c3, c4, c5, c6]
  · rw [if_neg hm, if_t (by simp [hm])]
theorem at_loop {g : Graph} (hg : GOk g) (k : Nat) (b : Bool) : ∀ (m q : Nat) (o : List (List Int)), q ≤ g.2.1.length → g.2.1.length - q < m →
    (o.length = g.1.length ∧ ∀ p, p < g.1.length → o.getD p [] = (bif b then inns g q p else outs g q p)) →
    ∃ t, f73.l58 k g b m (o, (q : Int)) = some t ∧ t.length = g.1.length ∧ ∀ p, p < g.1.length → t.getD p [] = (bif b then inns g g.2.1.length p else outs g g.2.1.length p)
  | 0, q, o, _, h, _ => by omega
  | m + 1, q, o, hq, h, ho => by
    have hn := hg.n2
    rw [f73.l58]
    by_cases hlt : q < g.2.1.length
    · have hr : roadIs g (q : Int) = true := roadIs_iff.2 ⟨by omega, by omega⟩
      obtain ⟨r1, r2⟩ := road_ends hg hr
      have e0 : roadAt g (q : Int) = g.2.1.getD q dR := by unfold roadAt; rw [Int.toNat_natCast]
      have hb : (0 : Int) ≤ (q : Int) ∧ (q : Int) < (g.2.1.length : Int) := ⟨by omega, by omega⟩
      have hc : decide ((q : Int) < (g.2.1.length : Int)) = true := by simpa using hlt
      have step : ∀ P : Int, 0 ≤ P ∧ P < (g.1.length : Int) → (∀ p : Nat, (P = (p : Int) → (bif b then inns g (q + 1) p else outs g (q + 1) p) = (bif b then inns g q p else outs g q p) ++ [(q : Int)]) ∧ (P ≠ (p : Int) → (bif b then inns g (q + 1) p else outs g (q + 1) p) = (bif b then inns g q p else outs g q p))) →
          ∃ t, f73.j109 k o (q : Int) (f73.l58 k g b m) P = some t ∧ t.length = g.1.length ∧ ∀ p, p < g.1.length → t.getD p [] = (bif b then inns g g.2.1.length p else outs g g.2.1.length p) := fun P hP hQ => by
        unfold f73.j109
        have b1 : 0 ≤ P ∧ P < (o.length : Int) := by rw [ho.1]; exact hP
        have l1 : (o.getD P.toNat []).length ≤ q := by
          rw [ho.2 _ (by omega)]
          cases b
          · exact outs_len g q _
          · exact inns_len g q _
        have c1 : ((o.getD P.toNat []).length + [(q : Int)].length) * 8 ≤ 140737488355328 := by
          simp only [List.length_singleton]; omega
        rw [if_t b1, if_t c1, if_t b1, wrap_s (by omega)]
        refine at_loop hg k b m (q + 1) _ (by omega) (by omega) ⟨by rw [List.length_set]; exact ho.1, fun p hp => ?_⟩
        rw [List.getD_eq_getElem?_getD, List.getElem?_set]
        by_cases hx : P = (p : Int)
        · have : P.toNat = p := by omega
          rw [(hQ p).1 hx, if_pos this, if_pos (by rw [ho.1]; omega), Option.getD_some, this, ho.2 p hp]; rfl
        · have : ¬ P.toNat = p := by omega
          rw [(hQ p).2 hx, if_neg this, ← List.getD_eq_getElem?_getD, ho.2 p hp]
      rw [e0] at r1 r2
      simp only [if_t hc, if_t hb, Int.toNat_natCast]
      cases b with
      | true =>
        rw [if_t rfl]
        refine step _ r2 (fun p => ⟨fun hx => ?_, fun hx => ?_⟩)
        · simp only [cond_true, inns_succ]; rw [if_pos hx]
        · simp only [cond_true, inns_succ]; rw [if_neg hx]
      | false =>
        rw [if_f (by simp)]
        refine step _ r1 (fun p => ⟨fun hx => ?_, fun hx => ?_⟩)
        · simp only [cond_false, outs_succ]; rw [if_pos hx]
        · simp only [cond_false, outs_succ]; rw [if_neg hx]
    · obtain rfl : q = g.2.1.length := by omega
      rw [if_f (by simp)]
      exact ⟨o, rfl, ho⟩
theorem e73 {g : Graph} (hg : GOk g) (k : Nat) (hk : 1048576 < k) (b : Bool) : ∃ t, f73 k g b = some t ∧ t.length = g.1.length ∧ ∀ p, p < g.1.length → t.getD p [] = (bif b then inns g g.2.1.length p else outs g g.2.1.length p) := by
  have h1 := hg.n1
  have h2 := hg.n2
  have c : (0 : Int) ≤ (g.1.length : Int) ∧ Int.toNat (g.1.length : Int) * 24 ≤ 140737488355328 := ⟨by omega, by rw [Int.toNat_natCast]; omega⟩
  unfold f73
  rw [if_t c, Int.toNat_natCast]
  refine at_loop hg k b k 0 _ (Nat.zero_le _) (by omega) ⟨by simp, fun p hp => ?_⟩
  rw [List.getD_eq_getElem?_getD, List.getElem?_replicate]
  cases b <;> simp [hp, outs, inns]
def nextsOf (g : Graph) (e : Int) : List Int := (outs g g.2.1.length (roadAt g e).2.1.toNat).filter fun f => !banned g e f
theorem outs_road {g : Graph} {p : Nat} {f : Int} (h : f ∈ outs g g.2.1.length p) : roadIs g f = true := by
  unfold outs at h
  obtain ⟨r, hr, rfl⟩ := List.mem_map.1 h
  have := List.mem_range.1 (List.mem_filter.1 hr).1
  exact roadIs_iff.2 ⟨by omega, by omega⟩
theorem nexts_road {g : Graph} {e f : Int} (h : f ∈ nextsOf g e) : roadIs g f = true := outs_road (List.mem_filter.1 h).1
theorem nexts_len {g : Graph} (hg : GOk g) (e : Int) : (nextsOf g e).length ≤ 8000 := Nat.le_trans (List.length_filter_le _ _) (Nat.le_trans (outs_len g _ _) hg.n2)
theorem filter_take_succ {α : Type} {d : α} {p : α → Bool} {l : List α} {i : Nat} (h : i < l.length) : (l.take (i + 1)).filter p = if p (l.getD i d) = true then (l.take i).filter p ++ [l.getD i d] else (l.take i).filter p := by
  rw [List.take_add_one, List.filter_append, List.getD_eq_getElem?_getD, List.getElem?_eq_getElem h]
  by_cases hp : p l[i] = true
  · simp [hp]
  · simp [hp]
theorem e163 {g : Graph} (hg : GOk g) (k : Nat) (hk : 1048576 < k) {t : List (List Int)} (h1 : t.length = g.1.length) (h2 : ∀ p, p < g.1.length → t.getD p [] = outs g g.2.1.length p) {e : Int} (he : roadIs g e = true) : f163 k g t e = some (nextsOf g e) := by
  obtain ⟨_, r2⟩ := road_ends hg he
  have be := roadIs_iff.1 he
  have hn := hg.n2
  unfold f163
  simp only [foldR]
  rw [if_t be, if_t (by rw [h1]; exact r2)]
  have hT : t.getD (roadAt g e).2.1.toNat [] = outs g g.2.1.length (roadAt g e).2.1.toNat := h2 _ (by omega)
  have hl := outs_len g g.2.1.length (roadAt g e).2.1.toNat
  obtain ⟨s', hs, hq⟩ := foldLoop (L := f163.l46 k t g e) (n := (outs g g.2.1.length (roadAt g e).2.1.toNat).length) (fin := fun s => some s)
    (Inv := fun i s => s = ((outs g g.2.1.length (roadAt g e).2.1.toNat).take i).filter fun f => !banned g e f)
    (g := fun i s => if (!banned g e ((outs g g.2.1.length (roadAt g e).2.1.toNat).getD i 0)) = true then s ++ [(outs g g.2.1.length (roadAt g e).2.1.toNat).getD i 0] else s)
    (fun m i s hi hs => by
      refine ⟨by rw [hs, filter_take_succ (d := (0 : Int)) hi], ?_⟩
      rw [f163.l46]
      simp only [foldR, hT]
      generalize outs g g.2.1.length (roadAt g e).2.1.toNat = O at *
      have hb : (0 : Int) ≤ (i : Int) ∧ (i : Int) < (O.length : Int) := ⟨by omega, by omega⟩
      have hc : decide ((i : Int) < (O.length : Int)) = true := by simpa using hi
      simp only [if_t hc, if_t hb, Int.toNat_natCast, e218 hg k hk, Option.bind_some]
      have hsl : s.length ≤ 8000 := by
        rw [hs]
        refine Nat.le_trans (List.length_filter_le _ _) (Nat.le_trans (List.length_take_le _ _) ?_)
        omega
      by_cases hbn : (!banned g e (O.getD i 0)) = true
      · have c1 : (s.length + [O.getD i 0].length) * 8 ≤ 140737488355328 := by simp only [List.length_singleton]; omega
        simp only [if_pos hbn, if_t c1]
        unfold f163.j85
        rw [wrap_s (by omega)]
      · simp only [if_neg hbn]
        unfold f163.j85
        rw [wrap_s (by omega)])
    (fun m s hs => by
      rw [f163.l46]
      simp only [foldR, hT]
      rw [if_f (by simp)])
    k 0 [] (by simp) (Nat.zero_le _) (by omega)
  rw [List.take_length] at hs
  rw [show ((0 : Nat) : Int) = (0 : Int) from rfl] at hq
  rw [hq, hs]; rfl
theorem e173 {g : Graph} (hg : GOk g) (k : Nat) (hk : 1048576 < k) {t : Net} (ht : NetOf g t) {e : Int} (he : roadIs g e = true) : f173 k t e = some (nextsOf g e) := by
  obtain ⟨_, r2⟩ := road_ends hg he
  have be := roadIs_iff.1 he
  have hn := hg.n2
  obtain ⟨h1, h2⟩ := ht.out
  obtain ⟨v, hv1, hv2⟩ := ht.ban
  obtain ⟨g', o, ii, mm⟩ := t
  obtain rfl : g' = g := ht.fst
  simp only at hv1 h1 h2
  subst hv1
  unfold f173
  simp only [foldR]
  rw [if_t be, if_t (by rw [h1]; exact r2)]
  have hT : o.getD (roadAt g' e).2.1.toNat [] = outs g' g'.2.1.length (roadAt g' e).2.1.toNat := h2 _ (by omega)
  have hl := outs_len g' g'.2.1.length (roadAt g' e).2.1.toNat
  obtain ⟨s', hs, hq⟩ := foldLoop (L := f173.l28 k (g', o, ii, some v) e) (n := (outs g' g'.2.1.length (roadAt g' e).2.1.toNat).length) (fin := fun s => some s)
    (Inv := fun i s => s = ((outs g' g'.2.1.length (roadAt g' e).2.1.toNat).take i).filter fun f => !banned g' e f)
    (g := fun i s => if (!banned g' e ((outs g' g'.2.1.length (roadAt g' e).2.1.toNat).getD i 0)) = true then s ++ [(outs g' g'.2.1.length (roadAt g' e).2.1.toNat).getD i 0] else s)
    (fun m i s hi hs => by
      refine ⟨by rw [hs, filter_take_succ (d := (0 : Int)) hi], ?_⟩
      rw [f173.l28]
      simp only [foldR, hT]
      generalize outs g' g'.2.1.length (roadAt g' e).2.1.toNat = O at *
      have hb : (0 : Int) ≤ (i : Int) ∧ (i : Int) < (O.length : Int) := ⟨by omega, by omega⟩
      have hc : decide ((i : Int) < (O.length : Int)) = true := by simpa using hi
      simp only [if_t hc, if_t hb, Int.toNat_natCast, hv2]
      have hsl : s.length ≤ 8000 := by
        rw [hs]
        refine Nat.le_trans (List.length_filter_le _ _) (Nat.le_trans (List.length_take_le _ _) ?_)
        omega
      by_cases hbn : (!banned g' e (O.getD i 0)) = true
      · have c1 : (s.length + [O.getD i 0].length) * 8 ≤ 140737488355328 := by simp only [List.length_singleton]; omega
        simp only [if_pos hbn, if_t c1]
        unfold f173.j52
        rw [wrap_s (by omega)]
      · simp only [if_neg hbn]
        unfold f173.j52
        rw [wrap_s (by omega)])
    (fun m s hs => by
      rw [f173.l28]
      simp only [foldR, hT]
      rw [if_f (by simp)])
    k 0 [] (by simp) (Nat.zero_le _) (by omega)
  rw [List.take_length] at hs
  rw [show ((0 : Nat) : Int) = (0 : Int) from rfl] at hq
  rw [hq, hs]; rfl
def windA (g : Graph) (e f : Int) : Int := if (roadAt g f).2.1 = (roadAt g e).1 then 8 else if windOf g e f < 0 then 0 else windOf g e f
theorem windOf_range (g : Graph) (e f : Int) : -1 ≤ windOf g e f ∧ windOf g e f ≤ 7 := by
  unfold windOf; split <;> omega
theorem windA_range (g : Graph) (e f : Int) : 0 ≤ windA g e f ∧ windA g e f ≤ 8 := by
  have := windOf_range g e f
  unfold windA; split
  · omega
  · split <;> omega
theorem e164 {g : Graph} (hg : GOk g) (k : Nat) {e f : Int} (he : roadIs g e = true) (hf : roadIs g f = true) : f164 k g e f = some (windA g e f) := by
  have re := road_ends hg he
  have rf := road_ends hg hf
  rw [roadIs_iff] at he hf
  unfold f164 windA
  simp only [foldR, foldS]
  rw [if_t he, if_t hf]
  by_cases hr : (roadAt g f).2.1 = (roadAt g e).1
  · simp [hr]
  · rw [if_neg hr, if_f (by simpa using hr), if_t re.1, if_t re.2, e219, Option.bind_some, if_t rf.1, if_t rf.2, e219, Option.bind_some]
    have r1 : -1 ≤ headOf g e ∧ headOf g e ≤ 7 := headB_range _ _
    have r2 : -1 ≤ headOf g f ∧ headOf g f ≤ 7 := headB_range _ _
    simp only [foldH]
    unfold windOf
    generalize headOf g e = x at *
    generalize headOf g f = y at *
    by_cases hx : x < 0
    · simp [hx]
    · by_cases hy : y < 0
      · simp [hy]
      · have hW : (if x < 0 ∨ y < 0 then (-1 : Int) else (y - x + 8) % 8) = (y - x + 8) % 8 := if_neg (by omega)
        rw [hW, if_f (by simp [hx, hy]), if_t (by decide)]
        rw [wrap_id (n := y - x) (by omega) (by omega), wrap_id (n := y - x + 8) (by omega) (by omega), mod8 (by omega), if_neg (by omega)]
theorem e172 {g : Graph} (hg : GOk g) (k : Nat) {t : Net} (ht : NetOf g t) {e f : Int} (he : roadIs g e = true) (hf : roadIs g f = true) : f172 k t e f = some (windA g e f) := by
  have e221' := e221 hg k ht he hf
  rw [roadIs_iff] at he hf
  obtain ⟨g', t2⟩ := t
  obtain rfl : g' = g := ht.fst
  unfold f172 windA
  simp only [foldR]
  rw [if_t hf, if_t he, e221', Option.bind_some]
  by_cases hr : (roadAt g' f).2.1 = (roadAt g' e).1
  · simp [hr]
  · rw [if_neg hr, if_f (by simpa using hr)]
    by_cases hw : windOf g' e f < 0
    · simp [hw]
    · simp [hw]
end Go.Proofs.Ytchbpdnaodicaaa
