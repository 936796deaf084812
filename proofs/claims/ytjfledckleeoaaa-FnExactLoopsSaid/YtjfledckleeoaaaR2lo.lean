/-
  Loops: the specification's row of places and the program's map answer alike. No condition.
-/
import Derived.Test.YtjfledckleeoaaaR2elib
set_option linter.unusedVariables false
set_option linter.unusedSimpArgs false
namespace Go.Proofs.Ytjfledckleeoaaa
open Go Go.Vm Go.Proofs V

def roadsOk (g : Graph) (l : List Int) : Bool := allTo (fun i => roadIs g (l.getD i 0)) l.length
theorem roadsOk_iff {g : Graph} {l : List Int} : roadsOk g l = true ↔ ∀ i, i < l.length → roadIs g (l.getD i 0) = true := allTo_iff

theorem e58 (k : Nat) (hk : 1048576 < k) (g : Graph) (l : List Int) (hl : l.length ≤ 1048576) : f58 k g l = some (roadsOk g l) := by
  have := allLoop (L := f58.l24 k l g) (n := l.length) (p := fun i => roadIs g (l.getD i 0)) (fin := some true) (fun m i hi => by
    have hb : (0 : Int) ≤ (i : Int) ∧ (i : Int) < (l.length : Int) := ⟨by omega, by omega⟩
    have hc : decide ((i : Int) < (l.length : Int)) = true := by simpa using hi
    rw [f58.l24, if_t hc, if_t hb, e75, Option.bind_some, wrap_s (by omega), Int.toNat_natCast]
    cases roadIs g (l.getD i 0) <;> simp) (fun m => by rw [f58.l24, if_f (by simp)]) (k := k) (by omega)
  unfold f58 roadsOk
  rw [this]
  cases allTo (fun i => roadIs g (l.getD i 0)) l.length <;> rfl

/-- The places that are marked, in the row and in the map. -/
def Been (g : Graph) (b : List Bool) (v : List (Int × Bool)) : Prop := b.length = g.1.length ∧ ∀ p : Nat, p < g.1.length → b.getD p false = mget (Sh.beq (.int .i64)) (some v) (p : Int) false
theorem Been.set {g : Graph} {b : List Bool} {v : List (Int × Bool)} (h : Been g b v) {q : Int} (h0 : 0 ≤ q) (h1 : q < (g.1.length : Int)) : Been g (b.set q.toNat true) (mput (Sh.beq (.int .i64)) q true v) := by
  refine ⟨by rw [List.length_set]; exact h.1, fun p hp => ?_⟩
  rw [mget_put (beq_int .i64), List.getD_eq_getElem?_getD, List.getElem?_set]
  by_cases hx : q.toNat = p
  · have : Sh.beq (.int .i64) (p : Int) q = true := (beq_int .i64 _ _).2 (by omega)
    rw [if_pos hx, if_pos (by rw [h.1]; omega), this]; rfl
  · have : Sh.beq (.int .i64) (p : Int) q = false := by
      cases hb : Sh.beq (.int .i64) (p : Int) q with
      | false => rfl
      | true => have := (beq_int .i64 _ _).1 hb; omega
    rw [if_neg hx, this, cond_false, ← List.getD_eq_getElem?_getD, h.2 p hp]

theorem loops_step {g : Graph} (hg : GOk g) (k : Nat) (o ii : List (List Int)) (mm : Option (List ((Int × Int) × Bool))) (l : List Int) (hl : l.length ≤ 1048576) (hr : roadsOk g l = true) (m i : Nat) (hi : i < l.length)
    (ih : ∀ b v, Been g b v → ∃ x, f59.l82 k l g m (b, ((i + 1 : Nat) : Int)) = some x ∧ f66.l22 k l (g, o, ii, mm) m (v, ((i + 1 : Nat) : Int)) = some x) (b : List Bool) (v : List (Int × Bool)) (h : Been g b v) :
    ∃ x, f59.j155 k (i : Int) l g (f59.l82 k l g m) b = some x ∧ f66.l22 k l (g, o, ii, mm) (m + 1) (v, (i : Int)) = some x := by
  have hrd := roadsOk_iff.1 hr i hi
  have br := roadIs_iff.1 hrd
  obtain ⟨_, r2⟩ := road_ends hg hrd
  have hb : (0 : Int) ≤ (i : Int) ∧ (i : Int) < (l.length : Int) := ⟨by omega, by omega⟩
  have hc : decide ((i : Int) < (l.length : Int)) = true := by simpa using hi
  rw [f66.l22]
  unfold f59.j155
  simp only [foldR, Int.toNat_natCast]
  generalize l.getD i (0 : Int) = r at *
  have bT : 0 ≤ (roadAt g r).2.1 ∧ (roadAt g r).2.1 < (b.length : Int) := by rw [h.1]; exact r2
  simp only [if_t hc, if_t hb, if_t br, if_t bT]
  rw [wrap_s (by omega)]
  have he := h.2 (roadAt g r).2.1.toNat (by omega)
  rw [show (((roadAt g r).2.1.toNat : Nat) : Int) = (roadAt g r).2.1 by omega] at he
  rw [he]
  cases hm : mget (Sh.beq (.int .i64)) (some v) (roadAt g r).2.1 false with
  | true => exact ⟨true, by simp, by simp⟩
  | false =>
    rw [if_f (by simp), if_f (by simp)]
    exact ih _ _ (h.set r2.1 r2.2)

theorem loops_same {g : Graph} (hg : GOk g) (k : Nat) (o ii : List (List Int)) (mm : Option (List ((Int × Int) × Bool))) (l : List Int) (hl : l.length ≤ 1048576) (hr : roadsOk g l = true) : ∀ (m i : Nat), 0 < i → i ≤ l.length → l.length - i < m → ∀ b v, Been g b v →
    ∃ x, f59.l82 k l g m (b, (i : Int)) = some x ∧ f66.l22 k l (g, o, ii, mm) m (v, (i : Int)) = some x
  | 0, i, _, _, h, _, _, _ => by omega
  | m + 1, i, h0, hi, h, b, v, hB => by
    by_cases hlt : i < l.length
    · have hc : decide ((i : Int) < (l.length : Int)) = true := by simpa using hlt
      have hz : ¬ (((i : Int) == 0) = true) := by simp; omega
      rw [f59.l82, if_t hc, if_f hz]
      exact loops_step hg k o ii mm l hl hr m i hlt (fun b v hbv => loops_same hg k o ii mm l hl hr m (i + 1) (by omega) (by omega) (by omega) b v hbv) b v hB
    · obtain rfl : i = l.length := by omega
      rw [f59.l82, f66.l22, if_f (by simp), if_f (by simp)]
      exact ⟨false, rfl, rfl⟩

theorem same_l {g : Graph} (hg : GOk g) (k : Nat) (hk : 1048576 < k) {t : Net} (ht : NetOf g t) (l : List Int) (hl : l.length ≤ 1048576) (hr : roadsOk g l = true) : ∃ x, f59 k g l = some x ∧ f66 k t l = some x := by
  have h1 := hg.n1
  have c : (0 : Int) ≤ (g.1.length : Int) ∧ Int.toNat (g.1.length : Int) * 1 ≤ 140737488355328 := ⟨by omega, by rw [Int.toNat_natCast]; omega⟩
  obtain ⟨g', o, ii, mm⟩ := t
  obtain rfl : g' = g := ht.fst
  obtain ⟨m, rfl⟩ : ∃ m, k = m + 1 := ⟨k - 1, by omega⟩
  unfold f59 f66
  rw [if_t c, f59.l82, Int.toNat_natCast]
  simp only [foldR]
  by_cases hn : l.length = 0
  · have hc : ¬ (decide (((0 : Int)) < (l.length : Int)) = true) := by rw [hn]; simp
    have hz : (((l.length : Int)) == (0 : Int)) = true := by rw [hn]; rfl
    simp only [if_f hc, if_t hz]
    exact ⟨false, rfl, rfl⟩
  · have hc : decide (((0 : Int)) < (l.length : Int)) = true := by simp; omega
    have hz : ¬ ((((l.length : Int)) == (0 : Int)) = true) := by simpa using hn
    have hb : (0 : Int) ≤ 0 ∧ (0 : Int) < (l.length : Int) := ⟨by omega, by omega⟩
    have hrd := roadsOk_iff.1 hr 0 (by omega)
    have br := roadIs_iff.1 hrd
    obtain ⟨r1, _⟩ := road_ends hg hrd
    have e0 : Int.toNat (0 : Int) = 0 := rfl
    simp only [e0, if_t hc, if_f hz, if_t hb, if_t br, List.length_replicate, if_t r1, beq_self_eq_true, if_true]
    have hB : Been g' ((List.replicate g'.1.length false).set (roadAt g' (l.getD 0 0)).1.toNat true) (mput (Sh.beq (.int .i64)) (roadAt g' (l.getD 0 0)).1 true []) := by
      refine Been.set ⟨by simp, fun p hp => ?_⟩ r1.1 r1.2
      rw [mget_nil, List.getD_eq_getElem?_getD, List.getElem?_replicate]
      simp [hp]
    exact loops_step hg (m + 1) o ii mm l hl hr m 0 (by omega) (fun b v hbv => loops_same hg (m + 1) o ii mm l hl hr m 1 (by omega) (by omega) (by omega) b v hbv) _ _ hB

theorem same_loops (k : Nat) (hk : 1048576 < k) (g : Graph) (h1 : g.1.length ≤ 1048576) (h2 : g.2.1.length ≤ 1048576) (h3 : g.2.2.length ≤ 1048576) (l : List Int) (hl : l.length ≤ 1048576) : ∃ x, f16 k g l = some x ∧ f19 k g l = some x := by
  unfold f16 f19
  rw [spec57 k hk g h1 h2 h3, impl63 k hk g h1 h2 h3]
  simp only [Option.bind_some, e58 k hk g l hl]
  cases hg : graphOk g with
  | false => exact ⟨false, by simp, by simp⟩
  | true =>
    obtain ⟨t, ht, hn⟩ := e64 (gok hg) k hk
    have hne : ¬ ((!true) = true) := by simp
    have hL := allLoop (L := f19.l26 k l t) (n := l.length) (p := fun i => roadIs g (l.getD i 0)) (fin := f66 k t l) (fun m i hi => by
      have hb : (0 : Int) ≤ (i : Int) ∧ (i : Int) < (l.length : Int) := ⟨by omega, by omega⟩
      have hc : decide ((i : Int) < (l.length : Int)) = true := by simpa using hi
      rw [f19.l26, if_t hc, if_t hb, e65 k hn, Option.bind_some, wrap_s (by omega), Int.toNat_natCast]
      cases roadIs g (l.getD i 0) <;> simp) (fun m => by rw [f19.l26, if_f (by simp)]; cases f66 k t l <;> rfl) (k := k) (by omega)
    simp only [if_f hne, ht, Option.bind_some, hL]
    change ∃ x, _ ∧ (bif roadsOk g l then _ else _) = _
    cases hr : roadsOk g l with
    | false => exact ⟨false, by simp, by simp⟩
    | true =>
      obtain ⟨x, q1, q2⟩ := same_l (gok hg) k hk hn l hl hr
      exact ⟨x, by simp [q1], by simp [q2]⟩
end Go.Proofs.Ytjfledckleeoaaa
