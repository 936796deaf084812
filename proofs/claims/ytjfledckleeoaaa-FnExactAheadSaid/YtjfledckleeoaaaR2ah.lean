/-
  Ahead: the roads that may follow and the one that is ahead, alike in the specification and the program. No condition.
-/
import Derived.Test.YtjfledckleeoaaaR2cht
set_option linter.unusedVariables false
set_option linter.unusedSimpArgs false
namespace Go.Proofs.Ytjfledckleeoaaa
open Go Go.Vm Go.Proofs V

theorem at_loop {g : Graph} (hg : GOk g) (k : Nat) (b : Bool) : ∀ (m q : Nat) (o : List (List Int)), q ≤ g.2.1.length → g.2.1.length - q < m →
    (o.length = g.1.length ∧ ∀ p, p < g.1.length → o.getD p [] = (bif b then inns g q p else outs g q p)) →
    ∃ t, f79.l58 k g b m (o, (q : Int)) = some t ∧ t.length = g.1.length ∧ ∀ p, p < g.1.length → t.getD p [] = (bif b then inns g g.2.1.length p else outs g g.2.1.length p)
  | 0, q, o, _, h, _ => by omega
  | m + 1, q, o, hq, h, ho => by
    have hn := hg.n2
    rw [f79.l58]
    by_cases hlt : q < g.2.1.length
    · have hr : roadIs g (q : Int) = true := roadIs_iff.2 ⟨by omega, by omega⟩
      obtain ⟨r1, r2⟩ := road_ends hg hr
      have e0 : roadAt g (q : Int) = g.2.1.getD q dR := by unfold roadAt; rw [Int.toNat_natCast]
      have hb : (0 : Int) ≤ (q : Int) ∧ (q : Int) < (g.2.1.length : Int) := ⟨by omega, by omega⟩
      have hc : decide ((q : Int) < (g.2.1.length : Int)) = true := by simpa using hlt
      have step : ∀ P : Int, 0 ≤ P ∧ P < (g.1.length : Int) → (∀ p : Nat, (P = (p : Int) → (bif b then inns g (q + 1) p else outs g (q + 1) p) = (bif b then inns g q p else outs g q p) ++ [(q : Int)]) ∧ (P ≠ (p : Int) → (bif b then inns g (q + 1) p else outs g (q + 1) p) = (bif b then inns g q p else outs g q p))) →
          ∃ t, f79.j109 k o (q : Int) (f79.l58 k g b m) P = some t ∧ t.length = g.1.length ∧ ∀ p, p < g.1.length → t.getD p [] = (bif b then inns g g.2.1.length p else outs g g.2.1.length p) := fun P hP hQ => by
        unfold f79.j109
        have b1 : 0 ≤ P ∧ P < (o.length : Int) := by rw [ho.1]; exact hP
        have l1 : (o.getD P.toNat []).length ≤ q := by
          rw [ho.2 _ (by omega)]
          cases b
          · exact outs_len g q _
          · exact inns_len g q _
        have c1 : ((o.getD P.toNat []).length + [(q : Int)].length) * 8 ≤ 140737488355328 := by
          simp only [List.length_singleton]; omega
        rw [if_t b1, if_t c1, if_t b1, wrap_s (by omega)]
        refine at_loop hg k b m (q + 1) _ (by omega) (by omega) ⟨by rw [List.length_set]; exact ho.1, fun p hp => ?_⟩
        rw [List.getD_eq_getElem?_getD, List.getElem?_set]
        by_cases hx : P = (p : Int)
        · have : P.toNat = p := by omega
          rw [(hQ p).1 hx, if_pos this, if_pos (by rw [ho.1]; omega), Option.getD_some, this, ho.2 p hp]; rfl
        · have : ¬ P.toNat = p := by omega
          rw [(hQ p).2 hx, if_neg this, ← List.getD_eq_getElem?_getD, ho.2 p hp]
      rw [e0] at r1 r2
      simp only [if_t hc, if_t hb, Int.toNat_natCast]
      cases b with
      | true =>
        rw [if_t rfl]
        refine step _ r2 (fun p => ⟨fun hx => ?_, fun hx => ?_⟩)
        · simp only [cond_true, inns_succ]; rw [if_pos hx]
        · simp only [cond_true, inns_succ]; rw [if_neg hx]
      | false =>
        rw [if_f (by simp)]
        refine step _ r1 (fun p => ⟨fun hx => ?_, fun hx => ?_⟩)
        · simp only [cond_false, outs_succ]; rw [if_pos hx]
        · simp only [cond_false, outs_succ]; rw [if_neg hx]
    · obtain rfl : q = g.2.1.length := by omega
      rw [if_f (by simp)]
      exact ⟨o, rfl, ho⟩

theorem e79 {g : Graph} (hg : GOk g) (k : Nat) (hk : 1048576 < k) (b : Bool) : ∃ t, f79 k g b = some t ∧ t.length = g.1.length ∧ ∀ p, p < g.1.length → t.getD p [] = (bif b then inns g g.2.1.length p else outs g g.2.1.length p) := by
  have h1 := hg.n1
  have h2 := hg.n2
  have c : (0 : Int) ≤ (g.1.length : Int) ∧ Int.toNat (g.1.length : Int) * 24 ≤ 140737488355328 := ⟨by omega, by rw [Int.toNat_natCast]; omega⟩
  unfold f79
  rw [if_t c, Int.toNat_natCast]
  refine at_loop hg k b k 0 _ (Nat.zero_le _) (by omega) ⟨by simp, fun p hp => ?_⟩
  rw [List.getD_eq_getElem?_getD, List.getElem?_replicate]
  cases b <;> simp [hp, outs, inns]

def nextsOf (g : Graph) (e : Int) : List Int := (outs g g.2.1.length (roadAt g e).2.1.toNat).filter fun f => !banned g e f
theorem outs_road {g : Graph} {p : Nat} {f : Int} (h : f ∈ outs g g.2.1.length p) : roadIs g f = true := by
  unfold outs at h
  obtain ⟨r, hr, rfl⟩ := List.mem_map.1 h
  have := List.mem_range.1 (List.mem_filter.1 hr).1
  exact roadIs_iff.2 ⟨by omega, by omega⟩
theorem nexts_road {g : Graph} {e f : Int} (h : f ∈ nextsOf g e) : roadIs g f = true := outs_road (List.mem_filter.1 h).1
theorem nexts_len {g : Graph} (hg : GOk g) (e : Int) : (nextsOf g e).length ≤ 8000 := Nat.le_trans (List.length_filter_le _ _) (Nat.le_trans (outs_len g _ _) hg.n2)

theorem filter_take_succ {α : Type} {d : α} {p : α → Bool} {l : List α} {i : Nat} (h : i < l.length) : (l.take (i + 1)).filter p = if p (l.getD i d) = true then (l.take i).filter p ++ [l.getD i d] else (l.take i).filter p := by
  rw [List.take_add_one, List.filter_append, List.getD_eq_getElem?_getD, List.getElem?_eq_getElem h]
  by_cases hp : p l[i] = true
  · simp [hp]
  · simp [hp]

theorem e116 {g : Graph} (hg : GOk g) (k : Nat) (hk : 1048576 < k) {t : List (List Int)} (h1 : t.length = g.1.length) (h2 : ∀ p, p < g.1.length → t.getD p [] = outs g g.2.1.length p) {e : Int} (he : roadIs g e = true) : f116 k g t e = some (nextsOf g e) := by
  obtain ⟨_, r2⟩ := road_ends hg he
  have be := roadIs_iff.1 he
  have hn := hg.n2
  unfold f116
  simp only [foldR]
  rw [if_t be, if_t (by rw [h1]; exact r2)]
  have hT : t.getD (roadAt g e).2.1.toNat [] = outs g g.2.1.length (roadAt g e).2.1.toNat := h2 _ (by omega)
  have hl := outs_len g g.2.1.length (roadAt g e).2.1.toNat
  obtain ⟨s', hs, hq⟩ := foldLoop (L := f116.l46 k t g e) (n := (outs g g.2.1.length (roadAt g e).2.1.toNat).length) (fin := fun s => some s)
    (Inv := fun i s => s = ((outs g g.2.1.length (roadAt g e).2.1.toNat).take i).filter fun f => !banned g e f)
    (g := fun i s => if (!banned g e ((outs g g.2.1.length (roadAt g e).2.1.toNat).getD i 0)) = true then s ++ [(outs g g.2.1.length (roadAt g e).2.1.toNat).getD i 0] else s)
    (fun m i s hi hs => by
      refine ⟨by rw [hs, filter_take_succ (d := (0 : Int)) hi], ?_⟩
      rw [f116.l46]
      simp only [foldR, hT]
      generalize outs g g.2.1.length (roadAt g e).2.1.toNat = O at *
      have hb : (0 : Int) ≤ (i : Int) ∧ (i : Int) < (O.length : Int) := ⟨by omega, by omega⟩
      have hc : decide ((i : Int) < (O.length : Int)) = true := by simpa using hi
      simp only [if_t hc, if_t hb, Int.toNat_natCast, e71 hg k hk, Option.bind_some]
      have hsl : s.length ≤ 8000 := by
        rw [hs]
        refine Nat.le_trans (List.length_filter_le _ _) (Nat.le_trans (List.length_take_le _ _) ?_)
        omega
      by_cases hbn : (!banned g e (O.getD i 0)) = true
      · have c1 : (s.length + [O.getD i 0].length) * 8 ≤ 140737488355328 := by simp only [List.length_singleton]; omega
        simp only [if_pos hbn, if_t c1]
        unfold f116.j85
        rw [wrap_s (by omega)]
      · simp only [if_neg hbn]
        unfold f116.j85
        rw [wrap_s (by omega)])
    (fun m s hs => by
      rw [f116.l46]
      simp only [foldR, hT]
      rw [if_f (by simp)])
    k 0 [] (by simp) (Nat.zero_le _) (by omega)
  rw [List.take_length] at hs
  rw [show ((0 : Nat) : Int) = (0 : Int) from rfl] at hq
  rw [hq, hs]; rfl

theorem e118 {g : Graph} (hg : GOk g) (k : Nat) (hk : 1048576 < k) {t : Net} (ht : NetOf g t) {e : Int} (he : roadIs g e = true) : f118 k t e = some (nextsOf g e) := by
  obtain ⟨_, r2⟩ := road_ends hg he
  have be := roadIs_iff.1 he
  have hn := hg.n2
  obtain ⟨h1, h2⟩ := ht.out
  obtain ⟨v, hv1, hv2⟩ := ht.ban
  obtain ⟨g', o, ii, mm⟩ := t
  obtain rfl : g' = g := ht.fst
  simp only at hv1 h1 h2
  subst hv1
  unfold f118
  simp only [foldR]
  rw [if_t be, if_t (by rw [h1]; exact r2)]
  have hT : o.getD (roadAt g' e).2.1.toNat [] = outs g' g'.2.1.length (roadAt g' e).2.1.toNat := h2 _ (by omega)
  have hl := outs_len g' g'.2.1.length (roadAt g' e).2.1.toNat
  obtain ⟨s', hs, hq⟩ := foldLoop (L := f118.l28 k (g', o, ii, some v) e) (n := (outs g' g'.2.1.length (roadAt g' e).2.1.toNat).length) (fin := fun s => some s)
    (Inv := fun i s => s = ((outs g' g'.2.1.length (roadAt g' e).2.1.toNat).take i).filter fun f => !banned g' e f)
    (g := fun i s => if (!banned g' e ((outs g' g'.2.1.length (roadAt g' e).2.1.toNat).getD i 0)) = true then s ++ [(outs g' g'.2.1.length (roadAt g' e).2.1.toNat).getD i 0] else s)
    (fun m i s hi hs => by
      refine ⟨by rw [hs, filter_take_succ (d := (0 : Int)) hi], ?_⟩
      rw [f118.l28]
      simp only [foldR, hT]
      generalize outs g' g'.2.1.length (roadAt g' e).2.1.toNat = O at *
      have hb : (0 : Int) ≤ (i : Int) ∧ (i : Int) < (O.length : Int) := ⟨by omega, by omega⟩
      have hc : decide ((i : Int) < (O.length : Int)) = true := by simpa using hi
      simp only [if_t hc, if_t hb, Int.toNat_natCast, hv2]
      have hsl : s.length ≤ 8000 := by
        rw [hs]
        refine Nat.le_trans (List.length_filter_le _ _) (Nat.le_trans (List.length_take_le _ _) ?_)
        omega
      by_cases hbn : (!banned g' e (O.getD i 0)) = true
      · have c1 : (s.length + [O.getD i 0].length) * 8 ≤ 140737488355328 := by simp only [List.length_singleton]; omega
        simp only [if_pos hbn, if_t c1]
        unfold f118.j52
        rw [wrap_s (by omega)]
      · simp only [if_neg hbn]
        unfold f118.j52
        rw [wrap_s (by omega)])
    (fun m s hs => by
      rw [f118.l28]
      simp only [foldR, hT]
      rw [if_f (by simp)])
    k 0 [] (by simp) (Nat.zero_le _) (by omega)
  rw [List.take_length] at hs
  rw [show ((0 : Nat) : Int) = (0 : Int) from rfl] at hq
  rw [hq, hs]; rfl

def windA (g : Graph) (e f : Int) : Int := if (roadAt g f).2.1 = (roadAt g e).1 then 8 else if windOf g e f < 0 then 0 else windOf g e f
theorem windOf_range (g : Graph) (e f : Int) : -1 ≤ windOf g e f ∧ windOf g e f ≤ 7 := by
  unfold windOf; split <;> omega
theorem windA_range (g : Graph) (e f : Int) : 0 ≤ windA g e f ∧ windA g e f ≤ 8 := by
  have := windOf_range g e f
  unfold windA; split
  · omega
  · split <;> omega

theorem e117 {g : Graph} (hg : GOk g) (k : Nat) {e f : Int} (he : roadIs g e = true) (hf : roadIs g f = true) : f117 k g e f = some (windA g e f) := by
  have re := road_ends hg he
  have rf := road_ends hg hf
  rw [roadIs_iff] at he hf
  unfold f117 windA
  simp only [foldR, foldS]
  rw [if_t he, if_t hf]
  by_cases hr : (roadAt g f).2.1 = (roadAt g e).1
  · simp [hr]
  · rw [if_neg hr, if_f (by simpa using hr), if_t re.1, if_t re.2, e114, Option.bind_some, if_t rf.1, if_t rf.2, e114, Option.bind_some]
    have r1 : -1 ≤ headOf g e ∧ headOf g e ≤ 7 := headB_range _ _
    have r2 : -1 ≤ headOf g f ∧ headOf g f ≤ 7 := headB_range _ _
    simp only [foldH]
    unfold windOf
    generalize headOf g e = x at *
    generalize headOf g f = y at *
    by_cases hx : x < 0
    · simp [hx]
    · by_cases hy : y < 0
      · simp [hy]
      · have hW : (if x < 0 ∨ y < 0 then (-1 : Int) else (y - x + 8) % 8) = (y - x + 8) % 8 := if_neg (by omega)
        rw [hW, if_f (by simp [hx, hy]), if_t (by decide)]
        rw [wrap_id (n := y - x) (by omega) (by omega), wrap_id (n := y - x + 8) (by omega) (by omega), mod8 (by omega), if_neg (by omega)]

theorem e119 {g : Graph} (hg : GOk g) (k : Nat) {t : Net} (ht : NetOf g t) {e f : Int} (he : roadIs g e = true) (hf : roadIs g f = true) : f119 k t e f = some (windA g e f) := by
  have e115' := e115 hg k ht he hf
  rw [roadIs_iff] at he hf
  obtain ⟨g', t2⟩ := t
  obtain rfl : g' = g := ht.fst
  unfold f119 windA
  simp only [foldR]
  rw [if_t hf, if_t he, e115', Option.bind_some]
  by_cases hr : (roadAt g' f).2.1 = (roadAt g' e).1
  · simp [hr]
  · rw [if_neg hr, if_f (by simpa using hr)]
    by_cases hw : windOf g' e f < 0
    · simp [hw]
    · simp [hw]

theorem ahead_same {g : Graph} (hg : GOk g) (k : Nat) {t : Net} (ht : NetOf g t) {e : Int} (he : roadIs g e = true) (L : List Int) (hL : ∀ f ∈ L, roadIs g f = true) (hn : L.length ≤ 8000) : ∀ (m i : Nat) (a b c d : Int), i ≤ L.length → L.length - i < m →
    (a = -1 ∧ c = 99 ∧ d = -1) ∨ (0 ≤ a ∧ d = a ∧ c = b ∧ b < 99) → ∃ v, f78.l78 k L g e m (a, b, (i : Int)) = some v ∧ f80.l66 k L t e m (c, d, (i : Int)) = some v
  | 0, i, a, b, c, d, _, h, _ => by omega
  | m + 1, i, a, b, c, d, hi, h, hrel => by
    have e119' := fun {f : Int} (hf : roadIs g f = true) => e119 hg k ht he hf
    have ih := ahead_same hg k ht he L hL hn m (i + 1)
    obtain ⟨g', t2⟩ := t
    obtain rfl : g' = g := ht.fst
    have be := roadIs_iff.1 he
    rw [f78.l78, f80.l66]
    simp only [foldR]
    by_cases hlt : i < L.length
    · have hb : (0 : Int) ≤ (i : Int) ∧ (i : Int) < (L.length : Int) := ⟨by omega, by omega⟩
      have hc : decide ((i : Int) < (L.length : Int)) = true := by simpa using hlt
      have hf := hL _ (getD_in (d := (0 : Int)) hlt)
      have bf := roadIs_iff.1 hf
      have e117' := e117 hg k he hf
      have e119'' := e119' hf
      have hwr := windA_range g' e (L.getD i 0)
      simp only [if_t hc, if_t hb, Int.toNat_natCast, if_t be]
      generalize hF : L.getD i (0 : Int) = f at *
      simp only [if_t bf, e117', e119'', Option.bind_some]
      generalize (!(ByteArray.toList (roadAt g' f).2.2.2.2.2 == ByteArray.toList (roadAt g' e).2.2.2.2.2)) = nm
      cases nm with
      | true =>
        simp only [if_true]
        unfold f78.j144 f80.j122
        rw [wrap_s (by omega)]
        exact ih a b c d (by omega) (by omega) hrel
      | false =>
        simp only [Bool.false_eq_true, if_false]
        generalize windA g' e f = w at *
        have hw8 : IntKind.i64.wrap (8 - w) = 8 - w := wrap_id (by omega) (by omega)
        rw [hw8]
        have fin : ∀ x : Int, 0 ≤ x → x ≤ 8 → ∃ v, f78.j147 k a b (i : Int) L (f78.j144 k (i : Int) (f78.l78 k L g' e m)) x = some v ∧ f80.j125 k c L (i : Int) d (f80.j122 k (i : Int) (f80.l66 k L (g', t2) e m)) x = some v := fun x h0 h8 => by
          unfold f78.j147 f80.j125 f78.j144 f80.j122
          simp only [Int.toNat_natCast, hF, if_t hb]
          rw [wrap_s (by omega)]
          rcases hrel with ⟨rfl, rfl, rfl⟩ | ⟨h1, rfl, rfl, h2⟩
          · have c1 : decide (x < 99) = true := by simp; omega
            rw [if_t (by simp), if_t c1]
            exact ih f x x f (by omega) (by omega) (.inr ⟨bf.1, rfl, rfl, by omega⟩)
          · have c0 : decide (d < 0) = false := by simpa using h1
            rw [c0, cond_false]
            by_cases hx : x < c
            · have c1 : decide (x < c) = true := by simpa using hx
              rw [if_t c1, if_t c1]
              exact ih f x x f (by omega) (by omega) (.inr ⟨bf.1, rfl, rfl, by omega⟩)
            · have c1 : ¬ (decide (x < c) = true) := by simpa using hx
              rw [if_f c1, if_f c1]
              exact ih d c c d (by omega) (by omega) (.inr ⟨h1, rfl, rfl, h2⟩)
        by_cases c1 : (bif decide (w < 8) then decide (8 - w < w) else false) = true
        · simp only [if_t c1]
          exact fin _ (by omega) (by omega)
        · simp only [if_f c1]
          exact fin _ (by omega) (by omega)
    · obtain rfl : i = L.length := by omega
      rw [if_f (by simp), if_f (by simp)]
      rcases hrel with ⟨rfl, rfl, rfl⟩ | ⟨h1, rfl, rfl, h2⟩
      · exact ⟨_, rfl, rfl⟩
      · exact ⟨_, rfl, rfl⟩

theorem same_ahead (k : Nat) (hk : 1048576 < k) (g : Graph) (h1 : g.1.length ≤ 1048576) (h2 : g.2.1.length ≤ 1048576) (h3 : g.2.2.length ≤ 1048576) (e : Int) : ∃ v, f31 k g e = some v ∧ f32 k g e = some v := by
  unfold f31 f32
  rw [spec57 k hk g h1 h2 h3, impl63 k hk g h1 h2 h3]
  simp only [Option.bind_some, e75]
  cases hg : graphOk g with
  | false => exact ⟨-1, by simp, by simp⟩
  | true =>
    obtain ⟨t, ht, hn⟩ := e64 (gok hg) k hk
    have hne : ¬ ((!true) = true) := by simp
    simp only [if_f hne, ht, Option.bind_some, e65 k hn]
    cases he : roadIs g e with
    | false => exact ⟨-1, by simp, by simp⟩
    | true =>
      obtain ⟨o, o1, o2, o3⟩ := e79 (gok hg) k hk false
      have hlen := nexts_len (gok hg) e
      obtain ⟨v, q1, q2⟩ := ahead_same (gok hg) k hn he (nextsOf g e) (fun f hf => nexts_road hf) (by omega) k 0 (-1) 0 99 (-1) (Nat.zero_le _) (by omega) (.inl ⟨rfl, rfl, rfl⟩)
      have q1' : f78 k g o e = some v := by
        unfold f78
        rw [e116 (gok hg) k hk o2 o3 he, Option.bind_some]; exact q1
      have q2' : f80 k t e = some v := by
        unfold f80
        rw [e118 (gok hg) k hk hn he, Option.bind_some]; exact q2
      exact ⟨v, by simp [o1, q1'], by simp [q2']⟩
end Go.Proofs.Ytjfledckleeoaaa
