/-
  Common: the specification's row of roads and the program's map answer alike. No condition.
-/
import Derived.Test.YtjfledckleeoaaaR2flib
set_option linter.unusedVariables false
set_option linter.unusedSimpArgs false
namespace Go.Proofs.Ytjfledckleeoaaa
open Go Go.Vm Go.Proofs V

def roadsOk (g : Graph) (l : List Int) : Bool := allTo (fun i => roadIs g (l.getD i 0)) l.length
theorem roadsOk_iff {g : Graph} {l : List Int} : roadsOk g l = true ↔ ∀ i, i < l.length → roadIs g (l.getD i 0) = true := allTo_iff
theorem e58 (k : Nat) (hk : 1048576 < k) (g : Graph) (l : List Int) (hl : l.length ≤ 1048576) : f58 k g l = some (roadsOk g l) := by
  have := allLoop (L := f58.l24 k l g) (n := l.length) (p := fun i => roadIs g (l.getD i 0)) (fin := some true) (fun m i hi => by
    have hb : (0 : Int) ≤ (i : Int) ∧ (i : Int) < (l.length : Int) := ⟨by omega, by omega⟩
    have hc : decide ((i : Int) < (l.length : Int)) = true := by simpa using hi
    rw [f58.l24, if_t hc, if_t hb, e75, Option.bind_some, wrap_s (by omega), Int.toNat_natCast]
    cases roadIs g (l.getD i 0) <;> simp) (fun m => by rw [f58.l24, if_f (by simp)]) (k := k) (by omega)
  unfold f58 roadsOk
  rw [this]
  cases allTo (fun i => roadIs g (l.getD i 0)) l.length <;> rfl

theorem comLoop {σ : Type} {L : Nat → σ × Int × Int → Option Int} {mem : σ → Nat → Bool} {Inv : σ → Prop} {l : List Int} {w : Nat → Int} {n : Nat}
    (hr : ∀ i, i < l.length → 0 ≤ l.getD i 0 ∧ l.getD i 0 < (n : Int)) (hw : ∀ j, j < n → 0 ≤ w j ∧ w j ≤ 1000000)
    (step : ∀ m s (a : Int) i, Inv s → i < l.length → (mem s (l.getD i 0).toNat = true → ∃ s', Inv s' ∧ (∀ j, j < n → mem s' j = (mem s j && decide (j ≠ (l.getD i 0).toNat))) ∧ L (m + 1) (s, a, (i : Int)) = L m (s', IntKind.i64.wrap (a + w (l.getD i 0).toNat), ((i + 1 : Nat) : Int))) ∧
      (mem s (l.getD i 0).toNat = false → L (m + 1) (s, a, (i : Int)) = L m (s, a, ((i + 1 : Nat) : Int))))
    (he : ∀ m s a, L (m + 1) (s, a, (l.length : Int)) = some a) :
    ∀ (m i : Nat) (s : σ) (a : Int), Inv s → i ≤ l.length → l.length - i < m → 0 ≤ a → a + sumTo w (fun j => mem s j && decide ((j : Int) ∈ l.drop i)) n ≤ 4611686018427387904 →
      L m (s, a, (i : Int)) = some (a + sumTo w (fun j => mem s j && decide ((j : Int) ∈ l.drop i)) n)
  | 0, i, s, a, _, _, h, _, _ => by omega
  | m + 1, i, s, a, hI, hi, hm, h0, h1 => by
    by_cases hlt : i < l.length
    · obtain ⟨c1, c2⟩ := step m s a i hI hlt
      obtain ⟨b1, b2⟩ := hr i hlt
      have hd : l.drop i = l.getD i 0 :: l.drop (i + 1) := by
        rw [List.drop_eq_getElem_cons hlt, List.getD_eq_getElem?_getD, List.getElem?_eq_getElem hlt]; rfl
      cases hc : mem s (l.getD i 0).toNat with
      | true =>
        obtain ⟨s', q1, q2, q3⟩ := c1 hc
        have hmem : (mem s (l.getD i 0).toNat && decide (((l.getD i 0).toNat : Int) ∈ l.drop i)) = true := by
          rw [hc, hd, show (((l.getD i 0).toNat : Nat) : Int) = l.getD i 0 by omega]; simp
        have e1 := sumTo_take (w := w) (p := fun j => mem s j && decide ((j : Int) ∈ l.drop i)) (r := (l.getD i 0).toNat) (n := n) (by omega) hmem
        have e2 : sumTo w (fun j => (mem s j && decide ((j : Int) ∈ l.drop i)) && decide (j ≠ (l.getD i 0).toNat)) n = sumTo w (fun j => mem s' j && decide ((j : Int) ∈ l.drop (i + 1))) n := by
          refine sumTo_congr fun j hj => ?_
          rw [q2 j hj, hd]
          by_cases hjr : j = (l.getD i 0).toNat
          · simp [hjr]
          · have : (j : Int) ≠ l.getD i 0 := by omega
            simp only [List.mem_cons, this, false_or, hjr, ne_eq, not_false_eq_true, decide_true, Bool.and_true]
        rw [e2] at e1
        rw [e1] at h1 ⊢
        have hw1 := hw (l.getD i 0).toNat (by omega)
        have hs := (sumTo_bd (w := w) (p := fun j => mem s' j && decide ((j : Int) ∈ l.drop (i + 1))) (c := 1000000) (by decide) (n := n) hw).1
        rw [q3, wrap_in (by omega) (by omega), comLoop hr hw step he m (i + 1) s' _ q1 (by omega) (by omega) (by omega) (by omega)]
        congr 1; omega
      | false =>
        have e2 : sumTo w (fun j => mem s j && decide ((j : Int) ∈ l.drop i)) n = sumTo w (fun j => mem s j && decide ((j : Int) ∈ l.drop (i + 1))) n := by
          refine sumTo_congr fun j hj => ?_
          rw [hd]
          by_cases hjr : j = (l.getD i 0).toNat
          · subst hjr; rw [hc]; rfl
          · have : (j : Int) ≠ l.getD i 0 := by omega
            simp only [List.mem_cons, this, false_or]
        rw [e2] at h1 ⊢
        rw [c2 hc]
        exact comLoop hr hw step he m (i + 1) s a hI (by omega) (by omega) h0 h1
    · obtain rfl : i = l.length := by omega
      rw [he]
      have : sumTo w (fun j => mem s j && decide ((j : Int) ∈ l.drop l.length)) n = 0 := by
        rw [sumTo_congr (q := fun _ => false) (fun j _ => by simp), sumTo_zero]
      rw [this, Int.add_zero]

/-- The sum of the lengths of the roads that are in both lists. -/
def comSum (g : Graph) (a b : List Int) : Int := sumTo (fun r => (g.2.1.getD r dR).2.2.2.1) (fun j => decide ((j : Int) ∈ a) && decide ((j : Int) ∈ b)) g.2.1.length

theorem len_bd {g : Graph} (hg : GOk g) : ∀ j, j < g.2.1.length → 0 ≤ (g.2.1.getD j dR).2.2.2.1 ∧ (g.2.1.getD j dR).2.2.2.1 ≤ 1000000 := fun j hj => by
  have := hg.road j hj
  simp only [okRoad, Bool.and_eq_true, decide_eq_true_eq] at this
  omega
theorem sum_bd {g : Graph} (hg : GOk g) (p : Nat → Bool) : 0 ≤ sumTo (fun r => (g.2.1.getD r dR).2.2.2.1) p g.2.1.length ∧ sumTo (fun r => (g.2.1.getD r dR).2.2.2.1) p g.2.1.length ≤ 8000000000 := by
  have := sumTo_bd (w := fun r => (g.2.1.getD r dR).2.2.2.1) (p := p) (c := 1000000) (by decide) (n := g.2.1.length) (len_bd hg)
  have := hg.n2
  omega

theorem e70 {g : Graph} (hg : GOk g) (k : Nat) (hk : 1048576 < k) (a b : List Int) (ha : a.length ≤ 1048576) (hb : b.length ≤ 1048576) (ra : roadsOk g a = true) (rb : roadsOk g b = true) : f70 k g a b = some (comSum g a b) := by
  have n2 := hg.n2
  have c0 : (0 : Int) ≤ (g.2.1.length : Int) ∧ Int.toNat (g.2.1.length : Int) * 1 ≤ 140737488355328 := ⟨by omega, by rw [Int.toNat_natCast]; omega⟩
  have ra' := roadsOk_iff.1 ra
  have rb' := roadsOk_iff.1 rb
  unfold f70
  rw [if_t c0, Int.toNat_natCast]
  obtain ⟨s, ⟨s1, s2⟩, s3⟩ := foldLoop (L := f70.l22 k b a g) (n := b.length) (g := fun i s => s.set (b.getD i 0).toNat true) (fin := fun s => f70.l101 k a g k (s, (0 : Int), (0 : Int)))
    (Inv := fun i s => s.length = g.2.1.length ∧ ∀ j, j < g.2.1.length → s.getD j false = decide ((j : Int) ∈ b.take i))
    (fun m i s hi ⟨q1, q2⟩ => by
      have h1 := roadIs_iff.1 (rb' i hi)
      have hbd : (0 : Int) ≤ (i : Int) ∧ (i : Int) < (b.length : Int) := ⟨by omega, by omega⟩
      have hc : decide ((i : Int) < (b.length : Int)) = true := by simpa using hi
      have hx : 0 ≤ b.getD i 0 ∧ b.getD i 0 < (s.length : Int) := by rw [q1]; exact h1
      refine ⟨⟨by rw [List.length_set]; exact q1, fun j hj => ?_⟩, ?_⟩
      · by_cases hjr : j = (b.getD i 0).toNat
        · subst hjr
          rw [gd_set_eq (by omega)]
          symm; rw [decide_eq_true_eq, mem_take_succ (d := 0) hi]; right; omega
        · rw [gd_set_ne (fun h => hjr h.symm), q2 j hj]
          congr 1
          rw [mem_take_succ (d := 0) hi, eq_iff_iff]
          exact ⟨fun h => .inl h, fun h => h.resolve_right (by omega)⟩
      · rw [f70.l22, if_t hc]
        simp only [if_t hbd, Int.toNat_natCast]
        rw [if_t hx, wrap_s (by omega)])
    (fun m s _ => by rw [f70.l22, if_f (by simp)]) k 0 (List.replicate g.2.1.length false)
    ⟨by simp, fun j hj => by simp [List.getD_eq_getElem?_getD, List.getElem?_replicate, hj]⟩ (by omega) (by omega)
  rw [List.take_length] at s2
  rw [show ((0 : Nat) : Int) = 0 from rfl] at s3
  rw [s3]
  have := comLoop (σ := List Bool) (L := f70.l101 k a g) (mem := fun s j => s.getD j false) (Inv := fun s => s.length = g.2.1.length) (l := a) (w := fun r => (g.2.1.getD r dR).2.2.2.1) (n := g.2.1.length)
    (fun i hi => roadIs_iff.1 (ra' i hi)) (len_bd hg)
    (fun m s x i hs hi => by
      have h1 := roadIs_iff.1 (ra' i hi)
      have hbd : (0 : Int) ≤ (i : Int) ∧ (i : Int) < (a.length : Int) := ⟨by omega, by omega⟩
      have hc : decide ((i : Int) < (a.length : Int)) = true := by simpa using hi
      have hx : 0 ≤ a.getD i 0 ∧ a.getD i 0 < (s.length : Int) := by rw [hs]; exact h1
      refine ⟨fun hm => ⟨s.set (a.getD i 0).toNat false, by rw [List.length_set]; exact hs, fun j hj => ?_, ?_⟩, fun hm => ?_⟩
      · by_cases hjr : j = (a.getD i 0).toNat
        · subst hjr; rw [gd_set_eq (by omega)]; simp
        · rw [gd_set_ne (fun h => hjr h.symm), decide_eq_true (show j ≠ (a.getD i 0).toNat from hjr), Bool.and_true]
      · rw [f70.l101, if_t hc]
        simp only [if_t hbd, Int.toNat_natCast]
        rw [if_t hx, if_t hm, if_t h1, if_t hx, f70.j152, wrap_s (by omega)]
      · rw [f70.l101, if_t hc]
        simp only [if_t hbd, Int.toNat_natCast]
        rw [if_t hx, if_f (by rw [hm]; decide), f70.j152, wrap_s (by omega)])
    (fun m s x => by rw [f70.l101, if_f (by simp)]) k 0 s 0 s1 (by omega) (by omega) (by omega)
    (by have := (sum_bd hg (fun j => s.getD j false && decide ((j : Int) ∈ a.drop 0))).2; omega)
  rw [show ((0 : Nat) : Int) = 0 from rfl] at this
  rw [this, Int.zero_add, List.drop_zero]
  unfold comSum
  rw [sumTo_congr (fun j hj => by rw [s2 j hj, Bool.and_comm])]

theorem e23 {g : Graph} (hg : GOk g) (k : Nat) (hk : 1048576 < k) {t : Net} (ht : NetOf g t) (a b : List Int) (ha : a.length ≤ 1048576) (hb : b.length ≤ 1048576) :
    f23.l30 k a t b g k (([] : List (Int × Bool)), (0 : Int)) = some (bif roadsOk g a && roadsOk g b then comSum g a b else 0) := by
  have n2 := hg.n2
  have h1 := allLoopG (L := f23.l30 k a t b g) (n := a.length) (p := fun i => roadIs g (a.getD i 0)) (bad := some (0 : Int)) (fin := fun v => f23.l80 k b t g v k (0 : Int))
    (Inv := fun i v => Keys v ∧ ∀ j : Int, mget (Sh.beq (.int .i64)) (some v) j false = decide (j ∈ a.take i))
    (fun m i v hi ⟨q1, q2⟩ => by
      have hbd : (0 : Int) ≤ (i : Int) ∧ (i : Int) < (a.length : Int) := ⟨by omega, by omega⟩
      have hc : decide ((i : Int) < (a.length : Int)) = true := by simpa using hi
      refine ⟨fun hp => ⟨mput (Sh.beq (.int .i64)) (a.getD i 0) true v, ⟨q1.put (beq_int .i64), fun j => ?_⟩, ?_⟩, fun hp => ?_⟩
      · rw [mget_put (beq_int .i64), q2 j]
        have hm := mem_take_succ (d := 0) hi j
        by_cases hj : j = a.getD i 0
        · rw [(beq_int .i64 _ _).2 hj, cond_true]; symm; rw [decide_eq_true_eq]; exact hm.2 (.inr hj)
        · have : Sh.beq (.int .i64) j (a.getD i 0) = false := by
            cases hq : Sh.beq (.int .i64) j (a.getD i 0) with
            | false => rfl
            | true => exact absurd ((beq_int .i64 _ _).1 hq) hj
          rw [this, cond_false]; congr 1; rw [hm, eq_iff_iff]; exact ⟨fun h => .inl h, fun h => h.resolve_right hj⟩
      · rw [f23.l30, if_t hc]
        simp only [if_t hbd, Int.toNat_natCast]
        rw [e65 k ht, Option.bind_some, if_f (by rw [hp]; decide), wrap_s (by omega)]
      · rw [f23.l30, if_t hc]
        simp only [if_t hbd, Int.toNat_natCast]
        rw [e65 k ht, Option.bind_some, if_t (by rw [hp]; rfl)])
    (fun m v _ => by rw [f23.l30, if_f (by simp)]) k 0 [] ⟨by simp [Keys], fun j => by simp [mget_nil]⟩ (by omega) (by omega)
  rw [Nat.sub_zero, show ((0 : Nat) : Int) = 0 from rfl] at h1
  rcases h1 with ⟨ra, v, ⟨q1, q2⟩, h1⟩ | ⟨ra, h1⟩
  · have ra : roadsOk g a = true := ra
    rw [h1, ra]
    rw [List.take_length] at q2
    have h2 := allLoopI (L := f23.l80 k b t g v) (n := b.length) (p := fun i => roadIs g (b.getD i 0)) (bad := some (0 : Int)) (fin := f23.l137 k b g k (v, (0 : Int), (0 : Int)))
      (fun m i hi => by
        have hbd : (0 : Int) ≤ (i : Int) ∧ (i : Int) < (b.length : Int) := ⟨by omega, by omega⟩
        have hc : decide ((i : Int) < (b.length : Int)) = true := by simpa using hi
        rw [f23.l80, if_t hc, if_t hbd, e65 k ht, Option.bind_some, wrap_s (by omega), Int.toNat_natCast]
        cases roadIs g (b.getD i 0) <;> simp)
      (fun m => by rw [f23.l80, if_f (by simp)]) (k := k) (by omega)
    rw [h2]
    change (bif roadsOk g b then _ else _) = _
    cases rb : roadsOk g b with
    | false => rfl
    | true =>
      have rb' := roadsOk_iff.1 rb
      have := comLoop (σ := List (Int × Bool)) (L := f23.l137 k b g) (mem := fun v j => mget (Sh.beq (.int .i64)) (some v) (j : Int) false) (Inv := fun v => Keys v) (l := b) (w := fun r => (g.2.1.getD r dR).2.2.2.1) (n := g.2.1.length)
        (fun i hi => roadIs_iff.1 (rb' i hi)) (len_bd hg)
        (fun m s x i hs hi => by
          have h1 := roadIs_iff.1 (rb' i hi)
          have hbd : (0 : Int) ≤ (i : Int) ∧ (i : Int) < (b.length : Int) := ⟨by omega, by omega⟩
          have hc : decide ((i : Int) < (b.length : Int)) = true := by simpa using hi
          have hcast : (((b.getD i 0).toNat : Nat) : Int) = b.getD i 0 := by omega
          refine ⟨fun hm => ⟨mdel (Sh.beq (.int .i64)) (b.getD i 0) s, hs.del, fun j hj => ?_, ?_⟩, fun hm => ?_⟩
          · rw [mget_del (beq_int .i64) hs]
            by_cases hjr : (j : Int) = b.getD i 0
            · rw [(beq_int .i64 _ _).2 hjr]; simp [show j = (b.getD i 0).toNat by omega]
            · have : Sh.beq (.int .i64) (j : Int) (b.getD i 0) = false := by
                cases hq : Sh.beq (.int .i64) (j : Int) (b.getD i 0) with
                | false => rfl
                | true => exact absurd ((beq_int .i64 _ _).1 hq) hjr
              rw [this, decide_eq_true (show j ≠ (b.getD i 0).toNat by omega), Bool.and_true, cond_false]
          · rw [hcast] at hm
            rw [f23.l137, if_t hc]
            simp only [if_t hbd, Int.toNat_natCast]
            rw [if_t hm, if_t h1, f23.j168, wrap_s (by omega)]
          · rw [hcast] at hm
            rw [f23.l137, if_t hc]
            simp only [if_t hbd, Int.toNat_natCast]
            rw [if_f (by rw [hm]; decide), f23.j168, wrap_s (by omega)])
        (fun m s x => by rw [f23.l137, if_f (by simp)]) k 0 v 0 q1 (by omega) (by omega) (by omega)
        (by have := (sum_bd hg (fun j => mget (Sh.beq (.int .i64)) (some v) (j : Int) false && decide ((j : Int) ∈ b.drop 0))).2; omega)
      rw [show ((0 : Nat) : Int) = 0 from rfl] at this
      rw [cond_true, this, Int.zero_add, List.drop_zero]
      simp only [Bool.and_self, cond_true]
      unfold comSum
      rw [sumTo_congr (fun j hj => by rw [q2 (j : Int)])]
  · have ra : roadsOk g a = false := ra
    rw [h1, ra]; rfl

theorem same_common (k : Nat) (hk : 1048576 < k) (g : Graph) (h1 : g.1.length ≤ 1048576) (h2 : g.2.1.length ≤ 1048576) (h3 : g.2.2.length ≤ 1048576) (a b : List Int) (ha : a.length ≤ 1048576) (hb : b.length ≤ 1048576) : ∃ x, f22 k g a b = some x ∧ f23 k g a b = some x := by
  unfold f22 f23
  rw [spec57 k hk g h1 h2 h3, impl63 k hk g h1 h2 h3]
  simp only [Option.bind_some, e58 k hk g a ha, e58 k hk g b hb]
  cases hg : graphOk g with
  | false => exact ⟨0, by simp, by simp⟩
  | true =>
    obtain ⟨t, ht, hn⟩ := e64 (gok hg) k hk
    have hne : ¬ ((!true) = true) := by simp
    simp only [if_f hne, ht, Option.bind_some, e23 (gok hg) k hk hn a b ha hb]
    refine ⟨_, ?_, rfl⟩
    cases ra : roadsOk g a with
    | false => simp
    | true =>
      cases rb : roadsOk g b with
      | false => simp
      | true => simp [e70 (gok hg) k hk a b ha hb ra rb]
end Go.Proofs.Ytjfledckleeoaaa
