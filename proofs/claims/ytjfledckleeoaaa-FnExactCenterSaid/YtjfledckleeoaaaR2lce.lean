/-
  Center: the two searches of the middle answer alike. No condition.
-/
import Derived.Test.YtjfledckleeoaaaR2lri
set_option linter.unusedVariables false
set_option linter.unusedSimpArgs false
namespace Go.Proofs.Ytjfledckleeoaaa
open Go Go.Vm Go.Proofs V

def spotsOk (g : Graph) (l : List Int) : Bool := allTo (fun i => spotIs g (l.getD i 0)) l.length
theorem spotsOk_iff {g : Graph} {l : List Int} : spotsOk g l = true ↔ ∀ i, i < l.length → spotIs g (l.getD i 0) = true := allTo_iff
theorem spot_eq (g : Graph) (p : Int) : (bif (decide ((p : Int) ≥ (0 : Int))) then (decide ((p : Int) < (List.length g.1 : Int))) else false) = spotIs g p := by
  unfold spotIs
  cases decide (p ≥ 0) <;> simp
theorem e89 (k : Nat) (g : Graph) (p : Int) : f89 k g p = some (spotIs g p) := by unfold f89; rw [spot_eq]
theorem e91 (k : Nat) {g : Graph} {t : Net} (ht : NetOf g t) (p : Int) : f91 k t p = some (spotIs g p) := by unfold f91; rw [ht.fst, spot_eq]

theorem e93 (k : Nat) (hk : 1048576 < k) (g : Graph) (l : List Int) (hl : l.length ≤ 1048576) : f93 k g l = some (decide (l.length ≤ 100) && spotsOk g l) := by
  unfold f93
  by_cases h : l.length ≤ 100
  · have hd : decide (((List.length l : Int) : Int) ≤ (100 : Int)) = true := by simp; omega
    have := allLoop (L := f93.l24 k l g) (n := l.length) (p := fun i => spotIs g (l.getD i 0)) (fin := some true) (fun m i hi => by
      have hb : (0 : Int) ≤ (i : Int) ∧ (i : Int) < (l.length : Int) := ⟨by omega, by omega⟩
      have hc : decide ((i : Int) < (l.length : Int)) = true := by simpa using hi
      rw [f93.l24, hc, hd, cond_true, if_t rfl, if_t hb, e89, Option.bind_some, wrap_s (by omega), Int.toNat_natCast]
      cases spotIs g (l.getD i 0) <;> simp) (fun m => by rw [f93.l24, hd, if_f (by simp)]) (k := k) (by omega)
    rw [this, decide_eq_true h, Bool.true_and]
    unfold spotsOk
    cases allTo (fun i => spotIs g (l.getD i 0)) l.length <;> rfl
  · have hd : decide (((List.length l : Int) : Int) ≤ (100 : Int)) = false := by simp; omega
    obtain ⟨m, rfl⟩ : ∃ m, k = m + 1 := ⟨k - 1, by omega⟩
    rw [f93.l24, hd, if_f (by simp), decide_eq_false h, Bool.false_and]

/-- A place's reach, both ways. -/
def rch (k : Nat) (net : Net) (p : Int) : List Int := (f95 k net p).getD []
theorem rch_ok {g : Graph} (hg : GOk g) (k : Nat) (hk : 1099511627776 < k) {net : Net} (hn : NetOf g net) {p : Int} (hp : spotIs g p = true) : f94 k g p = some (rch k net p) ∧ f95 k net p = some (rch k net p) ∧ (rch k net p).length = g.1.length := by
  obtain ⟨h0, h1⟩ := spotIs_iff.1 hp
  obtain ⟨s, rfl⟩ : ∃ s : Nat, p = (s : Int) := ⟨p.toNat, by omega⟩
  obtain ⟨out, q1, q2, q3⟩ := same_reach0 hg k hk s (by omega) hn
  unfold rch
  rw [q1, q2]
  exact ⟨rfl, rfl, q3⟩


theorem rch_bd {g : Graph} (hg : GOk g) (k : Nat) (hk : 1099511627776 < k) {net : Net} (hn : NetOf g net) {p : Int} (hp : spotIs g p = true) {q : Int} (hq : spotIs g q = true) : -1 ≤ (rch k net p).getD q.toNat 0 ∧ (rch k net p).getD q.toNat 0 ≤ 10000000000 := by
  obtain ⟨h0, h1⟩ := spotIs_iff.1 hp
  obtain ⟨h2, h3⟩ := spotIs_iff.1 hq
  obtain ⟨s, rfl⟩ : ∃ s : Nat, p = (s : Int) := ⟨p.toNat, by omega⟩
  obtain ⟨out, tm, ct, q1, q2, q3, q4⟩ := e95 hg k hk s (by omega) hn
  have n2 := hg.n2
  unfold rch
  rw [q1]
  show -1 ≤ T out q.toNat ∧ T out q.toNat ≤ 10000000000
  by_cases hqs : q.toNat = s
  · rw [hqs, q4.2.1]; decide
  · rcases q4.2.2 q.toNat (by omega) hqs with ⟨e, _⟩ | ⟨⟨r, hr, e⟩, _⟩
    · rw [e]; decide
    · rw [e]
      have hb := (q2.bnd r hr.1).1
      have hC : (dgF g hg s).C = 1000020 := rfl
      have hN : (dgF g hg s).n = g.2.1.length := rfl
      rw [hC, hN] at hb
      have := hr.2.1
      omega

section
variable (k : Nat) (net : Net) (a : List Int)
def vAt (i j : Nat) : Int := (rch k net (a.getD i 0)).getD (a.getD j 0).toNat 0
def okTo (i : Nat) : Nat → Bool
  | 0 => true
  | j + 1 => okTo i j && decide (0 ≤ vAt k net a i j)
def smTo (i : Nat) : Nat → Int
  | 0 => 0
  | j + 1 => smTo i j + vAt k net a i j
def cen : Nat → Int × Int
  | 0 => (-1, 0)
  | i + 1 => if okTo k net a i a.length = true ∧ ((cen i).1 < 0 ∨ smTo k net a i a.length < (cen i).2) then (a.getD i 0, smTo k net a i a.length) else cen i
end
theorem okTo_false {k : Nat} {net : Net} {a : List Int} {i j : Nat} (h : okTo k net a i j = false) : ∀ {d : Nat}, okTo k net a i (j + d) = false
  | 0 => h
  | d + 1 => by rw [← Nat.add_assoc, okTo, okTo_false h, Bool.false_and]
theorem smTo_bd {g : Graph} (hg : GOk g) {k : Nat} (hk : 1099511627776 < k) {net : Net} (hn : NetOf g net) {a : List Int} (ra : spotsOk g a = true) {i : Nat} (hi : i < a.length) : ∀ {j : Nat}, j ≤ a.length → okTo k net a i j = true → 0 ≤ smTo k net a i j ∧ smTo k net a i j ≤ (j : Int) * 10000000000
  | 0, _, _ => by simp [smTo]
  | j + 1, hj, ho => by
    have ra' := spotsOk_iff.1 ra
    rw [okTo, Bool.and_eq_true, decide_eq_true_eq] at ho
    have ih := smTo_bd hg hk hn ra hi (j := j) (by omega) ho.1
    have hb : -1 ≤ vAt k net a i j ∧ vAt k net a i j ≤ 10000000000 := rch_bd hg k hk hn (ra' i hi) (ra' j (by omega))
    rw [smTo]; omega

theorem e38 {g : Graph} (hg : GOk g) (k : Nat) (hk : 1099511627776 < k) {net : Net} (hn : NetOf g net) (a : List Int) (ha : a.length ≤ 100) (ra : spotsOk g a = true) : f38.l457 k a g k ((-1 : Int), (0 : Int), (0 : Int)) = some (cen k net a a.length).1 := by
  have ra' := spotsOk_iff.1 ra
  have go : ∀ (d i m : Nat), i + d = a.length → d < m → f38.l457 k a g m ((cen k net a i).1, (cen k net a i).2, (i : Int)) = some (cen k net a a.length).1 := by
    intro d
    induction d with
    | zero =>
      intro i m h1 h2
      obtain ⟨m, rfl⟩ : ∃ q, m = q + 1 := ⟨m - 1, by omega⟩
      obtain rfl : i = a.length := by omega
      rw [f38.l457, if_f (by simp)]
    | succ d ih =>
      intro i m h1 h2
      obtain ⟨m, rfl⟩ : ∃ q, m = q + 1 := ⟨m - 1, by omega⟩
      have hi : i < a.length := by omega
      have bi : (0 : Int) ≤ (i : Int) ∧ (i : Int) < (a.length : Int) := ⟨by omega, by omega⟩
      have hci : decide ((i : Int) < (a.length : Int)) = true := by simpa using hi
      obtain ⟨r1, r2, r3⟩ := rch_ok hg k hk hn (ra' i hi)
      rw [f38.l457]
      simp only [if_t hci, if_t bi, Int.toNat_natCast, r1, Option.bind_some]
      have inner : ∀ (q : Int → Option Int) (d j m : Nat), j + d = a.length → d < m → okTo k net a i j = true → f38.l876 k a (rch k net (a.getD i 0)) q m (smTo k net a i j, (j : Int)) = q (if okTo k net a i a.length = true then smTo k net a i a.length else -1) := by
        intro q d
        induction d with
        | zero =>
          intro j m h1 h2 h3
          obtain ⟨m, rfl⟩ : ∃ q, m = q + 1 := ⟨m - 1, by omega⟩
          obtain rfl : j = a.length := by omega
          rw [f38.l876, if_f (by simp), if_pos h3]
        | succ d ih =>
          intro j m h1 h2 h3
          obtain ⟨m, rfl⟩ : ∃ q, m = q + 1 := ⟨m - 1, by omega⟩
          have hj : j < a.length := by omega
          have bj : (0 : Int) ≤ (j : Int) ∧ (j : Int) < (a.length : Int) := ⟨by omega, by omega⟩
          have hcj : decide ((j : Int) < (a.length : Int)) = true := by simpa using hj
          have hbp : 0 ≤ a.getD j 0 ∧ a.getD j 0 < ((rch k net (a.getD i 0)).length : Int) := by rw [r3]; exact spotIs_iff.1 (ra' j hj)
          have hb : -1 ≤ vAt k net a i j ∧ vAt k net a i j ≤ 10000000000 := rch_bd hg k hk hn (ra' i hi) (ra' j (by omega))
          have hs := smTo_bd hg hk hn ra hi (j := j) (by omega) h3
          rw [f38.l876]
          simp only [if_t hcj, if_t bj, Int.toNat_natCast, if_t hbp]
          change (if decide (vAt k net a i j < 0) = true then _ else f38.l876 k a (rch k net (a.getD i 0)) q m (IntKind.i64.wrap (smTo k net a i j + vAt k net a i j), IntKind.i64.wrap ((j : Int) + 1))) = _
          by_cases hv : vAt k net a i j < 0
          · have ho : okTo k net a i (j + 1) = false := by rw [okTo, decide_eq_false (by omega), Bool.and_false]
            have ho2 := okTo_false ho (d := d)
            rw [show j + 1 + d = a.length by omega] at ho2
            rw [if_t (by simpa using hv), if_neg (by rw [ho2]; decide)]
          · have ho : okTo k net a i (j + 1) = true := by rw [okTo, h3, decide_eq_true (by omega)]; rfl
            rw [if_f (by simpa using hv), wrap_s (by omega), wrap_in (by omega) (by omega)]
            exact ih (j + 1) m (by omega) (by omega) ho
      have := inner (f38.j874 k (cen k net a i).1 (cen k net a i).2 (i : Int) a (f38.j838 k (i : Int) (f38.l457 k a g m))) a.length 0 k (by omega) (by omega) rfl
      rw [show smTo k net a i 0 = 0 from rfl, show ((0 : Nat) : Int) = 0 from rfl] at this
      rw [this]
      have ih' := ih (i + 1) m (by omega) (by omega)
      rw [cen] at ih'
      unfold f38.j874
      simp only [f38.j838, if_t bi, Int.toNat_natCast]
      rw [wrap_s (by omega)]
      cases ho : okTo k net a i a.length with
      | false =>
        rw [if_neg (fun h => by rw [ho] at h; exact absurd h.1 (by decide))] at ih'
        rw [if_f (by simp)]
        exact ih'
      | true =>
        have hs := smTo_bd hg hk hn ra hi (Nat.le_refl _) ho
        rw [if_pos rfl, show decide (smTo k net a i a.length ≥ 0) = true from decide_eq_true hs.1, cond_true]
        by_cases hc : (cen k net a i).1 < 0 ∨ smTo k net a i a.length < (cen k net a i).2
        · rw [if_pos ⟨ho, hc⟩] at ih'
          rw [if_t (by
            rcases hc with hc | hc
            · rw [decide_eq_true hc]; rfl
            · rw [decide_eq_true hc]; cases decide ((cen k net a i).1 < 0) <;> rfl)]
          exact ih'
        · rw [if_neg (fun h => hc h.2)] at ih'
          rw [if_f (by rw [decide_eq_false (fun h => hc (.inl h)), decide_eq_false (fun h => hc (.inr h))]; decide)]
          exact ih'
  exact go a.length 0 k (by omega) (by omega)

theorem e39 {g : Graph} (hg : GOk g) (k : Nat) (hk : 1099511627776 < k) {net : Net} (hn : NetOf g net) (a : List Int) (ha : a.length ≤ 100) (ra : spotsOk g a = true) : f39.l569 k a net k ((-1 : Int), (0 : Int), (0 : Int)) = some (cen k net a a.length).1 := by
  have ra' := spotsOk_iff.1 ra
  have go : ∀ (d i m : Nat), i + d = a.length → d < m → f39.l569 k a net m ((cen k net a i).1, (cen k net a i).2, (i : Int)) = some (cen k net a a.length).1 := by
    intro d
    induction d with
    | zero =>
      intro i m h1 h2
      obtain ⟨m, rfl⟩ : ∃ q, m = q + 1 := ⟨m - 1, by omega⟩
      obtain rfl : i = a.length := by omega
      rw [f39.l569, if_f (by simp)]
    | succ d ih =>
      intro i m h1 h2
      obtain ⟨m, rfl⟩ : ∃ q, m = q + 1 := ⟨m - 1, by omega⟩
      have hi : i < a.length := by omega
      have bi : (0 : Int) ≤ (i : Int) ∧ (i : Int) < (a.length : Int) := ⟨by omega, by omega⟩
      have hci : decide ((i : Int) < (a.length : Int)) = true := by simpa using hi
      obtain ⟨r1, r2, r3⟩ := rch_ok hg k hk hn (ra' i hi)
      rw [f39.l569]
      simp only [if_t hci, if_t bi, Int.toNat_natCast, r2, Option.bind_some]
      have inner : ∀ (d j m : Nat) (sm : Int) (ok : Bool), j + d = a.length → d < m → ok = okTo k net a i j → (ok = true → sm = smTo k net a i j) →
          f39.l1047 k a (rch k net (a.getD i 0)) (cen k net a i).1 (cen k net a i).2 (i : Int) (f39.j1005 k (i : Int) (f39.l569 k a net m)) m (sm, ok, (j : Int)) = f39.l1047 k a (rch k net (a.getD i 0)) (cen k net a i).1 (cen k net a i).2 (i : Int) (f39.j1005 k (i : Int) (f39.l569 k a net m)) m (sm, ok, (j : Int)) := fun _ _ _ _ _ _ _ _ _ => rfl
      have inner : ∀ (M d j m : Nat) (sm : Int) (ok : Bool), j + d = a.length → d < m → ok = okTo k net a i j → (ok = true → sm = smTo k net a i j) →
          f39.l1047 k a (rch k net (a.getD i 0)) (cen k net a i).1 (cen k net a i).2 (i : Int) (f39.j1005 k (i : Int) (f39.l569 k a net M)) m (sm, ok, (j : Int)) = f39.l569 k a net M ((cen k net a (i + 1)).1, (cen k net a (i + 1)).2, ((i + 1 : Nat) : Int)) := by
        intro M d
        induction d with
        | zero =>
          intro j m sm ok h1 h2 h3 h4
          obtain ⟨m, rfl⟩ : ∃ q, m = q + 1 := ⟨m - 1, by omega⟩
          obtain rfl : j = a.length := by omega
          rw [f39.l1047, if_f (by simp)]
          unfold f39.j1005
          rw [wrap_s (by omega)]
          simp only [Int.toNat_natCast]
          rw [cen]
          cases ok with
          | false => rw [if_f (by simp), if_neg (fun h => by rw [← h3] at h; exact absurd h.1 (by decide))]
          | true =>
            have h4 := h4 rfl
            subst h4
            rw [cond_true]
            by_cases hc : (cen k net a i).1 < 0 ∨ smTo k net a i a.length < (cen k net a i).2
            · rw [if_t (by
                rcases hc with hc | hc
                · rw [decide_eq_true hc]; rfl
                · rw [decide_eq_true hc]; cases decide ((cen k net a i).1 < 0) <;> rfl), if_pos ⟨h3.symm, hc⟩]
            · rw [if_f (by rw [decide_eq_false (fun h => hc (.inl h)), decide_eq_false (fun h => hc (.inr h))]; decide), if_neg (fun h => hc h.2)]
        | succ d ih =>
          intro j m sm ok h1 h2 h3 h4
          obtain ⟨m, rfl⟩ : ∃ q, m = q + 1 := ⟨m - 1, by omega⟩
          have hj : j < a.length := by omega
          have bj : (0 : Int) ≤ (j : Int) ∧ (j : Int) < (a.length : Int) := ⟨by omega, by omega⟩
          have hcj : decide ((j : Int) < (a.length : Int)) = true := by simpa using hj
          have hbp : 0 ≤ a.getD j 0 ∧ a.getD j 0 < ((rch k net (a.getD i 0)).length : Int) := by rw [r3]; exact spotIs_iff.1 (ra' j hj)
          have hb : -1 ≤ vAt k net a i j ∧ vAt k net a i j ≤ 10000000000 := rch_bd hg k hk hn (ra' i hi) (ra' j (by omega))
          rw [f39.l1047]
          simp only [if_t hcj, if_t bj, Int.toNat_natCast, if_t hbp, f39.j1083]
          rw [wrap_s (by omega)]
          change (if decide (vAt k net a i j < 0) = true then _ else f39.l1047 k a (rch k net (a.getD i 0)) (cen k net a i).1 (cen k net a i).2 (i : Int) (f39.j1005 k (i : Int) (f39.l569 k a net M)) m (IntKind.i64.wrap (sm + vAt k net a i j), ok, ((j + 1 : Nat) : Int))) = _
          by_cases hv : vAt k net a i j < 0
          · rw [if_t (by simpa using hv)]
            exact ih (j + 1) m sm false (by omega) (by omega) (by rw [okTo, decide_eq_false (by omega), Bool.and_false]) (fun h => by cases h)
          · rw [if_f (by simpa using hv)]
            refine ih (j + 1) m _ ok (by omega) (by omega) (by rw [okTo, ← h3, decide_eq_true (by omega), Bool.and_true]) (fun h => ?_)
            have hs := smTo_bd hg hk hn ra hi (j := j) (by omega) (by rw [← h3]; exact h)
            rw [h4 h, wrap_in (by omega) (by omega)]; rfl
      have := inner m a.length 0 k 0 true (by omega) (by omega) rfl (fun _ => rfl)
      rw [show ((0 : Nat) : Int) = 0 from rfl] at this
      rw [this]
      exact ih (i + 1) m (by omega) (by omega)
  exact go a.length 0 k (by omega) (by omega)

theorem same_center (k : Nat) (hk : 1099511627776 < k) (g : Graph) (h1 : g.1.length ≤ 1048576) (h2 : g.2.1.length ≤ 1048576) (h3 : g.2.2.length ≤ 1048576) (a : List Int) (ha : a.length ≤ 1048576) :
    ∃ y, f38 k g a = some y ∧ f39 k g a = some y := by
  unfold f38 f39
  rw [spec57 k (by omega) g h1 h2 h3, impl63 k (by omega) g h1 h2 h3]
  simp only [Option.bind_some, e93 k (by omega) g a ha]
  cases hg : graphOk g with
  | false => exact ⟨-1, by simp, by simp⟩
  | true =>
    by_cases ha1 : a.length ≤ 100
    · obtain ⟨net, hn, hno⟩ := e64 (gok hg) k (by omega)
      have hne : ¬ ((bif (!true) then true else (decide (((List.length a : Int) : Int) > (100 : Int)))) = true) := by simp; omega
      have h1 := allLoopI (L := f39.l26 k a net) (n := a.length) (p := fun i => spotIs g (a.getD i 0)) (bad := some (-1 : Int)) (fin := f39.l569 k a net k ((-1 : Int), (0 : Int), (0 : Int))) (fun m i hi => by
        have hbi : (0 : Int) ≤ (i : Int) ∧ (i : Int) < (a.length : Int) := ⟨by omega, by omega⟩
        have hc : decide ((i : Int) < (a.length : Int)) = true := by simpa using hi
        rw [f39.l26, if_t hc, if_t hbi, e91 k hno, Option.bind_some, wrap_s (by omega), Int.toNat_natCast]
        cases spotIs g (a.getD i 0) <;> simp) (fun m => by rw [f39.l26, if_f (by simp)]) (k := k) (by omega)
      rw [if_f hne, hn, Option.bind_some, h1, decide_eq_true ha1]
      change ∃ y, _ ∧ (bif spotsOk g a then _ else _) = _
      cases ra : spotsOk g a with
      | false => exact ⟨-1, by simp, rfl⟩
      | true =>
        refine ⟨_, ?_, e39 (gok hg) k hk hno a ha1 ra⟩
        simp [e38 (gok hg) k hk hno a ha1 ra]
    · have hne : ((bif (!true) then true else (decide (((List.length a : Int) : Int) > (100 : Int)))) = true) := by
        rw [show decide (((List.length a : Int) : Int) > (100 : Int)) = true by simp; omega]; rfl
      rw [if_t hne, decide_eq_false ha1]
      exact ⟨-1, by simp, rfl⟩
end Go.Proofs.Ytjfledckleeoaaa
