/-
  Tags and maps: the specification and the program take the same ones. No condition.
-/
import Derived.Test.YtchbpdnaodicaaaR3ggl
set_option linter.unusedVariables false
set_option linter.unusedSimpArgs false
namespace Go.Proofs.Ytchbpdnaodicaaa
open Go Go.Vm Go.Proofs V

abbrev Tags := List (ByteArray × ByteArray)
abbrev Nod := Int × ((Int × Int) × Tags)
abbrev Wy := Int × (List Int × Tags)
abbrev Ar := Int × (List (Int × Bool) × Tags)
abbrev Mp := List Nod × (List Wy × List Ar)
abbrev dT : ByteArray × ByteArray := ((⟨#[]⟩ : ByteArray), (⟨#[]⟩ : ByteArray))
abbrev dN : Nod := ((0 : Int), (((0 : Int), (0 : Int)), ([] : (List (ByteArray × ByteArray)))))
abbrev dW : Wy := ((0 : Int), (([] : List Int), ([] : (List (ByteArray × ByteArray)))))
abbrev dA : Ar := ((0 : Int), (([] : List (Int × Bool)), ([] : (List (ByteArray × ByteArray)))))
abbrev dP : Int × Bool := ((0 : Int), false)

/-! ### Texts -/
def chB (b : Int) : Bool := bif (bif (bif (bif (decide ((b : Int) ≥ (97 : Int))) then (decide ((b : Int) ≤ (122 : Int))) else false) then true else (bif (decide ((b : Int) ≥ (48 : Int))) then (decide ((b : Int) ≤ (57 : Int))) else false)) then true else ((b : Int) == (58 : Int))) then true else ((b : Int) == (95 : Int))
def vaB (b : Int) : Bool := !(bif (decide ((b : Int) < (32 : Int))) then true else (decide ((b : Int) > (126 : Int))))
def wordB (s : ByteArray) : Bool := (decide (1 ≤ s.size) && decide (s.size ≤ 40)) && allTo (fun i => chB (byteAt s (i : Int))) s.size
def valB (s : ByteArray) : Bool := (decide (1 ≤ s.size) && decide (s.size ≤ 100)) && allTo (fun i => vaB (byteAt s (i : Int))) s.size

theorem sz_ge (s : ByteArray) : decide ((ByteArray.size s : Int) ≥ (1 : Int)) = decide (1 ≤ s.size) := decide_eq_decide.2 (by omega)
theorem sz_lt (s : ByteArray) : decide ((ByteArray.size s : Int) < (1 : Int)) = !decide (1 ≤ s.size) := by
  rw [← decide_not]; exact decide_eq_decide.2 (by omega)
theorem sz_le (s : ByteArray) (n : Nat) (N : Int) (h : N = (n : Int)) : decide ((ByteArray.size s : Int) ≤ N) = decide (s.size ≤ n) := by subst h; exact decide_eq_decide.2 (by omega)

theorem e241 (k : Nat) (hk : 1048576 < k) (s : ByteArray) (hs : s.size ≤ 1048576) : f241 k s = some (wordB s) := by
  have q := allLoop (L := f241.l12 k s) (n := s.size) (p := fun i => chB (byteAt s (i : Int))) (fin := some (bif (decide ((ByteArray.size s : Int) ≥ (1 : Int))) then (decide ((ByteArray.size s : Int) ≤ (40 : Int))) else false)) (fun m i hi => by
    have hb : (0 : Int) ≤ (i : Int) ∧ (i : Int) < (ByteArray.size s : Int) := ⟨by omega, by omega⟩
    have hc : decide ((i : Int) < (ByteArray.size s : Int)) = true := decide_eq_true hb.2
    rw [f241.l12, if_t hc, if_t hb, wrap_s (by omega)]
    show (if (!chB (byteAt s (i : Int))) = true then _ else _) = _
    cases chB (byteAt s (i : Int)) <;> rfl) (fun m => by rw [f241.l12, if_f (by simp)]) (k := k) (by omega)
  unfold f241 wordB
  rw [q, sz_ge, sz_le s 40 40 rfl]
  generalize allTo (fun i => chB (byteAt s (i : Int))) s.size = A
  generalize decide (1 ≤ s.size) = B
  generalize decide (s.size ≤ 40) = C
  cases A <;> cases B <;> cases C <;> rfl
theorem e246 (k : Nat) (hk : 1048576 < k) (s : ByteArray) (hs : s.size ≤ 1048576) : f246 k s = some (wordB s) := by
  have q := allLoop (L := f246.l12 k s) (n := s.size) (p := fun i => chB (byteAt s (i : Int))) (fin := some true) (fun m i hi => by
    have hb : (0 : Int) ≤ (i : Int) ∧ (i : Int) < (ByteArray.size s : Int) := ⟨by omega, by omega⟩
    have hc : decide ((i : Int) < (ByteArray.size s : Int)) = true := decide_eq_true hb.2
    rw [f246.l12, if_t hc, if_t hb, wrap_s (by omega)]
    show (if (!chB (byteAt s (i : Int))) = true then _ else _) = _
    cases chB (byteAt s (i : Int)) <;> rfl) (fun m => by rw [f246.l12, if_f (by simp)]) (k := k) (by omega)
  unfold f246 wordB
  rw [q, sz_lt, gt_not, sz_le s 40 40 rfl]
  generalize allTo (fun i => chB (byteAt s (i : Int))) s.size = A
  generalize decide (1 ≤ s.size) = B
  generalize decide (s.size ≤ 40) = C
  cases A <;> cases B <;> cases C <;> rfl
theorem e242 (k : Nat) (hk : 1048576 < k) (s : ByteArray) (hs : s.size ≤ 1048576) : f242 k s = some (valB s) := by
  have q := allLoop (L := f242.l18 k s) (n := s.size) (p := fun i => vaB (byteAt s (i : Int))) (fin := some (bif (decide ((ByteArray.size s : Int) ≥ (1 : Int))) then (decide ((ByteArray.size s : Int) ≤ (100 : Int))) else false)) (fun m i hi => by
    have hb : (0 : Int) ≤ (i : Int) ∧ (i : Int) < (ByteArray.size s : Int) := ⟨by omega, by omega⟩
    have hc : decide ((i : Int) < (ByteArray.size s : Int)) = true := decide_eq_true hb.2
    rw [f242.l18, if_t hc, if_t hb, if_t (fun _ => hb), wrap_s (by omega)]
    unfold vaB
    by_cases hA : (bif (decide ((byteAt s (i : Int) : Int) < (32 : Int))) then true else (decide ((byteAt s (i : Int) : Int) > (126 : Int)))) = true
    · rw [if_t hA, hA]; rfl
    · rw [if_f hA, eq_false_of_ne_true hA]; rfl) (fun m => by rw [f242.l18, if_f (by simp)]) (k := k) (by omega)
  unfold f242 valB
  rw [q, sz_ge, sz_le s 100 100 rfl]
  generalize allTo (fun i => vaB (byteAt s (i : Int))) s.size = A
  generalize decide (1 ≤ s.size) = B
  generalize decide (s.size ≤ 100) = C
  cases A <;> cases B <;> cases C <;> rfl

/-! ### Tags -/
def ascT (ts : Tags) (i : Nat) : Bool := decide (i = 0) || Op.bytesLess (ByteArray.toList (ts.getD (i - 1) dT).1) (ByteArray.toList (ts.getD i dT).1)
def okTag (ts : Tags) (i : Nat) : Bool := (wordB (ts.getD i dT).1 && valB (ts.getD i dT).2) && ascT ts i
def tagsOk (ts : Tags) : Bool := decide (ts.length ≤ 30) && allTo (okTag ts) ts.length
def TSz (ts : Tags) : Prop := ∀ t ∈ ts, t.1.size ≤ 1048576 ∧ t.2.size ≤ 1048576

theorem in_getD {α : Type} {d : α} {l : List α} {i : Nat} (h : i < l.length) : l.getD i d ∈ l := by
  simp [List.getD_eq_getElem?_getD, h]

theorem e199 (k : Nat) (hk : 1048576 < k) (ts : Tags) (hz : TSz ts) : f199 k ts = some (tagsOk ts) := by
  unfold f199 tagsOk
  by_cases hl : ts.length ≤ 30
  · have hl' : decide ((List.length ts : Int) ≤ (30 : Int)) = true := decide_eq_true (by omega)
    have q := allLoop (L := f199.l54 k ts) (n := ts.length) (p := okTag ts) (fin := some true) (fun m i hi => by
      have hb : (0 : Int) ≤ (i : Int) ∧ (i : Int) < (ts.length : Int) := ⟨by omega, by omega⟩
      have hc : decide ((i : Int) < (ts.length : Int)) = true := decide_eq_true hb.2
      have h1 := hz _ (in_getD (d := dT) hi)
      rw [f199.l54, hc, cond_true, if_t hl', if_t hb, wrap_s (by omega)]
      simp only [Int.toNat_natCast, e241 k hk _ h1.1, e242 k hk _ h1.2, Option.bind_some]
      unfold okTag ascT
      generalize wordB (ts.getD i dT).1 = A
      generalize valB (ts.getD i dT).2 = B
      rcases i with _ | j
      · have hne : ¬ ts = [] := fun h => by rw [h] at hi; simp at hi
        cases A <;> cases B <;> simp [hne]
      · have hj : (0 : Int) ≤ (j : Int) ∧ (j : Int) < (ts.length : Int) := ⟨by omega, by omega⟩
        have hb' : (0 : Int) ≤ (j : Int) + 1 ∧ (j : Int) + 1 < (ts.length : Int) := ⟨by omega, by omega⟩
        simp only [wrap_p j (by omega), pos_succ, Int.toNat_natCast, Nat.add_sub_cancel]
        generalize Op.bytesLess (ByteArray.toList (ts.getD j dT).1) (ByteArray.toList (ts.getD (j + 1) dT).1) = C
        cases A <;> cases B <;> cases C <;> simp [hb', hj]) (fun m => by
      have hc : decide ((ts.length : Int) < (ts.length : Int)) = false := decide_eq_false (by omega)
      rw [f199.l54, hc, cond_false, if_f (by simp), hl']) (k := k) (by omega)
    rw [q, decide_eq_true hl]
    cases allTo (okTag ts) ts.length <;> rfl
  · have hl' : decide ((List.length ts : Int) ≤ (30 : Int)) = false := decide_eq_false (by omega)
    obtain ⟨k', rfl⟩ : ∃ q, k = q + 1 := ⟨k - 1, by omega⟩
    rw [f199.l54, hl', decide_eq_false hl]
    cases decide ((0 : Int) < (List.length ts : Int)) <;> rfl

theorem e208 (k : Nat) (hk : 1048576 < k) (ts : Tags) (hz : TSz ts) : f208 k ts = some (tagsOk ts) := by
  unfold f208 tagsOk
  by_cases hl : ts.length ≤ 30
  · have hl' : decide ((List.length ts : Int) > (30 : Int)) = false := decide_eq_false (by omega)
    have q := allLoop (L := f208.l144 k ts) (n := ts.length) (p := okTag ts) (fin := some true) (fun m i hi => by
      have hb : (0 : Int) ≤ (i : Int) ∧ (i : Int) < (ts.length : Int) := ⟨by omega, by omega⟩
      have hc : decide ((i : Int) < (ts.length : Int)) = true := decide_eq_true hb.2
      have h1 := hz _ (in_getD (d := dT) hi)
      have inner := allLoopI (L := f208.l266 k ts (i : Int) (f208.l144 k ts m)) (n := (ts.getD i dT).2.size) (p := fun j => vaB (byteAt (ts.getD i dT).2 (j : Int))) (bad := some false) (fin := f208.l144 k ts m ((i + 1 : Nat) : Int)) (fun m j hj => by
        have hbj : (0 : Int) ≤ (j : Int) ∧ (j : Int) < (ByteArray.size (ts.getD i dT).2 : Int) := ⟨by omega, by omega⟩
        have hcj : decide ((j : Int) < (ByteArray.size (ts.getD i dT).2 : Int)) = true := decide_eq_true hbj.2
        rw [f208.l266]
        simp only [Int.toNat_natCast]
        rw [if_t hcj, if_t hbj, if_t (fun _ => hbj), wrap_s (by omega)]
        unfold vaB
        by_cases hA : (bif (decide ((byteAt (ts.getD i dT).2 (j : Int) : Int) < (32 : Int))) then true else (decide ((byteAt (ts.getD i dT).2 (j : Int) : Int) > (126 : Int)))) = true
        · rw [if_t hA, hA]; rfl
        · rw [if_f hA, eq_false_of_ne_true hA]; rfl) (fun m => by
        rw [f208.l266]
        simp only [Int.toNat_natCast]
        rw [if_f (by simp), wrap_s (by omega)]) (k := k) (by omega)
      have z1 := sz_lt (ts.getD i dT).2
      have z2 : decide ((ByteArray.size (ts.getD i dT).2 : Int) > (100 : Int)) = !decide ((ts.getD i dT).2.size ≤ 100) := by rw [gt_not, sz_le _ 100 100 rfl]
      rw [f208.l144, if_t hc, if_t hb]
      simp only [Int.toNat_natCast, e246 k hk _ h1.1, Option.bind_some, inner]
      rw [z1, z2]
      unfold okTag ascT valB
      generalize wordB (ts.getD i dT).1 = A
      generalize decide (1 ≤ (ts.getD i dT).2.size) = B1
      generalize decide ((ts.getD i dT).2.size ≤ 100) = B2
      generalize allTo (fun j => vaB (byteAt (ts.getD i dT).2 (j : Int))) (ts.getD i dT).2.size = B3
      rcases i with _ | j
      · have hne : ¬ ts = [] := fun h => by rw [h] at hi; simp at hi
        cases A <;> cases B1 <;> cases B2 <;> cases B3 <;> simp [hne]
      · have hj : (0 : Int) ≤ (j : Int) ∧ (j : Int) < (ts.length : Int) := ⟨by omega, by omega⟩
        have hb' : (0 : Int) ≤ (j : Int) + 1 ∧ (j : Int) + 1 < (ts.length : Int) := ⟨by omega, by omega⟩
        simp only [wrap_p j (by omega), pos_succ, Int.toNat_natCast, Nat.add_sub_cancel]
        generalize Op.bytesLess (ByteArray.toList (ts.getD j dT).1) (ByteArray.toList (ts.getD (j + 1) dT).1) = C
        cases A <;> cases B1 <;> cases B2 <;> cases B3 <;> cases C <;> simp [hb', hj]) (fun m => by rw [f208.l144, if_f (by simp)]) (k := k) (by omega)
    rw [hl', if_f (by simp), q, decide_eq_true hl]
    cases allTo (okTag ts) ts.length <;> rfl
  · have hl' : decide ((List.length ts : Int) > (30 : Int)) = true := decide_eq_true (by omega)
    rw [hl', if_t rfl, decide_eq_false hl]; rfl

/-! ### Maps -/
def hasNode (m : Mp) (x : Int) : Bool := decide (x ∈ m.1.map (·.1))
def hasWay (m : Mp) (x : Int) : Bool := decide (x ∈ m.2.1.map (·.1))
def okNode (m : Mp) (i : Nat) : Bool := ((idB (m.1.getD i dN).1 && ptB (m.1.getD i dN).2.1) && tagsOk (m.1.getD i dN).2.2) && (decide (i = 0) || decide ((m.1.getD (i - 1) dN).1 < (m.1.getD i dN).1))
def okStop (m : Mp) (l : List Int) (j : Nat) : Bool := hasNode m (l.getD j 0) && (decide (j = 0) || !decide (l.getD j 0 = l.getD (j - 1) 0))
def okWay (m : Mp) (i : Nat) : Bool := ((((idB (m.2.1.getD i dW).1 && tagsOk (m.2.1.getD i dW).2.2) && decide (2 ≤ (m.2.1.getD i dW).2.1.length)) && decide ((m.2.1.getD i dW).2.1.length ≤ 2000)) && allTo (okStop m (m.2.1.getD i dW).2.1) (m.2.1.getD i dW).2.1.length) && (decide (i = 0) || decide ((m.2.1.getD (i - 1) dW).1 < (m.2.1.getD i dW).1))
def okPart (m : Mp) (l : List (Int × Bool)) (j : Nat) : Bool := hasWay m (l.getD j dP).1 && allTo (fun q => !decide ((l.getD q dP).1 = (l.getD j dP).1)) j
def okArea (m : Mp) (i : Nat) : Bool := ((((idB (m.2.2.getD i dA).1 && tagsOk (m.2.2.getD i dA).2.2) && decide (1 ≤ (m.2.2.getD i dA).2.1.length)) && decide ((m.2.2.getD i dA).2.1.length ≤ 30)) && allTo (okPart m (m.2.2.getD i dA).2.1) (m.2.2.getD i dA).2.1.length) && (decide (i = 0) || decide ((m.2.2.getD (i - 1) dA).1 < (m.2.2.getD i dA).1))
def lensOk (m : Mp) : Bool := (decide (m.1.length ≤ 5000) && decide (m.2.1.length ≤ 1000)) && decide (m.2.2.length ≤ 300)
def mapOk (m : Mp) : Bool := ((lensOk m && allTo (okNode m) m.1.length) && allTo (okWay m) m.2.1.length) && allTo (okArea m) m.2.2.length

structure MSz (m : Mp) : Prop where
  n : ∀ x ∈ m.1, TSz x.2.2
  w : ∀ x ∈ m.2.1, TSz x.2.2
  a : ∀ x ∈ m.2.2, TSz x.2.2
  wl : ∀ x ∈ m.2.1, x.2.1.length ≤ 1048576
  al : ∀ x ∈ m.2.2, x.2.1.length ≤ 1048576

theorem len_lt (n : Nat) (c : Nat) (C : Int) (h : C = (c : Int)) : decide ((n : Int) < C) = !decide (c ≤ n) := by
  subst h; rw [← decide_not]; exact decide_eq_decide.2 (by omega)

theorem node_id {m : Mp} (hs : allTo (okNode m) m.1.length = true) {i j : Nat} (hij : i < j) (hj : j < m.1.length) : (m.1.getD i dN).1 < (m.1.getD j dN).1 := by
  obtain ⟨d, rfl⟩ : ∃ d, j = i + d + 1 := ⟨j - i - 1, by omega⟩
  clear hij
  induction d with
  | zero =>
    have := allTo_iff.1 hs (i + 0 + 1) hj
    unfold okNode at this
    simp only [Bool.and_eq_true, Bool.or_eq_true, decide_eq_true_eq] at this
    rcases this.2 with h | h
    · omega
    · exact h
  | succ d ih =>
    have h1 := ih (by omega)
    have := allTo_iff.1 hs (i + (d + 1) + 1) hj
    unfold okNode at this
    simp only [Bool.and_eq_true, Bool.or_eq_true, decide_eq_true_eq] at this
    rcases this.2 with h | h
    · omega
    · rw [show i + (d + 1) + 1 - 1 = i + d + 1 by omega] at h
      omega

/-- Where a node lies in a map. -/
theorem has_iff {m : Mp} {x : Int} : hasNode m x = true ↔ ∃ i, i < m.1.length ∧ (m.1.getD i dN).1 = x := by
  unfold hasNode
  rw [decide_eq_true_eq, List.mem_map]
  constructor
  · rintro ⟨y, hy, rfl⟩
    obtain ⟨i, hi, rfl⟩ := List.mem_iff_getElem.1 hy
    exact ⟨i, hi, by simp [List.getD_eq_getElem?_getD, hi]⟩
  · rintro ⟨i, hi, rfl⟩
    exact ⟨_, in_getD hi, rfl⟩
theorem hasW_iff {m : Mp} {x : Int} : hasWay m x = true ↔ ∃ i, i < m.2.1.length ∧ (m.2.1.getD i dW).1 = x := by
  unfold hasWay
  rw [decide_eq_true_eq, List.mem_map]
  constructor
  · rintro ⟨y, hy, rfl⟩
    obtain ⟨i, hi, rfl⟩ := List.mem_iff_getElem.1 hy
    exact ⟨i, hi, by simp [List.getD_eq_getElem?_getD, hi]⟩
  · rintro ⟨i, hi, rfl⟩
    exact ⟨_, in_getD hi, rfl⟩

/-- A search in an ascending row. -/
theorem half {lo hi : Nat} (h : lo < hi) (hm : hi ≤ 1048576) : IntKind.i64.wrap (Int.tdiv (IntKind.i64.wrap ((lo : Int) + (hi : Int))) 2) = (((lo + hi) / 2 : Nat) : Int) := by
  rw [wrap_in (n := (lo : Int) + (hi : Int)) (by omega) (by omega), Int.tdiv_eq_ediv_of_nonneg (by omega), wrap_in (by omega) (by omega)]
  omega

theorem find138 (k : Nat) (m : Mp) (x : Int) (hm : m.1.length ≤ 1048576) (hasc : ∀ i j, i < j → j < m.1.length → (m.1.getD i dN).1 < (m.1.getD j dN).1) : ∀ (f lo hi : Nat), lo ≤ hi → hi ≤ m.1.length → hi - lo < f → (∀ j, j < lo → (m.1.getD j dN).1 < x) → (∀ j, hi ≤ j → j < m.1.length → x ≤ (m.1.getD j dN).1) →
    ∃ r, f138.l16 k m x f ((lo : Int), (hi : Int)) = some r ∧ ((hasNode m x = true ∧ ∃ i : Nat, r = (i : Int) ∧ i < m.1.length ∧ (m.1.getD i dN).1 = x) ∨ (hasNode m x = false ∧ r = -1))
  | 0, lo, hi, _, _, h, _, _ => by omega
  | f + 1, lo, hi, h1, h2, h3, hlo, hhi => by
    rw [f138.l16]
    by_cases hlt : lo < hi
    · have c1 : decide ((lo : Int) < (hi : Int)) = true := decide_eq_true (by omega)
      have hb : (0 : Int) ≤ (((lo + hi) / 2 : Nat) : Int) ∧ (((lo + hi) / 2 : Nat) : Int) < (m.1.length : Int) := ⟨by omega, by omega⟩
      rw [if_t c1, if_t (by decide), half hlt (by omega), if_t hb, Int.toNat_natCast]
      by_cases hx : (m.1.getD ((lo + hi) / 2) dN).1 < x
      · rw [if_t (decide_eq_true hx), wrap_s (by omega)]
        refine find138 k m x hm hasc f ((lo + hi) / 2 + 1) hi (by omega) h2 (by omega) (fun j hj => ?_) hhi
        by_cases hje : j = (lo + hi) / 2
        · subst hje; exact hx
        · have := hasc j ((lo + hi) / 2) (by omega) (by omega)
          omega
      · rw [if_f (by simpa using hx)]
        refine find138 k m x hm hasc f lo ((lo + hi) / 2) (by omega) (by omega) (by omega) hlo (fun j hj hj2 => ?_)
        by_cases hje : j = (lo + hi) / 2
        · subst hje; omega
        · have := hasc ((lo + hi) / 2) j (by omega) hj2
          omega
    · have hle : lo = hi := by omega
      subst hle
      have c1 : ¬ (decide ((lo : Int) < (lo : Int)) = true) := by simp
      rw [if_f c1]
      by_cases hl : lo < m.1.length
      · have hb : (0 : Int) ≤ (lo : Int) ∧ (lo : Int) < (m.1.length : Int) := ⟨by omega, by omega⟩
        have c2 : decide ((lo : Int) < (m.1.length : Int)) = true := decide_eq_true hb.2
        rw [if_t (fun _ => hb), c2, cond_true, Int.toNat_natCast]
        by_cases hx : (m.1.getD lo dN).1 = x
        · rw [if_t (beq_iff_eq.2 hx)]
          exact ⟨_, rfl, .inl ⟨has_iff.2 ⟨lo, hl, hx⟩, lo, rfl, hl, hx⟩⟩
        · rw [if_f (fun h => hx (beq_iff_eq.1 h))]
          refine ⟨_, rfl, .inr ⟨?_, rfl⟩⟩
          cases hh : hasNode m x with
          | false => rfl
          | true =>
            obtain ⟨i, hi, he⟩ := has_iff.1 hh
            rcases Nat.lt_trichotomy i lo with h | h | h
            · have := hlo i h; omega
            · subst h; exact absurd he hx
            · have := hhi lo (Nat.le_refl _) hl
              have := hasc lo i h hi
              omega
      · have c2 : decide ((lo : Int) < (m.1.length : Int)) = false := decide_eq_false (by omega)
        rw [c2, if_t (by simp), cond_false, if_f (by simp)]
        refine ⟨_, rfl, .inr ⟨?_, rfl⟩⟩
        cases hh : hasNode m x with
        | false => rfl
        | true =>
          obtain ⟨i, hi, he⟩ := has_iff.1 hh
          have := hlo i (by omega)
          omega
theorem e138 (k : Nat) (hk : 1048576 < k) (m : Mp) (x : Int) (hm : m.1.length ≤ 1048576) (hasc : ∀ i j, i < j → j < m.1.length → (m.1.getD i dN).1 < (m.1.getD j dN).1) : ∃ r, f138 k m x = some r ∧ ((hasNode m x = true ∧ ∃ i : Nat, r = (i : Int) ∧ i < m.1.length ∧ (m.1.getD i dN).1 = x) ∨ (hasNode m x = false ∧ r = -1)) :=
  find138 k m x hm hasc k 0 m.1.length (Nat.zero_le _) (Nat.le_refl _) (by omega) (fun j hj => by omega) (fun j h1 h2 => by omega)

theorem e243 (k : Nat) (hk : 1048576 < k) (m : Mp) (x : Int) (hm : m.2.1.length ≤ 1048576) : ∃ r, f243 k m x = some r ∧ decide (r < 0) = !hasWay m x := by
  have go : ∀ (d f i : Nat), m.2.1.length - i = d → d < f → i ≤ m.2.1.length → (∀ j, j < i → (m.2.1.getD j dW).1 ≠ x) → ∃ r, f243.l12 k m x f (i : Int) = some r ∧ decide (r < 0) = !hasWay m x := by
    intro d
    induction d with
    | zero =>
      intro f i h1 h2 h3 hn
      obtain ⟨f, rfl⟩ : ∃ q, f = q + 1 := ⟨f - 1, by omega⟩
      obtain rfl : i = m.2.1.length := by omega
      rw [f243.l12, if_f (by simp)]
      refine ⟨_, rfl, ?_⟩
      cases hh : hasWay m x with
      | false => rfl
      | true => obtain ⟨j, hj, he⟩ := hasW_iff.1 hh; exact absurd he (hn j hj)
    | succ d ih =>
      intro f i h1 h2 h3 hn
      obtain ⟨f, rfl⟩ : ∃ q, f = q + 1 := ⟨f - 1, by omega⟩
      have hlt : i < m.2.1.length := by omega
      have hb : (0 : Int) ≤ (i : Int) ∧ (i : Int) < (m.2.1.length : Int) := ⟨by omega, by omega⟩
      rw [f243.l12, if_t (decide_eq_true hb.2), if_t hb, Int.toNat_natCast]
      by_cases hx : (m.2.1.getD i dW).1 = x
      · rw [if_t (beq_iff_eq.2 hx)]
        refine ⟨_, rfl, ?_⟩
        rw [hasW_iff.2 ⟨i, hlt, hx⟩]
        simp
      · rw [if_f (fun h => hx (beq_iff_eq.1 h)), wrap_s (by omega)]
        exact ih f (i + 1) (by omega) (by omega) (by omega) (fun j hj => by
          by_cases hje : j = i
          · subst hje; exact hx
          · exact hn j (by omega))
  exact go m.2.1.length k 0 (by omega) (by omega) (Nat.zero_le _) (fun j hj => by omega)
end Go.Proofs.Ytchbpdnaodicaaa
