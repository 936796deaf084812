/-
  MakeGraph: the specification's rows and the program's maps make the same graph. No condition.
-/
import Derived.Test.YtchbpdnaodicaaaR3gds
import Derived.Test.YtchbpdnaodicaaaR3gsp
set_option linter.unusedVariables false
set_option linter.unusedSimpArgs false
namespace Go.Proofs.Ytchbpdnaodicaaa
open Go Go.Vm Go.Proofs V

/-! ### What is read of a way's tags -/
theorem speed_bd {k : Nat} {x : Tags} {v r : Int} (h : f137 k x v = some r) : 0 ≤ r ∧ r ≤ 30 := by
  have j4 : ∀ b r : Int, 0 ≤ b → b ≤ 30 → f137.j4 k x b = some r → 0 ≤ r ∧ r ≤ 30 := fun b r h0 h1 h => by
    unfold f137.j4 f137.j8 at h
    cases h2 : f141 k x (⟨#[109, 97, 120, 115, 112, 101, 101, 100]⟩ : ByteArray) with
    | none => rw [h2] at h; simp at h
    | some t =>
      rw [h2] at h
      simp only [Option.bind_some] at h
      cases h3 : f202 k t 30 with
      | none => rw [h3] at h; simp at h
      | some a =>
        rw [h3] at h
        simp only [Option.bind_some] at h
        by_cases ha : a ≥ 1
        · by_cases hb : a < b
          · simp [ha, hb] at h; omega
          · simp [ha, hb] at h; omega
        · simp [ha] at h; omega
  unfold f137 at h
  cases h2 : f141 k x (⟨#[104, 105, 103, 104, 119, 97, 121]⟩ : ByteArray) with
  | none => rw [h2] at h; simp at h
  | some t =>
    cases h3 : f141 k x (⟨#[97, 99, 99, 101, 115, 115]⟩ : ByteArray) with
    | none => rw [h2, h3] at h; simp at h
    | some u =>
      rw [h2, h3] at h
      simp only [Option.bind_some] at h
      split at h
      · cases h; omega
      · split at h
        · split at h
          · cases h; omega
          · cases h; omega
        · split at h
          · cases h; omega
          · split at h
            · exact j4 30 r (by omega) (by omega) h
            · split at h
              · exact j4 20 r (by omega) (by omega) h
              · split at h
                · exact j4 10 r (by omega) (by omega) h
                · exact j4 0 r (by omega) (by omega) h

theorem tag_size {k : Nat} {x : Tags} {s t : ByteArray} (hz : TSz x) (h : f150 k x s = some t) : t.size ≤ 1048576 := by
  unfold f150 at h
  cases h2 : f212 k x s with
  | none => rw [h2] at h; simp at h
  | some r =>
    rw [h2] at h
    simp only [Option.bind_some] at h
    split at h
    · split at h
      · rename_i hb
        cases h
        exact (hz _ (in_getD (by omega))).2
      · cases h
    · cases h
      show (0 : Nat) ≤ 1048576
      omega

def spd (k : Nat) (ts : Tags) (v : Int) : Int := (f137 k ts v).getD 0
def ony (k : Nat) (ts : Tags) (v : Int) : Int := (f139 k ts v).getD 0
abbrev nmB : ByteArray := (⟨#[110, 97, 109, 101]⟩ : ByteArray)
def nam (k : Nat) (ts : Tags) : ByteArray := (f141 k ts nmB).getD ⟨#[]⟩
theorem spd_ok (k : Nat) (hk : 1048576 < k) (ts : Tags) (hl : ts.length ≤ 1048576) (v : Int) : f137 k ts v = some (spd k ts v) ∧ f147 k ts v = some (spd k ts v) ∧ 0 ≤ spd k ts v ∧ spd k ts v ≤ 30 := by
  obtain ⟨r, h1, h2⟩ := speed_same k ts v (by omega) (by omega) (by omega)
  have hb := speed_bd h1
  have e : spd k ts v = r := by unfold spd; rw [h1]; rfl
  rw [e]
  exact ⟨h1, h2, hb.1, hb.2⟩
theorem ony_ok (k : Nat) (hk : 1048576 < k) (ts : Tags) (hl : ts.length ≤ 1048576) (v : Int) : f139 k ts v = some (ony k ts v) ∧ f148 k ts v = some (ony k ts v) := by
  obtain ⟨r, h1, h2⟩ := oneway_same k ts v (by omega) (by omega)
  have e : ony k ts v = r := by unfold ony; rw [h1]; rfl
  rw [e]
  exact ⟨h1, h2⟩
theorem nam_ok (k : Nat) (hk : 1048576 < k) (ts : Tags) (hl : ts.length ≤ 1048576) (hz : TSz ts) : f141 k ts nmB = some (nam k ts) ∧ f150 k ts nmB = some (nam k ts) ∧ (nam k ts).size ≤ 1048576 := by
  obtain ⟨r, h1, h2⟩ := tagof k ts nmB (by omega) (by omega)
  have e : nam k ts = r := by unfold nam; rw [h1]; rfl
  rw [e]
  exact ⟨h1, h2, tag_size hz h2⟩

/-! ### A map that is one -/
structure MOk (m : Mp) : Prop where
  n1 : m.1.length ≤ 5000
  n2 : m.2.1.length ≤ 1000
  asc : ∀ i j, i < j → j < m.1.length → (m.1.getD i dN).1 < (m.1.getD j dN).1
  pt : ∀ i, i < m.1.length → ptB (m.1.getD i dN).2.1 = true
  ways : ∀ i, i < m.2.1.length → 2 ≤ (m.2.1.getD i dW).2.1.length ∧ (m.2.1.getD i dW).2.1.length ≤ 2000 ∧ ∀ j, j < (m.2.1.getD i dW).2.1.length → hasNode m ((m.2.1.getD i dW).2.1.getD j 0) = true
theorem mok {m : Mp} (h : mapOk m = true) : MOk m := by
  unfold mapOk lensOk at h
  simp only [Bool.and_eq_true, decide_eq_true_eq] at h
  obtain ⟨⟨⟨⟨⟨h1, h2⟩, h3⟩, hn⟩, hw⟩, ha⟩ := h
  refine ⟨h1, h2, fun i j h h' => node_id hn h h', fun i hi => ?_, fun i hi => ?_⟩
  · have := allTo_iff.1 hn i hi
    unfold okNode at this
    simp only [Bool.and_eq_true] at this
    exact this.1.1.2
  · have := allTo_iff.1 hw i hi
    unfold okWay at this
    simp only [Bool.and_eq_true, decide_eq_true_eq] at this
    refine ⟨this.1.1.1.2, this.1.1.2, fun j hj => ?_⟩
    have := allTo_iff.1 this.1.2 j hj
    unfold okStop at this
    simp only [Bool.and_eq_true] at this
    exact this.1

def GB (y : Graph) : Prop := y.1.length ≤ 1048576 ∧ y.2.1.length ≤ 1048576 ∧ y.2.2.length ≤ 1048576 ∧ ∀ r ∈ y.2.1, ByteArray.size r.2.2.2.2.2 ≤ 1048576
def RNm (l : List Road) : Prop := ∀ r ∈ l, ByteArray.size r.2.2.2.2.2 ≤ 1048576
abbrev noG : Graph := (([] : (List (Int × (Int × Int)))), (([] : (List (Int × (Int × (Int × (Int × (Int × ByteArray))))))), ([] : (List (Int × Int)))))
theorem noG_b : GB noG := ⟨by simp, by simp, by simp, by simp⟩

/-! ### The end -/
theorem ends (k : Nat) (hk : 1048576 < k) (P : List Spot) (R : List Road) (hP : P.length ≤ 1048576) : ∃ b, f70 k (P, (R, ([] : (List (Int × Int))))) = some b ∧ f79 k (P, (R, ([] : (List (Int × Int))))) = some b ∧ (b = true → R.length ≤ 1048576) := by
  by_cases hR : R.length ≤ 1048576
  · exact ⟨_, spec70 k hk _ hP hR (by simp), impl79 k hk _ hP hR (by simp), fun _ => hR⟩
  · have h1 : decide ((List.length R : Int) > (8000 : Int)) = true := decide_eq_true (by omega)
    refine ⟨false, ?_, ?_, fun h => by cases h⟩
    · unfold f70
      simp only [h1]
      cases decide ((List.length P : Int) > (5000 : Int)) <;> rfl
    · unfold f79
      simp only [h1]
      cases decide ((List.length P : Int) > (5000 : Int)) <;> rfl

theorem ends_same (k : Nat) (hk : 1048576 < k) (P : List Spot) (R : List Road) (hP : P.length ≤ 1048576) (hR : RNm R) : ∃ y, GB y ∧
    ((f70 k (P, (R, ([] : (List (Int × Int)))))).bind fun r2408 => (if (!r2408) then (some noG) else (some (P, (R, ([] : (List (Int × Int)))))))) = some y ∧
    ((f79 k (P, (R, ([] : (List (Int × Int)))))).bind fun r2408 => (if (!r2408) then (some noG) else (some (P, (R, ([] : (List (Int × Int)))))))) = some y := by
  obtain ⟨b, b1, b2, b3⟩ := ends k hk P R hP
  rw [b1, b2]
  cases b with
  | false => exact ⟨noG, noG_b, rfl, rfl⟩
  | true => exact ⟨(P, (R, ([] : (List (Int × Int))))), ⟨hP, b3 rfl, by simp, hR⟩, rfl, rfl⟩

/-! ### Where a place lies -/
theorem find131 (k : Nat) (P : List Spot) (R : List Road) (B : List Ban) (hP : P.length ≤ 1048576) (hasc : ∀ i j, i < j → j < P.length → (P.getD i dS).1 < (P.getD j dS).1) (t : Nat) (ht : t < P.length) (x : Int) (hx : (P.getD t dS).1 = x) : ∀ (f lo hi : Nat), lo ≤ hi → hi ≤ P.length → hi - lo < f → lo ≤ t → t ≤ hi → (∀ j, hi ≤ j → j < P.length → x ≤ (P.getD j dS).1) →
    f131.l16 k (P, (R, B)) x f ((lo : Int), (hi : Int)) = some (t : Int)
  | 0, lo, hi, _, _, h, _, _, _ => by omega
  | f + 1, lo, hi, h1, h2, h3, hlo, hhi, hge => by
    rw [f131.l16]
    by_cases hlt : lo < hi
    · have c1 : decide ((lo : Int) < (hi : Int)) = true := decide_eq_true (by omega)
      have hb : (0 : Int) ≤ (((lo + hi) / 2 : Nat) : Int) ∧ (((lo + hi) / 2 : Nat) : Int) < (P.length : Int) := ⟨by omega, by omega⟩
      rw [if_t c1, if_t (by decide), half hlt (by omega), if_t hb, Int.toNat_natCast]
      by_cases hx2 : (P.getD ((lo + hi) / 2) dS).1 < x
      · rw [if_t (decide_eq_true hx2), wrap_s (by omega)]
        refine find131 k P R B hP hasc t ht x hx f ((lo + hi) / 2 + 1) hi (by omega) h2 (by omega) ?_ hhi hge
        rcases Nat.lt_trichotomy t ((lo + hi) / 2) with h | h | h
        · have := hasc t ((lo + hi) / 2) h (by omega); omega
        · subst h; omega
        · omega
      · rw [if_f (by simpa using hx2)]
        refine find131 k P R B hP hasc t ht x hx f lo ((lo + hi) / 2) (by omega) (by omega) (by omega) hlo ?_ (fun j hj hj2 => ?_)
        · rcases Nat.lt_trichotomy t ((lo + hi) / 2) with h | h | h
          · omega
          · omega
          · have := hasc ((lo + hi) / 2) t h ht; omega
        · by_cases hje : j = (lo + hi) / 2
          · subst hje; omega
          · have := hasc ((lo + hi) / 2) j (by omega) hj2
            omega
    · have e1 : lo = t := by omega
      have e2 : hi = t := by omega
      subst e1
      have c1 : ¬ (decide ((lo : Int) < (hi : Int)) = true) := by simp; omega
      have hb : (0 : Int) ≤ (lo : Int) ∧ (lo : Int) < (P.length : Int) := ⟨by omega, by omega⟩
      rw [if_f c1, if_t (fun _ => hb), decide_eq_true hb.2, cond_true, Int.toNat_natCast, if_t (beq_iff_eq.2 hx)]
theorem e131 (k : Nat) (hk : 1048576 < k) (P : List Spot) (R : List Road) (B : List Ban) (hP : P.length ≤ 1048576) (hasc : ∀ i j, i < j → j < P.length → (P.getD i dS).1 < (P.getD j dS).1) {t : Nat} (ht : t < P.length) {x : Int} (hx : (P.getD t dS).1 = x) : f131 k (P, (R, B)) x = some (t : Int) :=
  find131 k P R B hP hasc t ht x hx k 0 P.length (Nat.zero_le _) (Nat.le_refl _) (by omega) (Nat.zero_le _) (by omega) (fun j h1 h2 => by omega)

/-! ### The roads -/
abbrev mi (s : List (Int × Int)) (x : Int) : Int := mget (Sh.beq (.int .i64)) (some s) x 0
abbrev mp2 (s : Option (List (Int × (Int × Int)))) (x : Int) : Int × Int := mget (Sh.beq (.int .i64)) s x ((0 : Int), (0 : Int))
/-- A node that is shown: its number, in the row and in the map; its place. -/
structure Shown (m : Mp) (P : List Spot) (num : List (Int × Int)) (x : Int) : Prop where
  at_ : ∃ t p : Nat, t < P.length ∧ p < m.1.length ∧ (m.1.getD p dN).1 = x ∧ P.getD t dS = ((m.1.getD p dN).1, (m.1.getD p dN).2.1) ∧ mi num x = (t : Int)

def addR (ow : Int) (R : List Road) (a b : Road) : List Road :=
  let R1 := if ow = -1 then R else List.append R [a]
  if ow = 1 then R1 else List.append R1 [b]
theorem addR_len (ow : Int) (R : List Road) (a b : Road) : (addR ow R a b).length ≤ R.length + 2 := by
  unfold addR
  simp only
  split <;> split <;> simp
theorem addR_nm {ow : Int} {R : List Road} {a b : Road} (h : RNm R) (ha : ByteArray.size a.2.2.2.2.2 ≤ 1048576) (hb : ByteArray.size b.2.2.2.2.2 ≤ 1048576) : RNm (addR ow R a b) := fun r hr => by
  have key : r ∈ R ∨ r = a ∨ r = b := by
    unfold addR at hr
    simp only at hr
    split at hr <;> split at hr <;> (try simp at hr) <;> (first | exact .inl hr | (rcases hr with hr | hr | hr <;> simp [hr]) | (rcases hr with hr | hr <;> simp [hr]))
  rcases key with hr | hr | hr
  · exact h r hr
  · rw [hr]; exact ha
  · rw [hr]; exact hb

theorem tmax (T : Int) : (if (T : Int) > 1 then T else 1) = (if (T : Int) < 1 then 1 else T) := by split <;> split <;> omega

theorem road_loop {m : Mp} (hm : MOk m) (k : Nat) (hk : 1048576 < k) (x1 : Int) (P : List Spot) (hP : P.length ≤ 1048576) (hasc : ∀ i j, i < j → j < P.length → (P.getD i dS).1 < (P.getD j dS).1) (num : List (Int × Int)) (r2 : Option (List (Int × (Int × Int)))) (hat : ∀ p, p < m.1.length → mp2 r2 (m.1.getD p dN).1 = (m.1.getD p dN).2.1)
    (i : Nat) (hi : i < m.2.1.length) (hz : TSz (m.2.1.getD i dW).2.2) (hzl : (m.2.1.getD i dW).2.2.length ≤ 1048576) (sp : Int) (hsp : 0 < sp) (hsp2 : sp ≤ 30) (ow : Int) (hsh : ∀ j, j < (m.2.1.getD i dW).2.1.length → Shown m P num ((m.2.1.getD i dW).2.1.getD j 0))
    (qs : List Road × Int → Option Graph) (qi : List Road → Option Graph) (Bd : Nat) (hBd : Bd ≤ 4000000) (hq : ∀ R, R.length ≤ Bd + 4000 → RNm R → ∃ y, GB y ∧ qs (R, ((i + 1 : Nat) : Int)) = some y ∧ qi R = some y) :
    ∀ (d f f' j : Nat) (R : List Road), (m.2.1.getD i dW).2.1.length - j = d → d < f → d < f' → 1 ≤ j → j ≤ (m.2.1.getD i dW).2.1.length → R.length ≤ Bd + 2 * j → RNm R →
      ∃ y, GB y ∧ f62.l2270 k m (i : Int) sp P ow qs f (R, (j : Int)) = some y ∧ f64.l1757 k m (i : Int) r2 sp ow num qi f' (R, (j : Int)) = some y
  | d, 0, _, j, R, _, h, _, _, _, _, _ => by omega
  | d, f + 1, 0, j, R, _, _, h, _, _, _, _ => by omega
  | 0, f + 1, f' + 1, j, R, h, _, _, h1, hj, hR, hN => by
    obtain ⟨w1, w2, w3⟩ := hm.ways i hi
    obtain ⟨y, y1, y2, y3⟩ := hq R (by omega) hN
    rw [f62.l2270, f64.l1757]
    simp only [Int.toNat_natCast]
    have c1 : decide ((j : Int) < ((m.2.1.getD i dW).2.1.length : Int)) = false := decide_eq_false (by omega)
    rw [c1, cond_false, if_f (by simp), if_f (by simp), wrap_s (by have := hm.n2; omega)]
    exact ⟨y, y1, y2, y3⟩
  | d + 1, f + 1, f' + 1, 0, R, h, _, _, h1, hj, hR, hN => by omega
  | d + 1, f + 1, f' + 1, j + 1, R, h, hf, hf', h1, hj, hR, hN => by
    obtain ⟨w1, w2, w3⟩ := hm.ways i hi
    have n2 := hm.n2
    obtain ⟨nn1, nn2, nn3⟩ := nam_ok k hk (m.2.1.getD i dW).2.2 hzl hz
    have hlt : j + 1 < (m.2.1.getD i dW).2.1.length := by omega
    have hb0 : (0 : Int) ≤ (j : Int) ∧ (j : Int) < ((m.2.1.getD i dW).2.1.length : Int) := ⟨by omega, by omega⟩
    have hb1 : (0 : Int) ≤ ((j + 1 : Nat) : Int) ∧ ((j + 1 : Nat) : Int) < ((m.2.1.getD i dW).2.1.length : Int) := ⟨by omega, by omega⟩
    have c1 : decide (((j + 1 : Nat) : Int) < ((m.2.1.getD i dW).2.1.length : Int)) = true := decide_eq_true hb1.2
    have c2 : decide (sp > 0) = true := decide_eq_true hsp
    have c3 : sp ≠ 0 := by omega
    obtain ⟨⟨ta, pa, a1, a2, a3, a4, a5⟩⟩ := hsh j (by omega)
    obtain ⟨⟨tb, pb, b1, b2, b3, b4, b5⟩⟩ := hsh (j + 1) hlt
    have ea := e131 k hk P R [] hP hasc a1 (show (P.getD ta dS).1 = (m.2.1.getD i dW).2.1.getD j 0 by rw [a4]; exact a3)
    have eb := e131 k hk P R [] hP hasc b1 (show (P.getD tb dS).1 = (m.2.1.getD i dW).2.1.getD (j + 1) 0 by rw [b4]; exact b3)
    have ga := hat pa a2
    have gb := hat pb b2
    rw [a3] at ga
    rw [b3] at gb
    have ga' : mget (Sh.beq (.int .i64)) r2 ((m.2.1.getD i dW).2.1.getD j 0) ((0 : Int), (0 : Int)) = (m.1.getD pa dN).2.1 := ga
    have gb' : mget (Sh.beq (.int .i64)) r2 ((m.2.1.getD i dW).2.1.getD (j + 1) 0) ((0 : Int), (0 : Int)) = (m.1.getD pb dN).2.1 := gb
    have a5' : mget (Sh.beq (.int .i64)) (some num) ((m.2.1.getD i dW).2.1.getD j 0) (0 : Int) = (ta : Int) := a5
    have b5' : mget (Sh.beq (.int .i64)) (some num) ((m.2.1.getD i dW).2.1.getD (j + 1) 0) (0 : Int) = (tb : Int) := b5
    obtain ⟨ds, d1, d2, d3⟩ := dist_same k (by omega) (m.1.getD pa dN).2.1 (m.1.getD pb dN).2.1 (hm.pt pa a2) (hm.pt pb b2)
    have ha : (0 : Int) ≤ (ta : Int) ∧ (ta : Int) < (P.length : Int) := ⟨by omega, by omega⟩
    have hb : (0 : Int) ≤ (tb : Int) ∧ (tb : Int) < (P.length : Int) := ⟨by omega, by omega⟩
    have pA : (P.getD ta dS).2 = (m.1.getD pa dN).2.1 := by rw [a4]
    have pB : (P.getD tb dS).2 = (m.1.getD pb dN).2.1 := by rw [b4]
    generalize hT : IntKind.i64.wrap (Int.tdiv (IntKind.i64.wrap ((IntKind.i64.wrap ((ds : Int) + sp)) - 1)) sp) = T
    have sz : ∀ (L : List Road) (r : Road), L.length ≤ R.length + 1 → (L.length + [r].length) * 56 ≤ 140737488355328 := fun L r hL => by
      simp only [List.length_singleton]; omega
    have ih := fun R' hR' hN' => road_loop hm k hk x1 P hP hasc num r2 hat i hi hz hzl sp hsp hsp2 ow hsh qs qi Bd hBd hq d f f' (j + 1 + 1) R' (by omega) (by omega) (by omega) (by omega) (by omega) hR' hN'
    generalize hA : ((ta : Int), ((tb : Int), ((m.2.1.getD i dW).1, ((if (T : Int) < 1 then 1 else T), ((ds : Int), nam k (m.2.1.getD i dW).2.2))))) = rA
    generalize hB : ((tb : Int), ((ta : Int), ((m.2.1.getD i dW).1, ((if (T : Int) < 1 then 1 else T), ((ds : Int), nam k (m.2.1.getD i dW).2.2))))) = rB
    have spec : f62.l2270 k m (i : Int) sp P ow qs (f + 1) (R, ((j + 1 : Nat) : Int)) = f62.l2270 k m (i : Int) sp P ow qs f (addR ow R rA rB, ((j + 1 + 1 : Nat) : Int)) := by
      rw [f62.l2270]
      simp only [Int.toNat_natCast, wrap_p j (show j < 9223372036854775807 by omega)]
      rw [c1, c2, cond_true, if_t rfl, if_t hb0, ea, Option.bind_some, if_t hb1, eb, Option.bind_some, if_t ha, if_t hb, Int.toNat_natCast, Int.toNat_natCast, pA, pB, d1, Option.bind_some, if_t c3, hT]
      have fin : f62.j2389 k m (i : Int) ow R (ta : Int) (tb : Int) (ds : Int) (f62.j2384 k ((j + 1 : Nat) : Int) (f62.l2270 k m (i : Int) sp P ow qs f)) (if (T : Int) < 1 then 1 else T) = f62.l2270 k m (i : Int) sp P ow qs f (addR ow R rA rB, ((j + 1 + 1 : Nat) : Int)) := by
        unfold f62.j2389
        simp only [Int.toNat_natCast]
        rw [nn1, Option.bind_some, hA]
        unfold addR
        by_cases o1 : ow = -1
        · have o2 : ¬ ow = 1 := by omega
          rw [if_f (show ¬ ((ow != -1) = true) by simp [o1])]
          unfold f62.j2393
          simp only [Int.toNat_natCast]
          rw [hB, if_t (show (ow != 1) = true by simpa using o2), if_t (sz _ _ (by omega))]
          unfold f62.j2384
          rw [wrap_s (by omega)]
          simp only [if_pos o1, if_neg o2]
        · rw [if_t (show (ow != -1) = true by simpa using o1), if_t (sz _ _ (by omega))]
          unfold f62.j2393
          simp only [Int.toNat_natCast]
          rw [hB]
          by_cases o2 : ow = 1
          · rw [if_f (show ¬ ((ow != 1) = true) by simp [o2])]
            unfold f62.j2384
            rw [wrap_s (by omega)]
            simp only [if_neg o1, if_pos o2]
          · rw [if_t (show (ow != 1) = true by simpa using o2), if_t (sz _ _ (by simp))]
            unfold f62.j2384
            rw [wrap_s (by omega)]
            simp only [if_neg o1, if_neg o2]
      by_cases hT1 : T < 1
      · rw [if_t (decide_eq_true hT1)]
        rw [if_pos hT1] at fin
        exact fin
      · rw [if_f (by simpa using hT1)]
        rw [if_neg hT1] at fin
        exact fin
    have impl : f64.l1757 k m (i : Int) r2 sp ow num qi (f' + 1) (R, ((j + 1 : Nat) : Int)) = f64.l1757 k m (i : Int) r2 sp ow num qi f' (addR ow R rA rB, ((j + 1 + 1 : Nat) : Int)) := by
      rw [f64.l1757]
      simp only [Int.toNat_natCast, wrap_p j (show j < 9223372036854775807 by omega)]
      rw [if_t c1, if_t hb0, if_t hb1, ga', gb', d2, Option.bind_some, if_t c3, nn2, Option.bind_some, a5', b5', hT, tmax, hA]
      unfold addR
      by_cases o1 : ow = -1
      · have o2 : ¬ ow = 1 := by omega
        rw [if_f (show ¬ ((ow != -1) = true) by simp [o1])]
        unfold f64.j1868
        simp only [Int.toNat_natCast, wrap_p j (show j < 9223372036854775807 by omega)]
        rw [a5', b5', hT, tmax, hB, if_t (show (ow != 1) = true by simpa using o2), if_t (sz _ _ (by omega)), Option.bind_some]
        unfold f64.j1861
        rw [wrap_s (by omega)]
        simp only [if_pos o1, if_neg o2]
      · rw [if_t (show (ow != -1) = true by simpa using o1), if_t (sz _ _ (by omega)), Option.bind_some]
        unfold f64.j1868
        simp only [Int.toNat_natCast, wrap_p j (show j < 9223372036854775807 by omega)]
        rw [a5', b5', hT, tmax, hB]
        by_cases o2 : ow = 1
        · rw [if_f (show ¬ ((ow != 1) = true) by simp [o2])]
          unfold f64.j1861
          rw [wrap_s (by omega)]
          simp only [if_neg o1, if_pos o2]
        · rw [if_t (show (ow != 1) = true by simpa using o2), if_t (sz _ _ (by simp)), Option.bind_some]
          unfold f64.j1861
          rw [wrap_s (by omega)]
          simp only [if_neg o1, if_neg o2]
    rw [spec, impl]
    refine ih _ ?_ ?_
    · have := addR_len ow R rA rB; omega
    · refine addR_nm hN ?_ ?_
      · rw [← hA]; exact nn3
      · rw [← hB]; exact nn3

theorem ways_loop {m : Mp} (hm : MOk m) (hz : MSz m) (hzl : ∀ x ∈ m.2.1, x.2.2.length ≤ 1048576) (k : Nat) (hk : 1048576 < k) (x1 : Int) (P : List Spot) (hP : P.length ≤ 1048576) (hasc : ∀ i j, i < j → j < P.length → (P.getD i dS).1 < (P.getD j dS).1) (num : List (Int × Int)) (r2 : Option (List (Int × (Int × Int)))) (hat : ∀ p, p < m.1.length → mp2 r2 (m.1.getD p dN).1 = (m.1.getD p dN).2.1)
    (hsh : ∀ i, i < m.2.1.length → 0 < spd k (m.2.1.getD i dW).2.2 x1 → ∀ j, j < (m.2.1.getD i dW).2.1.length → Shown m P num ((m.2.1.getD i dW).2.1.getD j 0)) :
    ∀ (d f f' i : Nat) (R : List Road), m.2.1.length - i = d → d < f → d < f' → i ≤ m.2.1.length → R.length ≤ 4000 * i → RNm R →
      ∃ y, GB y ∧ f62.l1559 k m x1 P f (R, (i : Int)) = some y ∧ f64.l1100 k m x1 r2 num P f' (R, (i : Int)) = some y
  | d, 0, _, i, R, _, h, _, _, _, _ => by omega
  | d, f + 1, 0, i, R, _, _, h, _, _, _ => by omega
  | 0, f + 1, f' + 1, i, R, h, _, _, hi, hR, hN => by
    obtain rfl : i = m.2.1.length := by omega
    obtain ⟨y, y1, y2, y3⟩ := ends_same k hk P R hP hN
    rw [f62.l1559, f64.l1100, if_f (by simp), if_f (by simp)]
    exact ⟨y, y1, y2, y3⟩
  | d + 1, f + 1, f' + 1, i, R, h, hf, hf', hi, hR, hN => by
    have hlt : i < m.2.1.length := by omega
    have n2 := hm.n2
    have hmem := in_getD (d := dW) hlt
    obtain ⟨w1, w2, w3⟩ := hm.ways i hlt
    obtain ⟨s1, s2, s3, s4⟩ := spd_ok k hk (m.2.1.getD i dW).2.2 (hzl _ hmem) x1
    obtain ⟨o1, o2⟩ := ony_ok k hk (m.2.1.getD i dW).2.2 (hzl _ hmem) x1
    have hb : (0 : Int) ≤ (i : Int) ∧ (i : Int) < (m.2.1.length : Int) := ⟨by omega, by omega⟩
    have ih := fun R hR hN => ways_loop hm hz hzl k hk x1 P hP hasc num r2 hat hsh d f f' (i + 1) R (by omega) (by omega) (by omega) (by omega) hR hN
    have hs := hsh i hlt
    rw [f62.l1559, f64.l1100, if_t (decide_eq_true hb.2), if_t (decide_eq_true hb.2), if_t hb, if_t hb]
    simp only [Int.toNat_natCast]
    rw [s1, s2, o1, o2, Option.bind_some, Option.bind_some, Option.bind_some]
    generalize spd k (m.2.1.getD i dW).2.2 x1 = sp at *
    generalize ony k (m.2.1.getD i dW).2.2 x1 = ow at *
    by_cases h0 : sp = 0
    · obtain ⟨y, y1, y2, y3⟩ := ih R (by omega) hN
      obtain ⟨k', hk'⟩ : ∃ z, k = z + 1 := ⟨k - 1, by omega⟩
      have one : ∀ K, f62.l2270 K m (i : Int) sp P ow (f62.l1559 k m x1 P f) (k' + 1) (R, (1 : Int)) = f62.l1559 k m x1 P f (R, ((i + 1 : Nat) : Int)) := fun K => by
        rw [f62.l2270, h0]
        have c : decide ((0 : Int) > 0) = false := rfl
        rw [c, if_f (by cases decide ((1 : Int) < _) <;> simp), wrap_s (by omega)]
      have := one k
      rw [← hk'] at this
      rw [this, if_t (show (sp == 0) = true by simpa using h0)]
      unfold f64.j1754
      rw [wrap_s (by omega)]
      exact ⟨y, y1, y2, y3⟩
    · rw [if_f (show ¬ ((sp == 0) = true) by simpa using h0), Option.bind_some]
      refine road_loop hm k hk x1 P hP hasc num r2 hat i hlt (hz.w _ hmem) (hzl _ hmem) sp (by omega) s4 ow (hs (by omega)) (f62.l1559 k m x1 P f) (f64.j1754 k (i : Int) (f64.l1100 k m x1 r2 num P f')) (4000 * i) (by omega) (fun R' hR' hN' => ?_) _ k k 1 R rfl (by omega) (by omega) (Nat.le_refl _) (by omega) (by omega) hN
      unfold f64.j1754
      rw [wrap_s (by omega)]
      exact ih R' (by omega) hN'

/-! ### The places -/
structure PlI (m : Mp) (us : List Bool) (P : List Spot) (num : List (Int × Int)) (i : Nat) : Prop where
  len : P.length ≤ i
  asc : ∀ a b, a < b → b < P.length → (P.getD a dS).1 < (P.getD b dS).1
  src : ∀ a, a < P.length → ∃ p, p < i ∧ P.getD a dS = ((m.1.getD p dN).1, (m.1.getD p dN).2.1)
  has : ∀ p, p < i → us.getD p false = true → ∃ a, a < P.length ∧ P.getD a dS = ((m.1.getD p dN).1, (m.1.getD p dN).2.1) ∧ mi num (m.1.getD p dN).1 = (a : Int)

theorem mi_put (s : List (Int × Int)) (x v y : Int) : mi (mput (Sh.beq (.int .i64)) x v s) y = if y = x then v else mi s y := by
  unfold mi
  rw [mget_put (beq_int .i64)]
  by_cases h : y = x
  · have : Sh.beq (.int .i64) y x = true := (beq_int .i64 _ _).2 h
    rw [this, if_pos h]; rfl
  · have : Sh.beq (.int .i64) y x = false := by
      cases hb : Sh.beq (.int .i64) y x with
      | false => rfl
      | true => exact absurd ((beq_int .i64 _ _).1 hb) h
    rw [this, if_neg h]; rfl

theorem gd_app_l {α : Type} {d x : α} {l : List α} {i : Nat} (h : i < l.length) : (List.append l [x]).getD i d = l.getD i d := by
  show (l ++ [x]).getD i d = _
  simp [List.getD_eq_getElem?_getD, List.getElem?_append_left h]
theorem gd_app_r {α : Type} {d x : α} {l : List α} : (List.append l [x]).getD l.length d = x := by
  show (l ++ [x]).getD l.length d = _
  simp [List.getD_eq_getElem?_getD]

theorem PlI.add {m : Mp} (hm : MOk m) {us : List Bool} {P : List Spot} {num : List (Int × Int)} {i : Nat} (hi : i < m.1.length) (h : PlI m us P num i) :
    PlI m us (List.append P [((m.1.getD i dN).1, (m.1.getD i dN).2.1)]) (mput (Sh.beq (.int .i64)) (m.1.getD i dN).1 (P.length : Int) num) (i + 1) where
  len := by have := h.len; simp; omega
  asc a b hab hb := by
    have hlen : (List.append P [((m.1.getD i dN).1, (m.1.getD i dN).2.1)]).length = P.length + 1 := by simp
    rw [hlen] at hb
    rw [gd_app_l (by omega)]
    by_cases hbl : b < P.length
    · rw [gd_app_l hbl]; exact h.asc a b hab hbl
    · obtain rfl : b = P.length := by omega
      rw [gd_app_r]
      obtain ⟨p, hp, he⟩ := h.src a (by omega)
      rw [he]
      exact hm.asc p i hp hi
  src a ha := by
    have hlen : (List.append P [((m.1.getD i dN).1, (m.1.getD i dN).2.1)]).length = P.length + 1 := by simp
    rw [hlen] at ha
    by_cases hal : a < P.length
    · rw [gd_app_l hal]
      obtain ⟨p, hp, he⟩ := h.src a hal
      exact ⟨p, by omega, he⟩
    · obtain rfl : a = P.length := by omega
      exact ⟨i, by omega, gd_app_r⟩
  has p hp hu := by
    have hlen : (List.append P [((m.1.getD i dN).1, (m.1.getD i dN).2.1)]).length = P.length + 1 := by simp
    by_cases hpi : p = i
    · subst hpi
      refine ⟨P.length, by rw [hlen]; omega, gd_app_r, ?_⟩
      rw [mi_put, if_pos rfl]
    · obtain ⟨a, a1, a2, a3⟩ := h.has p (by omega) hu
      refine ⟨a, by rw [hlen]; omega, by rw [gd_app_l a1]; exact a2, ?_⟩
      have := hm.asc p i (by omega) hi
      rw [mi_put, if_neg (by omega)]
      exact a3

theorem place_loop {m : Mp} (hm : MOk m) (k : Nat) (hk : 1048576 < k) (x1 : Int) (us : List Bool) (hs : List (Int × Bool)) (hul : us.length = m.1.length) (hR : ∀ p, p < m.1.length → us.getD p false = mg hs (m.1.getD p dN).1) (r2 : Option (List (Int × (Int × Int))))
    (hq : ∀ P num, PlI m us P num m.1.length → ∃ y, GB y ∧ f62.l1559 k m x1 P k (([] : (List (Int × (Int × (Int × (Int × (Int × ByteArray))))))), (0 : Int)) = some y ∧ f64.l1100 k m x1 r2 num P k (([] : (List (Int × (Int × (Int × (Int × (Int × ByteArray))))))), (0 : Int)) = some y) :
    ∀ (d f f' i : Nat) (P : List Spot) (num : List (Int × Int)), m.1.length - i = d → d < f → d < f' → i ≤ m.1.length → PlI m us P num i →
      ∃ y, GB y ∧ f62.l671 k m us x1 f (P, (i : Int)) = some y ∧ f64.l283 k m hs x1 r2 f' (P, num, (i : Int)) = some y
  | d, 0, _, i, P, num, _, h, _, _, _ => by omega
  | d, f + 1, 0, i, P, num, _, _, h, _, _ => by omega
  | 0, f + 1, f' + 1, i, P, num, h, _, _, hi, hI => by
    obtain rfl : i = m.1.length := by omega
    obtain ⟨y, y1, y2, y3⟩ := hq P num hI
    rw [f62.l671, f64.l283, if_f (by simp), if_f (by simp)]
    exact ⟨y, y1, y2, y3⟩
  | d + 1, f + 1, f' + 1, i, P, num, h, hf, hf', hi, hI => by
    have hlt : i < m.1.length := by omega
    have n1 := hm.n1
    have hb : (0 : Int) ≤ (i : Int) ∧ (i : Int) < (m.1.length : Int) := ⟨by omega, by omega⟩
    have hbu : (0 : Int) ≤ (i : Int) ∧ (i : Int) < (us.length : Int) := ⟨by omega, by omega⟩
    have ih := fun P num hI => place_loop hm k hk x1 us hs hul hR r2 hq d f f' (i + 1) P num (by omega) (by omega) (by omega) (by omega) hI
    have hu := hR i hlt
    have hl := hI.len
    rw [f62.l671, f64.l283, if_t (decide_eq_true hb.2), if_t (decide_eq_true hb.2)]
    simp only [Int.toNat_natCast, if_t hb, if_t hbu]
    have hu' : mget (Sh.beq (.int .i64)) (some hs) (m.1.getD i dN).1 false = us.getD i false := hu.symm
    rw [hu']
    cases hc : us.getD i false with
    | true =>
      have sz : ∀ r : Spot, (P.length + [r].length) * 24 ≤ 140737488355328 := fun r => by simp only [List.length_singleton]; omega
      simp only [if_true, if_t (sz _)]
      unfold f62.j705 f64.j314
      rw [wrap_s (by omega)]
      exact ih _ _ (hI.add hm hlt)
    | false =>
      simp only [Bool.false_eq_true, if_false]
      unfold f62.j705 f64.j314
      rw [wrap_s (by omega)]
      refine ih P num ⟨by omega, hI.asc, fun a ha => ?_, fun p hp hu2 => ?_⟩
      · obtain ⟨p, hp, he⟩ := hI.src a ha
        exact ⟨p, by omega, he⟩
      · by_cases hpi : p = i
        · rw [hpi, hc] at hu2; cases hu2
        · exact hI.has p (by omega) hu2

/-! ### The nodes that are used -/
structure UsI (m : Mp) (us : List Bool) (hs : List (Int × Bool)) : Prop where
  len : us.length = m.1.length
  eq : ∀ p, p < m.1.length → us.getD p false = mg hs (m.1.getD p dN).1
theorem UsI.set {m : Mp} (hm : MOk m) {us : List Bool} {hs : List (Int × Bool)} (h : UsI m us hs) {r : Nat} (hr : r < m.1.length) : UsI m (us.set r true) (mput (Sh.beq (.int .i64)) (m.1.getD r dN).1 true hs) where
  len := by rw [List.length_set]; exact h.len
  eq p hp := by
    rw [mg_put]
    by_cases hpr : p = r
    · subst hpr
      rw [gd_set_eq (by rw [h.len]; exact hp)]; simp
    · have hne : ¬ (m.1.getD p dN).1 = (m.1.getD r dN).1 := by
        rcases Nat.lt_or_gt_of_ne hpr with hl | hl
        · have := hm.asc p r hl hr; omega
        · have := hm.asc r p hl hp; omega
      rw [gd_set_ne (Ne.symm hpr), h.eq p hp, decide_eq_false hne, Bool.false_or]

theorem use_in {m : Mp} (hm : MOk m) (k : Nat) (hk : 1048576 < k) (x1 : Int) (i : Nat) (hi : i < m.2.1.length) (hsp : f137 k (m.2.1.getD i dW).2.2 x1 = some (spd k (m.2.1.getD i dW).2.2 x1)) (hp : 0 < spd k (m.2.1.getD i dW).2.2 x1)
    (qs : List Bool × Int → Option Graph) (qi : List (Int × Bool) → Option Graph) (hs0 : List (Int × Bool))
    (hq : ∀ us hs, UsI m us hs → (∀ x, mg hs0 x = true → mg hs x = true) → (∀ j, j < (m.2.1.getD i dW).2.1.length → mg hs ((m.2.1.getD i dW).2.1.getD j 0) = true) → ∃ y, GB y ∧ qs (us, ((i + 1 : Nat) : Int)) = some y ∧ qi hs = some y) :
    ∀ (d f f' j : Nat) (us : List Bool) (hs : List (Int × Bool)), (m.2.1.getD i dW).2.1.length - j = d → d < f → d < f' → j ≤ (m.2.1.getD i dW).2.1.length → UsI m us hs → (∀ x, mg hs0 x = true → mg hs x = true) → (∀ q, q < j → mg hs ((m.2.1.getD i dW).2.1.getD q 0) = true) →
      ∃ y, GB y ∧ f62.l581 k (i : Int) m x1 qs f (us, (j : Int)) = some y ∧ f64.l232 k m (i : Int) qi f' (hs, (j : Int)) = some y
  | d, 0, _, j, us, hs, _, h, _, _, _, _, _ => by omega
  | d, f + 1, 0, j, us, hs, _, _, h, _, _, _, _ => by omega
  | 0, f + 1, f' + 1, j, us, hs, h, _, _, hj, hU, h0, hd => by
    have n2 := hm.n2
    have hb : (0 : Int) ≤ (i : Int) ∧ (i : Int) < (m.2.1.length : Int) := ⟨by omega, by omega⟩
    obtain ⟨y, y1, y2, y3⟩ := hq us hs hU h0 (fun q hq => hd q (by omega))
    have c1 : decide ((j : Int) < ((m.2.1.getD i dW).2.1.length : Int)) = false := decide_eq_false (by omega)
    rw [f62.l581, f64.l232]
    simp only [Int.toNat_natCast]
    rw [if_t hb, c1, if_t (by simp), if_f (by simp), Option.bind_some, cond_false, if_f (by simp), if_f (by simp), wrap_s (by omega)]
    exact ⟨y, y1, y2, y3⟩
  | d + 1, f + 1, f' + 1, j, us, hs, h, hf, hf', hj, hU, h0, hd => by
    have n1 := hm.n1
    have hlt : j < (m.2.1.getD i dW).2.1.length := by omega
    obtain ⟨w1, w2, w3⟩ := hm.ways i hi
    have hb : (0 : Int) ≤ (i : Int) ∧ (i : Int) < (m.2.1.length : Int) := ⟨by omega, by omega⟩
    have hbj : (0 : Int) ≤ (j : Int) ∧ (j : Int) < ((m.2.1.getD i dW).2.1.length : Int) := ⟨by omega, by omega⟩
    have c1 : decide ((j : Int) < ((m.2.1.getD i dW).2.1.length : Int)) = true := decide_eq_true hbj.2
    obtain ⟨r, r1, r2⟩ := e138 k hk m ((m.2.1.getD i dW).2.1.getD j 0) (by omega) hm.asc
    have hh := w3 j hlt
    obtain ⟨p, p1, p2, p3⟩ : ∃ p : Nat, r = (p : Int) ∧ p < m.1.length ∧ (m.1.getD p dN).1 = (m.2.1.getD i dW).2.1.getD j 0 := by
      rcases r2 with ⟨_, p, h⟩ | ⟨h, _⟩
      · exact ⟨p, h⟩
      · rw [hh] at h; cases h
    subst p1
    clear r2
    have hbu : (0 : Int) ≤ (p : Int) ∧ (p : Int) < (us.length : Int) := ⟨by omega, by rw [hU.len]; omega⟩
    have ih := use_in hm k hk x1 i hi hsp hp qs qi hs0 hq d f f' (j + 1) (us.set p true) (mput (Sh.beq (.int .i64)) (m.1.getD p dN).1 true hs) (by omega) (by omega) (by omega) (by omega) (hU.set hm p2) (fun x hx => by rw [mg_put, h0 x hx, Bool.or_true]) (fun q hq => by
      rw [mg_put]
      by_cases hqj : q = j
      · subst hqj; rw [p3]; simp
      · rw [hd q (by omega), Bool.or_true])
    rw [f62.l581, f64.l232]
    simp only [Int.toNat_natCast]
    simp only [if_t hb, c1, if_true, true_implies, hsp, Option.bind_some, cond_true, if_t (decide_eq_true hp), if_t hbj, r1, if_t hbu, Int.toNat_natCast]
    rw [wrap_s (by omega), ← p3]
    exact ih

theorem use_loop {m : Mp} (hm : MOk m) (hzl : ∀ x ∈ m.2.1, x.2.2.length ≤ 1048576) (k : Nat) (hk : 1048576 < k) (x1 : Int) (r2 : Option (List (Int × (Int × Int))))
    (hq : ∀ us hs, UsI m us hs → (∀ i, i < m.2.1.length → 0 < spd k (m.2.1.getD i dW).2.2 x1 → ∀ j, j < (m.2.1.getD i dW).2.1.length → mg hs ((m.2.1.getD i dW).2.1.getD j 0) = true) → ∃ y, GB y ∧ f62.l671 k m us x1 k (([] : (List (Int × (Int × Int)))), (0 : Int)) = some y ∧ f64.l283 k m hs x1 r2 k (([] : (List (Int × (Int × Int)))), ([] : (List (Int × Int))), (0 : Int)) = some y) :
    ∀ (d f f' i : Nat) (us : List Bool) (hs : List (Int × Bool)), m.2.1.length - i = d → d < f → d < f' → i ≤ m.2.1.length → UsI m us hs → (∀ i', i' < i → 0 < spd k (m.2.1.getD i' dW).2.2 x1 → ∀ j, j < (m.2.1.getD i' dW).2.1.length → mg hs ((m.2.1.getD i' dW).2.1.getD j 0) = true) →
      ∃ y, GB y ∧ f62.l317 k m x1 f (us, (i : Int)) = some y ∧ f64.l126 k m x1 r2 f' (hs, (i : Int)) = some y
  | d, 0, _, i, us, hs, _, h, _, _, _, _ => by omega
  | d, f + 1, 0, i, us, hs, _, _, h, _, _, _ => by omega
  | 0, f + 1, f' + 1, i, us, hs, h, _, _, hi, hU, hd => by
    obtain rfl : i = m.2.1.length := by omega
    obtain ⟨y, y1, y2, y3⟩ := hq us hs hU hd
    rw [f62.l317, f64.l126, if_f (by simp), if_f (by simp)]
    exact ⟨y, y1, y2, y3⟩
  | d + 1, f + 1, f' + 1, i, us, hs, h, hf, hf', hi, hU, hd => by
    have hlt : i < m.2.1.length := by omega
    have n2 := hm.n2
    have hmem := in_getD (d := dW) hlt
    obtain ⟨w1, w2, w3⟩ := hm.ways i hlt
    obtain ⟨s1, s2, s3, s4⟩ := spd_ok k hk (m.2.1.getD i dW).2.2 (hzl _ hmem) x1
    have hb : (0 : Int) ≤ (i : Int) ∧ (i : Int) < (m.2.1.length : Int) := ⟨by omega, by omega⟩
    have ih := fun us hs hU hd => use_loop hm hzl k hk x1 r2 hq d f f' (i + 1) us hs (by omega) (by omega) (by omega) (by omega) hU hd
    rw [f62.l317, f64.l126, if_t (decide_eq_true hb.2), if_t (decide_eq_true hb.2), if_t hb]
    simp only [Int.toNat_natCast]
    rw [s2, Option.bind_some]
    by_cases hp : 0 < spd k (m.2.1.getD i dW).2.2 x1
    · rw [if_t (decide_eq_true hp)]
      refine use_in hm k hk x1 i hlt s1 hp (f62.l317 k m x1 f) (f64.j230 k (i : Int) (f64.l126 k m x1 r2 f')) hs (fun us' hs' hU' h0' hd' => ?_) _ k k 0 us hs rfl (by omega) (by omega) (Nat.zero_le _) hU (fun x hx => hx) (fun q hq => by omega)
      unfold f64.j230
      rw [wrap_s (by omega)]
      refine ih us' hs' hU' (fun i' hi' hp' j hj => ?_)
      by_cases hii : i' = i
      · subst hii; exact hd' j hj
      · exact h0' _ (hd i' (by omega) hp' j hj)
    · rw [if_f (by simpa using hp)]
      unfold f64.j230
      obtain ⟨y, y1, y2, y3⟩ := ih us hs hU (fun i' hi' hp' j hj => by
        by_cases hii : i' = i
        · subst hii; exact absurd hp' hp
        · exact hd i' (by omega) hp' j hj)
      rw [wrap_s (by omega)]
      refine ⟨y, y1, ?_, y3⟩
      obtain ⟨k', hk'⟩ : ∃ z, k = z + 1 := ⟨k - 1, by omega⟩
      have one : ∀ K, f137 K (m.2.1.getD i dW).2.2 x1 = some (spd k (m.2.1.getD i dW).2.2 x1) → f62.l581 K (i : Int) m x1 (f62.l317 k m x1 f) (k' + 1) (us, (0 : Int)) = f62.l317 k m x1 f (us, ((i + 1 : Nat) : Int)) := fun K hK => by
        have hpos : decide ((0 : Int) < ((m.2.1.getD i dW).2.1.length : Int)) = true := decide_eq_true (by omega)
        rw [f62.l581]
        simp only [Int.toNat_natCast]
        rw [if_t hb, if_t (fun _ => hb), hpos, if_t rfl, hK, Option.bind_some, cond_true, if_f (by simpa using hp), wrap_s (by omega)]
      have := one k s1
      rw [← hk'] at this
      rw [this]
      exact y2

theorem e146 {m : Mp} (hm : MOk m) (k : Nat) (hk : 1048576 < k) : ∃ s, f146 k m = some (some s) ∧ ∀ p, p < m.1.length → mp2 (some s) (m.1.getD p dN).1 = (m.1.getD p dN).2.1 := by
  have n1 := hm.n1
  obtain ⟨s, h1, h2⟩ := foldLoop (L := f146.l16 k m) (n := m.1.length) (fin := fun s => some (some s)) (g := fun i s => mput (Sh.beq (.int .i64)) (m.1.getD i dN).1 (m.1.getD i dN).2.1 s)
    (Inv := fun i s => ∀ p, p < i → mp2 (some s) (m.1.getD p dN).1 = (m.1.getD p dN).2.1) (fun f i s hi hs => by
      have hb : (0 : Int) ≤ (i : Int) ∧ (i : Int) < (m.1.length : Int) := ⟨by omega, by omega⟩
      refine ⟨fun p hp => ?_, ?_⟩
      · unfold mp2
        rw [mget_put (beq_int .i64)]
        by_cases hpi : p = i
        · subst hpi
          have : Sh.beq (.int .i64) (m.1.getD p dN).1 (m.1.getD p dN).1 = true := (beq_int .i64 _ _).2 rfl
          rw [this]; rfl
        · have hne := hm.asc p i (by omega) hi
          have : Sh.beq (.int .i64) (m.1.getD p dN).1 (m.1.getD i dN).1 = false := by
            cases hb : Sh.beq (.int .i64) (m.1.getD p dN).1 (m.1.getD i dN).1 with
            | false => rfl
            | true => have := (beq_int .i64 _ _).1 hb; omega
          rw [this]
          exact hs p (by omega)
      · rw [f146.l16, if_t (decide_eq_true hb.2), if_t hb, wrap_s (by omega)]
        simp only [Int.toNat_natCast]) (fun f s _ => by rw [f146.l16, if_f (by simp)]) k 0 [] (fun p hp => by omega) (Nat.zero_le _) (by omega)
  exact ⟨s, h2, h1⟩

theorem same_make (k : Nat) (hk : 1048576 < k) (m : Mp) (hz : MSz m) (hzl : ∀ x ∈ m.2.1, x.2.2.length ≤ 1048576) (x1 : Int) : ∃ y, GB y ∧ f62 k m x1 = some y ∧ f64 k m x1 = some y := by
  unfold f62 f64
  rw [e136 k hk m hz, e145 k hk m hz, Option.bind_some, Option.bind_some]
  by_cases hc : (bif (!mapOk m) then true else (bif ((x1 : Int) != (1 : Int)) then ((x1 : Int) != (2 : Int)) else false)) = true
  · rw [if_t hc, if_t hc]
    exact ⟨_, noG_b, rfl, rfl⟩
  · rw [if_f hc, if_f hc]
    have hmo : mapOk m = true := by
      cases h : mapOk m with
      | true => rfl
      | false => rw [h] at hc; exact absurd rfl hc
    have hm := mok hmo
    have n1 := hm.n1
    have n2 := hm.n2
    obtain ⟨s, s1, s2⟩ := e146 hm k hk
    rw [s1, Option.bind_some, if_t ⟨by omega, by rw [Int.toNat_natCast]; omega⟩, Int.toNat_natCast]
    have hrep : ∀ p, (List.replicate m.1.length false).getD p false = false := fun p => by
      rw [List.getD_eq_getElem?_getD, List.getElem?_replicate]; split <;> rfl
    refine use_loop hm hzl k hk x1 (some s) (fun us hs hU hd => ?_) _ k k 0 (List.replicate m.1.length false) [] rfl (by omega) (by omega) (Nat.zero_le _) ⟨by simp, fun p hp => by rw [hrep, mg_nil]⟩ (fun i' hi' => by omega)
    refine place_loop hm k hk x1 us hs hU.len hU.eq (some s) (fun P num hP => ?_) _ k k 0 [] [] rfl (by omega) (by omega) (Nat.zero_le _) ⟨by simp, fun a b h1 h2 => by simp at h2, fun a h => by simp at h, fun p h => by omega⟩
    refine ways_loop hm hz hzl k hk x1 P (by have := hP.len; omega) hP.asc num (some s) s2 (fun i hi hp j hj => ?_) _ k k 0 [] rfl (by omega) (by omega) (Nat.zero_le _) (by simp) (fun r hr => by simp at hr)
    obtain ⟨w1, w2, w3⟩ := hm.ways i hi
    obtain ⟨p, p1, p2⟩ := has_iff.1 (w3 j hj)
    have hu := hU.eq p p1
    rw [p2, hd i hi hp j hj] at hu
    obtain ⟨a, a1, a2, a3⟩ := hP.has p p1 hu
    exact ⟨⟨a, p, a1, p1, p2, a2, by rw [← p2]; exact a3⟩⟩
end Go.Proofs.Ytchbpdnaodicaaa
