/-
  Speeds and directions of ways: alike in the specification and the program. No condition.
-/
import Derived.Test.YtchbpdnaodicaaaR3gmo
set_option linter.unusedVariables false
set_option linter.unusedSimpArgs false
namespace Go.Proofs.Ytchbpdnaodicaaa
open Go Go.Vm Go.Proofs V

theorem find18 (k : Nat) (x : Tags) (s : ByteArray) (hx : x.length ≤ 9223372036854775807) : ∀ (m i : Nat), i ≤ x.length → x.length - i < m →
    ∃ r t, f212.l12 k x s m (i : Int) = some r ∧ f141.l18 k x s m (i : Int) = some t ∧ (if (decide ((r : Int) ≥ (0 : Int))) then (if (0 ≤ r ∧ r < (List.length x : Int)) then (some (List.getD x (Int.toNat r) ((⟨#[]⟩ : ByteArray), (⟨#[]⟩ : ByteArray))).2) else none) else (some (⟨#[]⟩ : ByteArray))) = some t
  | 0, i, _, h => by omega
  | m + 1, i, hi, h => by
    rw [f212.l12, f141.l18]
    by_cases hlt : i < x.length
    · have h1 : (decide ((i : Int) < (List.length x : Int))) = true := by simpa using hlt
      have hbd : (0 : Int) ≤ (i : Int) ∧ (i : Int) < (List.length x : Int) := ⟨by omega, by omega⟩
      rw [h1, if_t rfl, if_t rfl, if_t hbd, if_t hbd]
      by_cases hb : (ByteArray.toList (List.getD x (Int.toNat (i : Int)) ((⟨#[]⟩ : ByteArray), (⟨#[]⟩ : ByteArray))).1 == ByteArray.toList s) = true
      · rw [if_t hb, if_t hb, if_t hbd]
        refine ⟨_, _, rfl, rfl, ?_⟩
        rw [if_t (by simp), if_t hbd]
      · rw [if_f hb, if_f hb, wrap_s (by omega)]
        exact find18 k x s hx m (i + 1) (by omega) (by omega)
    · have h1 : (decide ((i : Int) < (List.length x : Int))) = false := by simpa using hlt
      rw [h1, if_f (by simp), if_f (by simp)]
      refine ⟨_, _, rfl, rfl, ?_⟩
      rw [if_f (by simp)]

theorem tagof (k : Nat) (x : Tags) (s : ByteArray) (hx : x.length ≤ 9223372036854775807) (hk : x.length < k) : ∃ t, f141 k x s = some t ∧ f150 k x s = some t := by
  obtain ⟨r, t, h1, h2, h3⟩ := find18 k x s hx k 0 (by omega) (by omega)
  refine ⟨t, h2, ?_⟩
  unfold f150 f212
  have h1' : f212.l12 k x s k (0 : Int) = some r := h1
  rw [h1']
  exact h3


theorem wrap8 {n : Int} (h1 : 0 ≤ n) (h2 : n ≤ 255) : IntKind.u8.wrap n = n := by
  simp [IntKind.wrap, IntKind.signed, IntKind.bits]
  omega
theorem pow10 {i : Nat} (h : i ≤ 10) : 10 ^ i ≤ 10000000000 := Nat.pow_le_pow_right (n := 10) (by decide) h

theorem digit {u i : Nat} {b : Int} (hi : i < 10) (hu : u < 10 ^ i) (h1 : ¬ b < 48) (h2 : ¬ b > 57) :
    ∃ u' : Nat, IntKind.i64.wrap (IntKind.i64.wrap ((u : Int) * 10) + IntKind.i64.wrap (IntKind.u8.wrap (b - 48))) = (u' : Int) ∧ u ≤ u' ∧ u' < 10 ^ (i + 1) := by
  have hp := pow10 (i := i) (by omega)
  refine ⟨u * 10 + (b - 48).toNat, ?_, by omega, ?_⟩
  · rw [wrap8 (by omega) (by omega), wrap_in (n := b - 48) (by omega) (by omega), wrap_in (n := (u : Int) * 10) (by omega) (by omega), wrap_in (by omega) (by omega)]
    omega
  · rw [Nat.pow_succ]; omega

theorem numA (k : Nat) (s : ByteArray) (mx : Nat) (hs : s.size ≤ 10) : ∀ (m i u : Nat), i ≤ s.size → s.size - i < m → mx < u → u < 10 ^ i → f202.l28 k s mx m ((u : Int), (i : Int)) = some (-1)
  | 0, i, u, _, h, _, _ => by omega
  | m + 1, i, u, hi, h, hm, hu => by
    rw [f202.l28]
    by_cases hlt : i < s.size
    · have hbd : (0 : Int) ≤ (i : Int) ∧ (i : Int) < (ByteArray.size s : Int) := ⟨by omega, by omega⟩
      rw [if_t (by simpa using hlt), if_t hbd, if_t (fun _ => hbd)]
      by_cases h1 : byteAt s (i : Int) < 48
      · rw [if_t (by simp [h1])]
      · by_cases h2 : byteAt s (i : Int) > 57
        · rw [if_t (by simp [h1, h2])]
        · rw [if_f (by simp [h1]; omega), if_t hbd, wrap_s (by omega)]
          obtain ⟨u', e, h3, h4⟩ := digit (by omega) hu h1 h2
          rw [e]
          exact numA k s mx hs m (i + 1) u' (by omega) (by omega) (by omega) h4
    · rw [if_f (by simpa using hlt), if_t (by simp; omega)]

theorem numB (k : Nat) (s : ByteArray) (mx : Nat) (hs : s.size ≤ 10) : ∀ (m i u : Nat), i ≤ s.size → s.size - i < m → u ≤ mx → u < 10 ^ i →
    ∃ (a p : Int) (ok : Bool), f202.l28 k s mx m ((u : Int), (i : Int)) = some a ∧ f209.l28 k s mx m ((u : Int), (i : Int)) = some (p, ok) ∧ a = (bif ok then p else -1)
  | 0, i, u, _, h, _, _ => by omega
  | m + 1, i, u, hi, h, hm, hu => by
    rw [f202.l28, f209.l28]
    by_cases hlt : i < s.size
    · have hbd : (0 : Int) ≤ (i : Int) ∧ (i : Int) < (ByteArray.size s : Int) := ⟨by omega, by omega⟩
      have hl : (decide ((i : Int) < (ByteArray.size s : Int))) = true := by simpa using hlt
      have hbd2 : ((decide ((byteAt s (i : Int) : Int) < 48)) = false → (0 : Int) ≤ (i : Int) ∧ (i : Int) < (ByteArray.size s : Int)) := fun _ => hbd
      simp only [if_t hl, if_t hbd, if_t hbd2]
      by_cases h1 : byteAt s (i : Int) < 48
      · have hc : (bif (decide ((byteAt s (i : Int) : Int) < 48)) then true else (decide ((byteAt s (i : Int) : Int) > 57))) = true := by simp [h1]
        rw [if_t hc, if_t hc]
        exact ⟨_, 0, false, rfl, rfl, rfl⟩
      · by_cases h2 : byteAt s (i : Int) > 57
        · have hc : (bif (decide ((byteAt s (i : Int) : Int) < 48)) then true else (decide ((byteAt s (i : Int) : Int) > 57))) = true := by simp [h1, h2]
          rw [if_t hc, if_t hc]
          exact ⟨_, 0, false, rfl, rfl, rfl⟩
        · have hc : ¬ (bif (decide ((byteAt s (i : Int) : Int) < 48)) then true else (decide ((byteAt s (i : Int) : Int) > 57))) = true := by simp [h1]; omega
          rw [if_f hc, if_f hc, wrap_s (by omega)]
          obtain ⟨u', e, h3, h4⟩ := digit (by omega) hu h1 h2
          rw [e]
          by_cases hgt : mx < u'
          · rw [if_t (by simpa using hgt), numA k s mx hs m (i + 1) u' (by omega) (by omega) hgt h4]
            exact ⟨_, 0, false, rfl, rfl, rfl⟩
          · rw [if_f (by simpa using hgt)]
            exact numB k s mx hs m (i + 1) u' (by omega) (by omega) (by omega) h4
    · have hl : ¬ (decide ((i : Int) < (ByteArray.size s : Int))) = true := by simpa using hlt
      have hm' : ¬ (decide ((u : Int) > (mx : Int))) = true := by simpa using hm
      rw [if_f hl, if_f hl, if_f hm']
      exact ⟨_, (u : Int), true, rfl, rfl, rfl⟩
theorem toList_nil {s : ByteArray} : (ByteArray.toList s == ByteArray.toList (⟨#[]⟩ : ByteArray)) = ((ByteArray.size s : Int) == 0) := by
  have e1 : (ByteArray.toList (⟨#[]⟩ : ByteArray)) = [] := by decide +kernel
  rw [e1]
  unfold ByteArray.toList
  unfold ByteArray.toList.loop
  by_cases h : 0 < s.size
  · have h2 : ¬ ((s.size : Int) = 0) := by omega
    rw [if_pos h]
    have hne : ∀ (i : Nat) (r : List UInt8), r ≠ [] → ByteArray.toList.loop s i r ≠ [] := by
      intro i r
      induction hn : s.size - i using Nat.strongRecOn generalizing i r with
      | _ n ih =>
        intro hr
        unfold ByteArray.toList.loop
        split
        · exact ih (s.size - (i + 1)) (by omega) (i + 1) _ rfl (by simp)
        · simpa using hr
    have := hne 1 [s.get! 0] (by simp)
    have h4 : ((s.size : Int) == 0) = false := by simpa using h2
    rw [h4]
    cases hh : ByteArray.toList.loop s (0 + 1) [s.get! 0] with
    | nil => exact absurd hh this
    | cons _ _ => rfl
  · have h2 : s.size = 0 := by omega
    rw [if_neg h]
    simp [h2]

theorem number (k : Nat) (s : ByteArray) (hk : 11 ≤ k) : ∃ (a p : Int) (ok : Bool), f202 k s 30 = some a ∧ f209 k s 30 = some (p, ok) ∧ a = (bif ok then p else -1) := by
  unfold f202 f209
  rw [toList_nil]
  by_cases h : (bif ((ByteArray.size s : Int) == 0) then true else (decide ((ByteArray.size s : Int) > 10))) = true
  · rw [if_t h, if_t h]
    exact ⟨_, 0, false, rfl, rfl, rfl⟩
  · rw [if_f h, if_f h]
    have hs : s.size ≤ 10 := by
      refine Decidable.byContradiction fun h0 => h ?_
      have : (decide ((ByteArray.size s : Int) > 10)) = true := by simp; omega
      rw [this]
      cases ((ByteArray.size s : Int) == 0) <;> rfl
    exact numB k s 30 hs k 0 0 (by omega) (by omega) (by omega) (by decide)

theorem speed_same (k : Nat) (x : Tags) (v : Int) (hx : x.length ≤ 9223372036854775807) (hk : x.length < k) (hk2 : 11 ≤ k) : ∃ r, f137 k x v = some r ∧ f147 k x v = some r := by
  obtain ⟨t1, h1, h1'⟩ := tagof k x (⟨#[104, 105, 103, 104, 119, 97, 121]⟩ : ByteArray) hx hk
  obtain ⟨t2, h2, h2'⟩ := tagof k x (⟨#[97, 99, 99, 101, 115, 115]⟩ : ByteArray) hx hk
  obtain ⟨t3, h3, h3'⟩ := tagof k x (⟨#[109, 97, 120, 115, 112, 101, 101, 100]⟩ : ByteArray) hx hk
  obtain ⟨a, p, ok, h4, h4', ha⟩ := number k t3 hk2
  have e0 : (ByteArray.toList (⟨#[]⟩ : ByteArray)) = [] := by decide +kernel
  have e1 : (ByteArray.toList (⟨#[109, 111, 116, 111, 114, 119, 97, 121]⟩ : ByteArray)) = [109, 111, 116, 111, 114, 119, 97, 121] := by decide +kernel
  have e2 : (ByteArray.toList (⟨#[109, 97, 105, 110]⟩ : ByteArray)) = [109, 97, 105, 110] := by decide +kernel
  have e3 : (ByteArray.toList (⟨#[115, 116, 114, 101, 101, 116]⟩ : ByteArray)) = [115, 116, 114, 101, 101, 116] := by decide +kernel
  have hJ : ∀ b : Int, f137.j4 k x b = some (if (1 ≤ a ∧ a < b) then a else b) := fun b => by
    simp only [f137.j4, h3, h4, Option.bind_some, f137.j8]
    by_cases q : 1 ≤ a <;> by_cases q2 : a < b <;> simp [q, q2]
  have hK : ∀ (b : Int) (q9 : Int → Option Int), f147.j15 k x q9 b = q9 (if (1 ≤ a ∧ a < b) then a else b) := fun b q9 => by
    simp only [f147.j15, h3', h4', Option.bind_some]
    cases ok with
    | true =>
      simp only [cond_true] at ha
      subst ha
      by_cases q : 1 ≤ a <;> by_cases q2 : a < b <;> simp [q, q2]
    | false =>
      simp only [cond_false] at ha
      subst ha
      simp
  have hL : ∀ b : Int, f147.j9 k x b = some (bif (bif (ByteArray.toList t2 == ByteArray.toList (⟨#[110, 111]⟩ : ByteArray)) then true else (ByteArray.toList t2 == ByteArray.toList (⟨#[112, 114, 105, 118, 97, 116, 101]⟩ : ByteArray))) then 0 else b) := fun b => by
    simp only [f147.j9, h2', Option.bind_some, f147.j12]
    generalize (ByteArray.toList t2 == ByteArray.toList (⟨#[110, 111]⟩ : ByteArray)) = c1
    generalize (ByteArray.toList t2 == ByteArray.toList (⟨#[112, 114, 105, 118, 97, 116, 101]⟩ : ByteArray)) = c2
    cases c1 <;> cases c2 <;> rfl
  simp only [f137, f147, h1, h1', h2, Option.bind_some, hJ, hK, hL, e0, e1, e2, e3]
  generalize ByteArray.toList t1 = u1
  generalize (ByteArray.toList t2 == ByteArray.toList (⟨#[110, 111]⟩ : ByteArray)) = b1
  generalize (ByteArray.toList t2 == ByteArray.toList (⟨#[112, 114, 105, 118, 97, 116, 101]⟩ : ByteArray)) = b2
  have hz : (if (1 ≤ a ∧ a < 0) then a else (0 : Int)) = 0 := by rw [if_neg]; omega
  by_cases hu0 : u1 = []
  · subst hu0
    by_cases hv : v = 1
    · subst hv; cases b1 <;> cases b2 <;> simp [hz]
    · by_cases hv2 : v = 2
      · subst hv2; cases b1 <;> cases b2 <;> simp
      · cases b1 <;> cases b2 <;> simp [hv, hv2]
  · by_cases hv : v = 1
    · subst hv
      by_cases q1 : u1 = [109, 111, 116, 111, 114, 119, 97, 121]
      · subst q1; cases b1 <;> cases b2 <;> simp
      · by_cases q2 : u1 = [109, 97, 105, 110]
        · subst q2; cases b1 <;> cases b2 <;> simp
        · by_cases q3 : u1 = [115, 116, 114, 101, 101, 116]
          · subst q3; cases b1 <;> cases b2 <;> simp
          · cases b1 <;> cases b2 <;> simp [hu0, q1, q2, q3, hz]
    · by_cases hv2 : v = 2
      · subst hv2
        by_cases q1 : u1 = [109, 111, 116, 111, 114, 119, 97, 121]
        · subst q1; cases b1 <;> cases b2 <;> simp
        · cases b1 <;> cases b2 <;> simp [hu0, q1]
      · cases b1 <;> cases b2 <;> simp [hu0, hv, hv2]

theorem oneway_same (k : Nat) (x : Tags) (v : Int) (hx : x.length ≤ 9223372036854775807) (hk : x.length < k) : ∃ r, f139 k x v = some r ∧ f148 k x v = some r := by
  obtain ⟨t, h1, h2⟩ := tagof k x (⟨#[111, 110, 101, 119, 97, 121]⟩ : ByteArray) hx hk
  obtain ⟨t', h3, h4⟩ := tagof k x (⟨#[106, 117, 110, 99, 116, 105, 111, 110]⟩ : ByteArray) hx hk
  simp only [f139, f148, h1, h2, h3, h4, Option.bind_some]
  have e1 : (ByteArray.toList (⟨#[]⟩ : ByteArray)) = [] := by decide +kernel
  have e2 : (ByteArray.toList (⟨#[121, 101, 115]⟩ : ByteArray)) = [121, 101, 115] := by decide +kernel
  have e3 : (ByteArray.toList (⟨#[45, 49]⟩ : ByteArray)) = [45, 49] := by decide +kernel
  have e4 : (ByteArray.toList (⟨#[114, 105, 110, 103]⟩ : ByteArray)) = [114, 105, 110, 103] := by decide +kernel
  rw [e1, e2, e3, e4]
  generalize ByteArray.toList t = u
  by_cases hv : v = 1
  · subst hv
    by_cases hu : u = []
    · subst hu
      by_cases hr : ByteArray.toList t' = [114, 105, 110, 103]
      · simp [hr]
      · simp [hr]
    · by_cases hy : u = [121, 101, 115]
      · subst hy; simp
      · by_cases hm : u = [45, 49]
        · subst hm; simp
        · simp [hu, hy, hm]
  · simp [hv]

end Go.Proofs.Ytchbpdnaodicaaa
