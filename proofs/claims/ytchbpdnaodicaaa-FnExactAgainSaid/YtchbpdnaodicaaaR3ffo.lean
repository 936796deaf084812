/-
  Follow: the specification and the program drive alike. No condition.
-/
import Derived.Test.YtchbpdnaodicaaaR3fah
set_option linter.unusedVariables false
set_option linter.unusedSimpArgs false
namespace Go.Proofs.Ytchbpdnaodicaaa
open Go Go.Vm Go.Proofs V
abbrev Turning := Int × (Int × (ByteArray × (Int × Int)))
abbrev dT : Turning := ((0 : Int), ((0 : Int), ((⟨#[]⟩ : ByteArray), ((0 : Int), (0 : Int)))))
def pickW : List Int → Int → Int
  | [], _ => -1
  | f :: r, w => if w = 0 then f else pickW r (IntKind.i64.wrap (w - 1))
theorem pickW_out : ∀ (L : List Int) (w : Int), ((-9223372036854775808 ≤ w ∧ w < 0) ∨ ((L.length : Int) ≤ w ∧ w ≤ 9223372036854775807)) → L.length ≤ 1048576 → pickW L w = -1
  | [], _, _, _ => rfl
  | f :: r, w, h, hl => by
    rw [List.length_cons] at h hl
    have hw : ¬ w = 0 := by omega
    unfold pickW
    rw [if_neg hw]
    by_cases hm : w = -9223372036854775808
    · subst hm
      rw [show IntKind.i64.wrap (-9223372036854775808 - 1) = 9223372036854775807 from by decide]
      exact pickW_out r _ (.inr ⟨by omega, by omega⟩) (by omega)
    · rw [wrap_in (by omega) (by omega)]
      exact pickW_out r _ (by omega) (by omega)
theorem pickW_in : ∀ (L : List Int) (w : Nat), w < L.length → L.length ≤ 1048576 → pickW L (w : Int) = L.getD w 0
  | [], w, h, _ => by simp at h
  | f :: r, 0, _, _ => rfl
  | f :: r, w + 1, h, hl => by
    rw [List.length_cons] at h hl
    unfold pickW
    rw [if_neg (by omega), wrap_p w (by omega), pickW_in r w (by omega) (by omega)]
    simp
theorem drop_cons {L : List Int} {i : Nat} (h : i < L.length) : L.drop i = L.getD i 0 :: L.drop (i + 1) := by
  rw [List.drop_eq_getElem_cons h]; simp [List.getD_eq_getElem?_getD, h]
theorem take_loop {g : Graph} (hg : GOk g) (k : Nat) (L out : List Int) (t : Turning) {e : Int} (he : roadIs g e = true) (hl : out.getD (Int.toNat (IntKind.i64.wrap ((List.length out : Int) - (1 : Int)))) 0 = e) (hL : ∀ f ∈ L, roadIs g f = true) (hn : L.length ≤ 8000) :
    ∀ (d m i : Nat) (w : Int), L.length - i = d → d < m → i ≤ L.length → f177.l53 k L g out t m (w, (i : Int)) = some (pickW ((L.drop i).filter fun f => windA g e f == t.1) w)
  | d, 0, i, w, _, h, _ => by omega
  | 0, m + 1, i, w, h, _, hi => by
    obtain rfl : i = L.length := by omega
    rw [f177.l53, if_f (by simp), List.drop_length]; rfl
  | d + 1, m + 1, i, w, h, hm, hi => by
    have hlt : i < L.length := by omega
    have hb : (0 : Int) ≤ (i : Int) ∧ (i : Int) < (L.length : Int) := ⟨by omega, by omega⟩
    have hf := hL _ (getD_in (d := (0 : Int)) hlt)
    have hc : decide ((i : Int) < (L.length : Int)) = true := by simpa using hlt
    rw [f177.l53, if_t hc, if_t hb, hl, Int.toNat_natCast, e164 hg k he hf, Option.bind_some, drop_cons hlt]
    have ih := fun w => take_loop hg k L out t he hl hL hn d m (i + 1) w (by omega) (by omega) (by omega)
    generalize L.getD i 0 = f at *
    by_cases hw : windA g e f = t.1
    · have c1 : ¬ (((windA g e f : Int) != t.1) = true) := by simp [hw]
      have c2 : (windA g e f == t.1) = true := by simp [hw]
      rw [if_f c1, List.filter_cons, if_pos c2]
      by_cases h0 : w = 0
      · subst h0
        rw [if_t (show ((0 : Int) == 0) = true from rfl), if_t hb]; rfl
      · rw [if_f (show ¬ ((w == 0) = true) by simpa using h0)]
        unfold f177.j92
        rw [wrap_s (by omega), ih, pickW, if_neg h0]
    · have c1 : ((windA g e f : Int) != t.1) = true := by simpa using hw
      have c2 : ¬ ((windA g e f == t.1) = true) := by simpa using hw
      rw [if_t c1, List.filter_cons, if_neg c2]
      unfold f177.j92
      rw [wrap_s (by omega), ih]
theorem pool_loop {g : Graph} (hg : GOk g) (k : Nat) {n : Net} (ht : NetOf g n) (L out : List Int) (x2 : List Turning) (i0 : Int) (q : List Int → Option (List Int × Bool)) {e : Int} (he : roadIs g e = true) (hl : out.getD (Int.toNat (IntKind.i64.wrap ((List.length out : Int) - (1 : Int)))) 0 = e) (hL : ∀ f ∈ L, roadIs g f = true) (hn : L.length ≤ 8000) :
    ∀ (d m i : Nat) (s : List Int), L.length - i = d → d < m → i ≤ L.length → s.length ≤ i → f97.l1429 k L n out x2 i0 q m (s, (i : Int)) = q (s ++ (L.drop i).filter fun f => windA g e f == (x2.getD i0.toNat dT).1)
  | d, 0, i, s, _, h, _, _ => by omega
  | 0, m + 1, i, s, h, _, hi, hs => by
    obtain rfl : i = L.length := by omega
    rw [f97.l1429, if_f (by simp), List.drop_length]; simp
  | d + 1, m + 1, i, s, h, hm, hi, hs => by
    have hlt : i < L.length := by omega
    have hb : (0 : Int) ≤ (i : Int) ∧ (i : Int) < (L.length : Int) := ⟨by omega, by omega⟩
    have hf := hL _ (getD_in (d := (0 : Int)) hlt)
    have hc : decide ((i : Int) < (L.length : Int)) = true := by simpa using hlt
    rw [f97.l1429, if_t hc, if_t hb, hl, Int.toNat_natCast, e172 hg k ht he hf, Option.bind_some, drop_cons hlt]
    have ih := fun s hs => pool_loop hg k ht L out x2 i0 q he hl hL hn d m (i + 1) s (by omega) (by omega) (by omega) hs
    generalize L.getD i 0 = f at *
    by_cases hw : windA g e f = (x2.getD i0.toNat dT).1
    · have c2 : (windA g e f == (x2.getD i0.toNat dT).1) = true := by simp [hw]
      have c3 : (s.length + [f].length) * 8 ≤ 140737488355328 := by simp only [List.length_singleton]; omega
      rw [if_t c2, if_t c3, List.filter_cons, if_pos c2]
      unfold f97.j1463
      rw [wrap_s (by omega), ih _ (by simp; omega), List.append_assoc]; rfl
    · have c2 : ¬ ((windA g e f == (x2.getD i0.toNat dT).1) = true) := by simpa using hw
      rw [if_f c2, List.filter_cons, if_neg c2]
      unfold f97.j1463
      rw [wrap_s (by omega), ih _ (by omega)]
def OkV (g : Graph) (v : List Int × Bool) : Prop := v.1.length ≤ 8000 ∧ ∀ f ∈ v.1, roadIs g f = true
theorem inner_same {g : Graph} (hg : GOk g) (k : Nat) (hk : 1048576 < k) {t : Net} (ht : NetOf g t) {es : List (List Int)} (o2 : es.length = g.1.length) (o3 : ∀ p, p < g.1.length → es.getD p [] = outs g g.2.1.length p) (x2 : List Turning) (i0 R : Int) (hR : (x2.getD i0.toNat dT).2.2.2.1 = R) (hR8 : R ≤ 8000)
    (qs qi : List Int × Int → Option (List Int × Bool)) (hq : ∀ out, (∀ f ∈ out, roadIs g f = true) → out ≠ [] → out.length ≤ 8000 → ∃ v, qs (out, IntKind.i64.wrap (i0 + 1)) = some v ∧ qi (out, IntKind.i64.wrap (i0 + 1)) = some v ∧ OkV g v) :
    ∀ (n m m' : Nat) (out : List Int) (x : Int), n + 2 < m → n + 1 < m' → (n : Int) + 1 ≤ R → (∀ f ∈ out, roadIs g f = true) → out.length ≤ 8000 → (x < 0 ∨ roadIs g x = true) →
      ∃ v, f94.l494 k g es i0 qs m (out, x, ((n + 1 : Nat) : Int)) = some v ∧ f97.l1395 k x2 i0 t qi m' (out, x, R - n) = some v ∧ OkV g v
  | n, 0, m', _, _, h, _, _, _, _, _ => by omega
  | n, m + 1, 0, _, _, _, h, _, _, _, _ => by omega
  | n, m + 1, m' + 1, out, x, h1, h2, h3, ho, hl, hx => by
    rw [f94.l494, f97.l1395, if_t (show decide (((n + 1 : Nat) : Int) > 0) = true by simp)]
    by_cases hs : (bif decide (x < 0) then true else ((List.length out : Int) == 8000)) = true
    · simp only [if_t hs]
      exact ⟨_, rfl, rfl, hl, ho⟩
    · simp only [if_f hs]
      have hx0 : ¬ x < 0 := fun h => by simp [h] at hs
      have hl8 : out.length < 8000 := by
        rcases Nat.lt_or_ge out.length 8000 with h | h
        · exact h
        · have : out.length = 8000 := by omega
          simp [this] at hs
      have hr : roadIs g x = true := by rcases hx with h | h; exact absurd h hx0; exact h
      have hc : (out.length + [x].length) * 8 ≤ 140737488355328 := by simp only [List.length_singleton]; omega
      have ho' : ∀ f ∈ out ++ [x], roadIs g f = true := fun f hf => by
        rcases List.mem_append.1 hf with h | h
        · exact ho f h
        · rw [List.mem_singleton.1 h]; exact hr
      have hl' : (out ++ [x]).length ≤ 8000 := by rw [List.length_append, List.length_singleton]; omega
      simp only [if_t hc, hR]
      obtain ⟨a, a1, a2, a3⟩ := aheads hg k hk ht o2 o3 hr
      cases n with
      | zero =>
        rw [if_f (by simp), if_t (by simp)]
        unfold f94.j527
        obtain ⟨m, rfl⟩ : ∃ q, m = q + 1 := ⟨m - 1, by omega⟩
        rw [f94.l494, show IntKind.i64.wrap (((0 + 1 : Nat) : Int) - 1) = 0 from by decide, if_f (by simp)]
        exact hq _ ho' (by simp) hl'
      | succ n =>
        rw [if_t (by simp; omega), if_f (by simp; omega), a1, a2, Option.bind_some, Option.bind_some]
        unfold f94.j527
        rw [wrap_p (n + 1) (by omega), wrap_in (n := R - ((n + 1 : Nat) : Int) + 1) (by omega) (by omega), show R - ((n + 1 : Nat) : Int) + 1 = R - (n : Int) by omega]
        exact inner_same hg k hk ht o2 o3 x2 i0 R hR hR8 qs qi hq n m m' (out ++ [x]) a (by omega) (by omega) (by omega) ho' hl' (a3.imp_left (by omega))
theorem take_of {g : Graph} (hg : GOk g) (k : Nat) (hk : 1048576 < k) {es : List (List Int)} (o2 : es.length = g.1.length) (o3 : ∀ p, p < g.1.length → es.getD p [] = outs g g.2.1.length p) (s : Int) (hs : spotIs g s = true) (out : List Int) (ho : ∀ f ∈ out, roadIs g f = true) (hl : out.length ≤ 8000) (T : Turning) (hT : -9223372036854775808 ≤ T.2.1 ∧ T.2.1 ≤ 9223372036854775807)
    (pool : List Int) (hp : pool = if out = [] then (if T.1 = 9 then outs g g.2.1.length s.toNat else []) else (nextsOf g (out.getD (out.length - 1) 0)).filter fun f => windA g (out.getD (out.length - 1) 0) f == T.1) :
    f177 k g es s out T = some (if 0 ≤ T.2.1 ∧ T.2.1 < (pool.length : Int) then pool.getD T.2.1.toNat 0 else -1) ∧ (∀ f ∈ pool, roadIs g f = true) ∧ pool.length ≤ 8000 := by
  have bs := spotIs_iff.1 hs
  have n2 := hg.n2
  unfold f177
  by_cases h0 : out = []
  · subst h0
    rw [if_pos rfl] at hp
    rw [if_t (by simp), if_t (fun _ => by rw [o2]; exact bs)]
    have he : es.getD s.toNat [] = outs g g.2.1.length s.toNat := o3 _ (by omega)
    have hlen := outs_len g g.2.1.length s.toNat
    by_cases h9 : T.1 = 9
    · rw [if_pos h9] at hp
      subst hp
      have hh : ((T.1 : Int) != 9) = false := by simp [h9]
      rw [he, hh, cond_false]
      by_cases hw : 0 ≤ T.2.1 ∧ T.2.1 < ((outs g g.2.1.length s.toNat).length : Int)
      · have q : ¬ ((bif decide (T.2.1 < 0) then true else decide (T.2.1 ≥ ((outs g g.2.1.length s.toNat).length : Int))) = true) := by simp; omega
        rw [if_f q, if_t (by rw [o2]; exact bs), if_t hw, if_pos hw]
        exact ⟨rfl, fun f hf => outs_road hf, by omega⟩
      · have q : (bif decide (T.2.1 < 0) then true else decide (T.2.1 ≥ ((outs g g.2.1.length s.toNat).length : Int))) = true := by
          by_cases h : T.2.1 < 0
          · simp [h]
          · simp; omega
        rw [if_t q, if_neg hw]
        exact ⟨rfl, fun f hf => outs_road hf, by omega⟩
    · rw [if_neg h9] at hp
      subst hp
      have hh : ((T.1 : Int) != 9) = true := by simp [h9]
      rw [hh]
      refine ⟨?_, by simp, by simp⟩
      rw [if_t (by simp), if_neg (by simp)]
  · rw [if_neg h0] at hp
    have hpos : 0 < out.length := List.length_pos_iff.2 h0
    have hw1 : IntKind.i64.wrap ((out.length : Int) - 1) = ((out.length - 1 : Nat) : Int) := by rw [wrap_in (by omega) (by omega)]; omega
    rw [if_f (by simp; omega), hw1, if_t ⟨by omega, by omega⟩, Int.toNat_natCast]
    have he := ho _ (getD_in (d := (0 : Int)) (show out.length - 1 < out.length by omega))
    have hlen := nexts_len hg (out.getD (out.length - 1) 0)
    have hL : ∀ f ∈ nextsOf g (out.getD (out.length - 1) 0), roadIs g f = true := fun f hf => nexts_road hf
    have hpl : pool.length ≤ 8000 := by rw [hp]; exact Nat.le_trans (List.length_filter_le _ _) hlen
    have tl := take_loop hg k (nextsOf g (out.getD (out.length - 1) 0)) out T he (by rw [hw1, Int.toNat_natCast]) hL (by omega) _ k 0 T.2.1 rfl (by omega) (Nat.zero_le _)
    rw [e163 hg k hk o2 o3 he, Option.bind_some]
    refine ⟨?_, fun f hf => hL f (by rw [hp] at hf; exact (List.mem_filter.1 hf).1), hpl⟩
    refine Eq.trans tl ?_
    rw [List.drop_zero, ← hp]
    by_cases hw : 0 ≤ T.2.1 ∧ T.2.1 < (pool.length : Int)
    · rw [if_pos hw]
      obtain ⟨w, hw'⟩ : ∃ w : Nat, T.2.1 = (w : Int) := ⟨T.2.1.toNat, by omega⟩
      rw [hw', pickW_in _ _ (by omega) (by omega), Int.toNat_natCast]
    · rw [if_neg hw, pickW_out _ _ (by omega) (by omega)]
theorem follow_same {g : Graph} (hg : GOk g) (k : Nat) (hk : 1048576 < k) {t : Net} (ht : NetOf g t) {es : List (List Int)} (o2 : es.length = g.1.length) (o3 : ∀ p, p < g.1.length → es.getD p [] = outs g g.2.1.length p) (s : Int) (hs : spotIs g s = true) (x2 : List Turning) (h2 : x2.length ≤ 1048576) (hT : ∀ T ∈ x2, -9223372036854775808 ≤ T.2.1 ∧ T.2.1 ≤ 9223372036854775807) :
    ∀ (d m m' i : Nat) (out : List Int), x2.length - i = d → d < m → d < m' → i ≤ x2.length → ((i = 0 ∧ out = []) ∨ (0 < i ∧ out ≠ [])) → (∀ f ∈ out, roadIs g f = true) → out.length ≤ 8000 →
      ∃ v, f94.l269 k x2 g es s m (out, (i : Int)) = some v ∧ f97.l736 k x2 s t m' (out, (i : Int)) = some v ∧ OkV g v
  | d, 0, _, i, out, _, h, _, _, _, _, _ => by omega
  | d, m + 1, 0, i, out, _, _, h, _, _, _, _ => by omega
  | 0, m + 1, m' + 1, i, out, h, _, _, hi, _, ho, hl => by
    obtain rfl : i = x2.length := by omega
    rw [f94.l269, f97.l736, if_f (by simp), if_f (by simp)]
    exact ⟨_, rfl, rfl, hl, ho⟩
  | d + 1, m + 1, m' + 1, i, out, h, hm, hm', hi, hz, ho, hl => by
    have hlt : i < x2.length := by omega
    have hb : (0 : Int) ≤ (i : Int) ∧ (i : Int) < (x2.length : Int) := ⟨by omega, by omega⟩
    have hc : decide ((i : Int) < (x2.length : Int)) = true := by simpa using hlt
    have bs := spotIs_iff.1 hs
    have hTi := hT _ (getD_in (d := dT) hlt)
    have ih := fun out hz ho hl => follow_same hg k hk ht o2 o3 s hs x2 h2 hT d m m' (i + 1) out (by omega) (by omega) (by omega) (by omega) hz ho hl
    have inn := inner_same hg k hk ht o2 o3 x2 (i : Int) (x2.getD i dT).2.2.2.1 rfl
    have tk := take_of hg k hk o2 o3 s hs out ho hl (x2.getD i dT) hTi _ rfl
    have hn2 := ht.out
    have e173' := fun {e : Int} (he : roadIs g e = true) => e173 hg k hk ht he
    have pl := fun (L out : List Int) i0 q {e : Int} (he : roadIs g e = true) hl hL hn => pool_loop hg k ht L out x2 i0 q he hl hL hn
    generalize hpool : (if out = [] then (if (x2.getD i dT).1 = 9 then outs g g.2.1.length s.toNat else []) else (nextsOf g (out.getD (out.length - 1) 0)).filter fun f => windA g (out.getD (out.length - 1) 0) f == (x2.getD i dT).1) = pool at tk
    obtain ⟨tk1, tk2, tk3⟩ := tk
    rw [f94.l269, f97.l736]
    have hTd0 : x2.getD (Int.toNat (i : Int)) dT = x2.getD i dT := rfl
    generalize hTd : x2.getD i dT = T at *
    simp only [if_t hc, if_t hb, Int.toNat_natCast, hTd]
    rw [if_t (fun (_ : (decide (T.2.2.2.1 < 1) = false)) => hb)]
    by_cases hR : T.2.2.2.1 < 1 ∨ 8000 < T.2.2.2.1
    · have c1 : (bif decide (T.2.2.2.1 < 1) then true else decide (T.2.2.2.1 > 8000)) = true := by
        rcases hR with h | h
        · simp [h]
        · simp; omega
      have c2 : (bif (bif decide (T.2.2.2.1 < 1) then true else decide (T.2.2.2.1 > 8000)) then true else decide (T.2.1 < 0)) = true := by rw [c1]; rfl
      rw [if_t c1, if_t c2]
      exact ⟨_, rfl, rfl, hl, ho⟩
    · have c1 : (bif decide (T.2.2.2.1 < 1) then true else decide (T.2.2.2.1 > 8000)) = false := by simp; omega
      rw [c1, if_f Bool.false_ne_true, cond_false, tk1, Option.bind_some]
      obtain ⟨n, hn⟩ : ∃ n : Nat, T.2.2.2.1 = ((n + 1 : Nat) : Int) := ⟨T.2.2.2.1.toNat - 1, by omega⟩
      have stop : f94.l494 k g es (i : Int) (f94.l269 k x2 g es s m) k (out, -1, T.2.2.2.1) = some (out, false) := by
        obtain ⟨k', hk'⟩ : ∃ q, k = q + 1 := ⟨k - 1, by omega⟩
        have e : ∀ K, f94.l494 K g es (i : Int) (f94.l269 k x2 g es s m) (k' + 1) (out, -1, T.2.2.2.1) = some (out, false) := fun K => by
          have c3 : decide (((n + 1 : Nat) : Int) > (0 : Int)) = true := by simp
          rw [f94.l494, hn, if_t c3, if_t (by rfl)]
        have := e k
        rw [← hk'] at this
        exact this
      have fin : 0 ≤ T.2.1 → ∃ v, f94.l494 k g es (i : Int) (f94.l269 k x2 g es s m) k (out, (if 0 ≤ T.2.1 ∧ T.2.1 < (pool.length : Int) then pool.getD T.2.1.toNat 0 else -1), T.2.2.2.1) = some v ∧ f97.j1394 k x2 (i : Int) out t (f97.l736 k x2 s t m') pool = some v ∧ OkV g v := fun h0 => by
        unfold f97.j1394
        simp only [Int.toNat_natCast, hTd]
        by_cases hw : T.2.1 < (pool.length : Int)
        · have c3 : ¬ (decide (T.2.1 ≥ (pool.length : Int)) = true) := by simp; omega
          rw [if_t ⟨h0, hw⟩, if_f c3, if_t ⟨h0, hw⟩]
          obtain ⟨v, v1, v2, v3⟩ := inn (by omega) (f94.l269 k x2 g es s m) (f97.l736 k x2 s t m') (fun out ho hne hl => by
            rw [wrap_s (by omega)]
            exact ih out (.inr ⟨by omega, hne⟩) ho hl) n k k out (pool.getD T.2.1.toNat 0) (by omega) (by omega) (by omega) ho hl (.inr (tk2 _ (getD_in (by omega))))
          rw [hn] at v2
          rw [show ((n + 1 : Nat) : Int) - (n : Int) = 1 by omega] at v2
          rw [hn]
          exact ⟨v, v1, v2, v3⟩
        · have c3 : decide (T.2.1 ≥ (pool.length : Int)) = true := by simp; omega
          rw [if_f (fun h => hw h.2), stop, if_t c3]
          exact ⟨_, rfl, rfl, hl, ho⟩
      by_cases hW : T.2.1 < 0
      · have c3 : decide (T.2.1 < 0) = true := by simpa using hW
        rw [if_t c3, if_f (fun h => by omega), stop]
        exact ⟨_, rfl, rfl, hl, ho⟩
      · have c3 : ¬ (decide (T.2.1 < 0) = true) := by simpa using hW
        rw [if_f c3]
        obtain ⟨v, v1, v2, v4⟩ := fin (by omega)
        refine ⟨v, v1, ?_, v4⟩
        rcases hz with ⟨rfl, rfl⟩ | ⟨hip, hne⟩
        · rw [if_pos rfl] at hpool
          have c4 : (((0 : Nat) : Int) == 0) = true := rfl
          rw [if_t c4]
          by_cases h9 : T.1 = 9
          · have c5 : (T.1 == 9) = true := by simpa using h9
            rw [if_pos h9] at hpool
            rw [if_t c5, if_t (by rw [hn2.1]; exact bs), hn2.2 _ (by omega), hpool]
            exact v2
          · have c5 : ¬ ((T.1 == 9) = true) := by simpa using h9
            rw [if_neg h9] at hpool
            subst hpool
            rw [if_f c5]
            exact v2
        · rw [if_neg hne] at hpool
          have hpos : 0 < out.length := List.length_pos_iff.2 hne
          have hw1 : IntKind.i64.wrap ((out.length : Int) - 1) = ((out.length - 1 : Nat) : Int) := by rw [wrap_in (by omega) (by omega)]; omega
          have he := ho _ (getD_in (d := (0 : Int)) (show out.length - 1 < out.length by omega))
          have hlen := nexts_len hg (out.getD (out.length - 1) 0)
          have c4 : ¬ (((i : Int) == 0) = true) := by simp; omega
          have pl' := pl (nextsOf g (out.getD (out.length - 1) 0)) out (i : Int) (f97.j1394 k x2 (i : Int) out t (f97.l736 k x2 s t m')) he (by rw [hw1, Int.toNat_natCast]) (fun f hf => nexts_road hf) (by omega) _ k 0 [] rfl (by omega) (Nat.zero_le _) (by simp)
          rw [List.drop_zero, List.nil_append, Int.toNat_natCast, hTd, hpool] at pl'
          rw [if_f c4, hw1, if_t ⟨by omega, by omega⟩, Int.toNat_natCast, e173' he, Option.bind_some]
          exact pl'.trans v2
end Go.Proofs.Ytchbpdnaodicaaa
