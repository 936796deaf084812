/-
  Guide: the specification and the program tell the same steps. No condition.
-/
import Derived.Test.YtchbpdnaodicaaaR3dah
import Derived.Test.YtchbpdnaodicaaaR3dpt
set_option linter.unusedVariables false
set_option linter.unusedSimpArgs false
namespace Go.Proofs.Ytchbpdnaodicaaa
open Go Go.Vm Go.Proofs V

abbrev Turning := Int × (Int × (ByteArray × (Int × Int)))
abbrev dT : Turning := ((0 : Int), ((0 : Int), ((⟨#[]⟩ : ByteArray), ((0 : Int), (0 : Int)))))

def roadsOk (g : Graph) (l : List Int) : Bool := allTo (fun i => roadIs g (l.getD i 0)) l.length
theorem roadsOk_iff {g : Graph} {l : List Int} : roadsOk g l = true ↔ ∀ i, i < l.length → roadIs g (l.getD i 0) = true := allTo_iff
theorem e71 (k : Nat) (hk : 1048576 < k) (g : Graph) (l : List Int) (hl : l.length ≤ 1048576) : f71 k g l = some (roadsOk g l) := by
  have := allLoop (L := f71.l24 k l g) (n := l.length) (p := fun i => roadIs g (l.getD i 0)) (fin := some true) (fun m i hi => by
    have hb : (0 : Int) ≤ (i : Int) ∧ (i : Int) < (l.length : Int) := ⟨by omega, by omega⟩
    have hc : decide ((i : Int) < (l.length : Int)) = true := by simpa using hi
    rw [f71.l24, if_t hc, if_t hb, e161, Option.bind_some, wrap_s (by omega), Int.toNat_natCast]
    cases roadIs g (l.getD i 0) <;> simp) (fun m => by rw [f71.l24, if_f (by simp)]) (k := k) (by omega)
  unfold f71 roadsOk
  rw [this]
  cases allTo (fun i => roadIs g (l.getD i 0)) l.length <;> rfl

def cntT (p : Int → Bool) (r : Int) (L : List Int) : Nat := ((L.takeWhile fun f => f != r).filter p).length
def cntL (p : Int → Bool) (r : Int) (L : List Int) : Nat := (L.filter fun f => decide (f < r) && p f).length
theorem cntL_none {p : Int → Bool} {r : Int} {L : List Int} (h : ∀ f ∈ L, r ≤ f) : cntL p r L = 0 := by
  unfold cntL
  rw [List.length_eq_zero_iff, List.filter_eq_nil_iff]
  intro f hf
  have := h f hf
  simp; omega
theorem cnt_eq {p : Int → Bool} {r : Int} : ∀ {L : List Int}, L.Pairwise (· < ·) → r ∈ L → cntT p r L = cntL p r L
  | [], _, h => by simp at h
  | a :: l, hp, h => by
    rw [List.pairwise_cons] at hp
    by_cases ha : a = r
    · subst ha
      rw [cntL_none (fun f hf => by
        rcases List.mem_cons.1 hf with h | h
        · omega
        · exact Int.le_of_lt (hp.1 f h))]
      simp [cntT]
    · have hr : r ∈ l := by
        rcases List.mem_cons.1 h with h | h
        · exact absurd h.symm ha
        · exact h
      have ih := cnt_eq (p := p) hp.2 hr
      have hlt := hp.1 r hr
      unfold cntT cntL at *
      rw [List.takeWhile_cons, if_pos (by simpa using ha), List.filter_cons, List.filter_cons]
      cases hpa : p a with
      | true =>
        rw [if_pos rfl, if_pos (by simpa using hlt), List.length_cons, List.length_cons, ih]
      | false => rw [if_neg (by simp), if_neg (by simp), ih]

theorem mem_outs {g : Graph} {n p : Nat} {f : Int} : f ∈ outs g n p ↔ ∃ r : Nat, r < n ∧ (g.2.1.getD r dR).1 = (p : Int) ∧ f = (r : Int) := by
  unfold outs
  simp only [List.mem_map, List.mem_filter, List.mem_range, decide_eq_true_eq]
  constructor
  · rintro ⟨r, ⟨h1, h2⟩, h3⟩; exact ⟨r, h1, h2, h3.symm⟩
  · rintro ⟨r, h1, h2, h3⟩; exact ⟨r, ⟨h1, h2⟩, h3.symm⟩
theorem outs_pair (g : Graph) (n p : Nat) : (outs g n p).Pairwise (· < ·) := by
  unfold outs
  rw [List.pairwise_map]
  exact (List.pairwise_lt_range.filter _).imp (by intro a b h; omega)
theorem nexts_pair (g : Graph) (e : Int) : (nextsOf g e).Pairwise (· < ·) := (outs_pair _ _ _).filter _
theorem outs_own {g : Graph} (hg : GOk g) {r : Int} (h : roadIs g r = true) : r ∈ outs g g.2.1.length (roadAt g r).1.toNat := by
  have hr := roadIs_iff.1 h
  have re := (road_ends hg h).1
  refine mem_outs.2 ⟨r.toNat, by omega, ?_, by omega⟩
  show (roadAt g r).1 = _
  omega
theorem nexts_own {g : Graph} (hg : GOk g) {e r : Int} (h : roadIs g r = true) (h1 : (roadAt g e).2.1 = (roadAt g r).1) (h2 : banned g e r = false) : r ∈ nextsOf g e := by
  refine List.mem_filter.2 ⟨?_, by rw [h2]; rfl⟩
  rw [h1]; exact outs_own hg h

theorem drop_cons {L : List Int} {i : Nat} (h : i < L.length) : L.drop i = L.getD i 0 :: L.drop (i + 1) := by
  rw [List.drop_eq_getElem_cons h]; simp [List.getD_eq_getElem?_getD, h]

theorem cntT_cons {p : Int → Bool} {r a : Int} {l : List Int} : cntT p r (a :: l) = if a = r then 0 else (if p a = true then 1 else 0) + cntT p r l := by
  unfold cntT
  rw [List.takeWhile_cons]
  by_cases h : a = r
  · simp [h]
  · rw [if_pos (by simpa using h), if_neg h, List.filter_cons]
    cases p a with
    | true => rw [if_pos rfl, if_pos rfl, List.length_cons]; omega
    | false => simp
theorem cntL_cons {p : Int → Bool} {r a : Int} {l : List Int} : cntL p r (a :: l) = (if a < r ∧ p a = true then 1 else 0) + cntL p r l := by
  unfold cntL
  rw [List.filter_cons]
  by_cases h : a < r ∧ p a = true
  · rw [if_pos (by simpa using h), if_pos h, List.length_cons]; omega
  · rw [if_neg (by simpa using h), if_neg h]; omega

theorem choice_loop {g : Graph} (hg : GOk g) (k : Nat) (L : List Int) {e : Int} (he : roadIs g e = true) (r w : Int) (hL : ∀ f ∈ L, roadIs g f = true) (hn : L.length ≤ 8000) :
    ∀ (d m i c : Nat), L.length - i = d → d < m → i ≤ L.length → c ≤ i → f75.l39 k L r g e w m ((c : Int), (i : Int)) = some (w, ((c + cntT (fun f => windA g e f == w) r (L.drop i) : Nat) : Int))
  | d, 0, i, c, _, h, _, _ => by omega
  | 0, m + 1, i, c, h, _, hi, _ => by
    obtain rfl : i = L.length := by omega
    rw [f75.l39, if_t (by simp), if_f (by simp), List.drop_length]
    simp [cntT]
  | d + 1, m + 1, i, c, h, hm, hi, hc => by
    have hlt : i < L.length := by omega
    have hb : (0 : Int) ≤ (i : Int) ∧ (i : Int) < (L.length : Int) := ⟨by omega, by omega⟩
    have hd : decide ((i : Int) < (L.length : Int)) = true := by simpa using hlt
    have hf := hL _ (getD_in (d := (0 : Int)) hlt)
    have ih := fun c hc => choice_loop hg k L he r w hL hn d m (i + 1) c (by omega) (by omega) (by omega) hc
    rw [f75.l39, if_t (fun _ => hb), hd, cond_true, Int.toNat_natCast, drop_cons hlt, cntT_cons]
    by_cases hr : L.getD i 0 = r
    · rw [if_f (by simp only [hr]; simp), if_pos hr]; rfl
    · rw [if_t (by simp only [bne_iff_ne, ne_eq]; exact hr), if_t hb, e164 hg k he hf, Option.bind_some, if_neg hr]
      by_cases hw : windA g e (L.getD i 0) = w
      · rw [if_t (by simpa using hw), if_pos (by simpa using hw)]
        unfold f75.j70
        rw [wrap_s (by omega), wrap_s (by omega), ih (c + 1) (by omega), Nat.add_assoc]
      · rw [if_f (by simpa using hw), if_neg (by simpa using hw), Nat.zero_add]
        unfold f75.j70
        rw [wrap_s (by omega), ih c (by omega)]

theorem cnt_loop {g : Graph} (hg : GOk g) (k : Nat) {n : Net} (ht : NetOf g n) (L l : List Int) (i0 : Nat) (h0 : i0 + 1 < l.length) (hll : l.length ≤ 1048576) (q : Int × Int → Option (List Turning)) (w : Int) (he : roadIs g (l.getD i0 0) = true) (hL : ∀ f ∈ L, roadIs g f = true) (hn : L.length ≤ 8000) :
    ∀ (d m i c : Nat), L.length - i = d → d < m → i ≤ L.length → c ≤ i → f83.l1892 k L l ((i0 + 1 : Nat) : Int) n w q m ((c : Int), (i : Int)) = q (w, ((c + cntL (fun f => windA g (l.getD i0 0) f == w) (l.getD (i0 + 1) 0) (L.drop i) : Nat) : Int))
  | d, 0, i, c, _, h, _, _ => by omega
  | 0, m + 1, i, c, h, _, hi, _ => by
    obtain rfl : i = L.length := by omega
    rw [f83.l1892, if_f (by simp), List.drop_length]
    simp [cntL]
  | d + 1, m + 1, i, c, h, hm, hi, hc => by
    have hlt : i < L.length := by omega
    have hb : (0 : Int) ≤ (i : Int) ∧ (i : Int) < (L.length : Int) := ⟨by omega, by omega⟩
    have hd : decide ((i : Int) < (L.length : Int)) = true := by simpa using hlt
    have hf := hL _ (getD_in (d := (0 : Int)) hlt)
    have ih := fun c hc => cnt_loop hg k ht L l i0 h0 hll q w he hL hn d m (i + 1) c (by omega) (by omega) (by omega) hc
    have hbi : (0 : Int) ≤ (i0 : Int) ∧ (i0 : Int) < (l.length : Int) := ⟨by omega, by omega⟩
    have hwd := e172 hg k ht he hf
    rw [f83.l1892, if_t hd, if_t hb, wrap_p i0 (by omega), if_t (fun _ => hbi), drop_cons hlt]
    simp only [Int.toNat_natCast]
    rw [cntL_cons]
    by_cases hr : L.getD i 0 < l.getD (i0 + 1) 0
    · have hd' : decide (L.getD i 0 < l.getD (i0 + 1) 0) = true := decide_eq_true hr
      simp only [hd', if_true, hwd, Option.bind_some, cond_true]
      by_cases hw : windA g (l.getD i0 0) (L.getD i 0) = w
      · have c1 : (windA g (l.getD i0 0) (L.getD i 0) == w) = true := beq_iff_eq.2 hw
        rw [if_t c1, if_pos ⟨hr, c1⟩]
        unfold f83.j1926
        rw [wrap_s (by omega), wrap_s (by omega), ih (c + 1) (by omega), Nat.add_assoc]
      · have c1 : ¬ ((windA g (l.getD i0 0) (L.getD i 0) == w) = true) := fun h => hw (beq_iff_eq.1 h)
        rw [if_f c1, if_neg (fun h => c1 h.2), Nat.zero_add]
        unfold f83.j1926
        rw [wrap_s (by omega), ih c (by omega)]
    · have hd' : decide (L.getD i 0 < l.getD (i0 + 1) 0) = false := decide_eq_false hr
      simp only [hd', Bool.false_eq_true, if_false, Option.bind_some, cond_false]
      rw [if_neg (fun h => hr h.1), Nat.zero_add]
      unfold f83.j1926
      rw [wrap_s (by omega), ih c (by omega)]

theorem first_spec {g : Graph} (k : Nat) (es : List (List Int)) (l L : List Int) (h0 : 0 < l.length) (hLe : es.getD (roadAt g (l.getD 0 0)).1.toNat [] = L) (hn : L.length ≤ 8000) (q : Int × Int → Option (List Turning)) :
    ∀ (d m i : Nat), L.length - i = d → d < m → i ≤ L.length → f15.l944 k es g l ((0 : Nat) : Int) q m ((i : Int), (i : Int)) = q (9, ((i + cntT (fun _ => true) (l.getD 0 0) (L.drop i) : Nat) : Int))
  | d, 0, i, _, h, _ => by omega
  | 0, m + 1, i, h, _, hi => by
    obtain rfl : i = L.length := by omega
    rw [f15.l944]
    simp only [foldR, Int.toNat_natCast, hLe]
    rw [if_t (by simp), if_t (by simp), List.drop_length]
    simp [cntT]
  | d + 1, m + 1, i, h, hm, hi => by
    have hlt : i < L.length := by omega
    have hb : (0 : Int) ≤ (i : Int) ∧ (i : Int) < (L.length : Int) := ⟨by omega, by omega⟩
    have hd : decide ((i : Int) < (L.length : Int)) = true := by simpa using hlt
    have ih := first_spec (g := g) k es l L h0 hLe hn q d m (i + 1) (by omega) (by omega) (by omega)
    rw [f15.l944]
    simp only [foldR, Int.toNat_natCast, hLe, Int.toNat_zero]
    rw [if_t (fun _ => hb), if_t (fun _ => ⟨by omega, by omega⟩), hd, cond_true, Option.bind_some, drop_cons hlt, cntT_cons]
    by_cases hr : L.getD i 0 = l.getD 0 0
    · rw [if_f (by simp only [hr]; simp), if_pos hr]; rfl
    · rw [if_t (by simp only [bne_iff_ne, ne_eq]; exact hr), if_neg hr, wrap_s (by omega), ih, if_pos rfl, Nat.add_assoc]

theorem first_impl {g : Graph} (k : Nat) {n : Net} (hng : n.1 = g) (l L : List Int) (h0 : 0 < l.length) (hLe : n.2.1.getD (roadAt g (l.getD 0 0)).1.toNat [] = L) (hn : L.length ≤ 8000) (q : Int × Int → Option (List Turning)) :
    ∀ (d m i c : Nat), L.length - i = d → d < m → i ≤ L.length → c ≤ i → f83.l1868 k n l ((0 : Nat) : Int) q m ((c : Int), (i : Int)) = q (9, ((c + cntL (fun _ => true) (l.getD 0 0) (L.drop i) : Nat) : Int))
  | d, 0, i, c, _, h, _, _ => by omega
  | 0, m + 1, i, c, h, _, hi, _ => by
    obtain rfl : i = L.length := by omega
    rw [f83.l1868]
    simp only [hng, foldR, Int.toNat_natCast, hLe]
    rw [if_f (by simp), List.drop_length]
    simp [cntL]
  | d + 1, m + 1, i, c, h, hm, hi, hc => by
    have hlt : i < L.length := by omega
    have hb : (0 : Int) ≤ (i : Int) ∧ (i : Int) < (L.length : Int) := ⟨by omega, by omega⟩
    have hd : decide ((i : Int) < (L.length : Int)) = true := by simpa using hlt
    have ih := fun c hc => first_impl (g := g) k hng l L h0 hLe hn q d m (i + 1) c (by omega) (by omega) (by omega) hc
    rw [f83.l1868]
    simp only [hng, foldR, Int.toNat_natCast, hLe]
    rw [if_t hd, if_t hb, drop_cons hlt, cntL_cons]
    by_cases hr : L.getD i 0 < l.getD 0 0
    · rw [if_t (by simpa using hr), if_pos ⟨hr, rfl⟩]
      unfold f83.j1887
      rw [wrap_s (by omega), wrap_s (by omega), ih (c + 1) (by omega), Nat.add_assoc]
    · rw [if_f (by simpa using hr), if_neg (fun h => hr h.1), Nat.zero_add]
      unfold f83.j1887
      rw [wrap_s (by omega), ih c (by omega)]

/-- The names told are no longer than those of the roads. -/
def NmOk (l : List Turning) : Prop := ∀ y ∈ l, ByteArray.size y.2.2.1 ≤ 1048576
theorem setN {l : List Turning} (h : NmOk l) {y : Turning} (hy : ByteArray.size y.2.2.1 ≤ 1048576) {a b c d : Int} (i : Nat) : NmOk (l.set i (a, (b, (y.2.2.1, (c, d))))) := fun z hz => by
  rcases List.mem_or_eq_of_mem_set hz with h1 | h1
  · exact h z h1
  · rw [h1]; exact hy
theorem guide_same {g : Graph} (hg : GOk g) (k : Nat) (hk : 1048576 < k) {t : Net} (ht : NetOf g t) {es : List (List Int)} (o2 : es.length = g.1.length) (o3 : ∀ p, p < g.1.length → es.getD p [] = outs g g.2.1.length p) (l : List Int) (hl : l.length ≤ 1048576) (hlk : ∀ j, j < l.length → Linked g l j) (hnm : ∀ r ∈ g.2.1, ByteArray.size r.2.2.2.2.2 ≤ 1048576) :
    ∀ (d m m' i : Nat) (out : List Turning), l.length - i = d → d < m → d < m' → i ≤ l.length → ((i = 0 ∧ out = []) ∨ (0 < i ∧ out ≠ [])) → out.length ≤ i → NmOk out →
      ∃ v, f15.l488 k l g es m (out, (i : Int)) = some v ∧ f83.l970 k l t m' (out, (i : Int)) = some v ∧ v.length ≤ l.length ∧ NmOk v
  | d, 0, _, i, out, _, h, _, _, _, _, _ => by omega
  | d, m + 1, 0, i, out, _, _, h, _, _, _, _ => by omega
  | 0, m + 1, m' + 1, i, out, h, _, _, hi, _, ho, hN => by
    obtain rfl : i = l.length := by omega
    rw [f15.l488, f83.l970, if_f (by simp), if_f (by simp)]
    exact ⟨_, rfl, rfl, ho, hN⟩
  | d + 1, m + 1, m' + 1, i, out, h, hm, hm', hi, hz, ho, hN => by
    have hlt : i < l.length := by omega
    have hb : (0 : Int) ≤ (i : Int) ∧ (i : Int) < (l.length : Int) := ⟨by omega, by omega⟩
    have hc : decide ((i : Int) < (l.length : Int)) = true := by simpa using hlt
    have ih := fun out hz ho hN => guide_same hg k hk ht o2 o3 l hl hlk hnm d m m' (i + 1) out (by omega) (by omega) (by omega) (by omega) hz ho hN
    have hr := (hlk i hlt).1
    have br := roadIs_iff.1 hr
    have hn2 := hg.n2
    have hto := ht.out
    have htg := ht.fst
    have add : ∀ (w c : Int), ∃ v, f15.j938 k out g l (i : Int) (f15.j892 k (i : Int) (f15.l488 k l g es m)) (w, c) = some v ∧ f83.j1866 k out t l (i : Int) (f83.j1779 k (i : Int) (f83.l970 k l t m')) (w, c) = some v ∧ v.length ≤ l.length ∧ NmOk v := fun w c => by
      unfold f15.j938 f83.j1866
      simp only [htg]
      have c1 : ∀ x : Turning, (out.length + [x].length) * 48 ≤ 140737488355328 := fun x => by simp only [List.length_singleton]; omega
      rw [if_t (c1 _), if_t (c1 _)]
      unfold f15.j892 f83.j1779
      rw [wrap_s (by omega)]
      refine ih _ (.inr ⟨by omega, by simp⟩) (by rw [List.length_append, List.length_singleton]; omega) (fun y hy => ?_)
      rcases List.mem_append.1 hy with h | h
      · exact hN y h
      · rw [List.mem_singleton.1 h]
        show ByteArray.size (roadAt g (l.getD i 0)).2.2.2.2.2 ≤ 1048576
        exact hnm _ (getD_in (d := dR) (show (l.getD i 0).toNat < g.2.1.length by omega))
    cases i with
    | zero =>
      obtain ⟨_, rfl⟩ : (0 = 0 ∧ out = []) := by rcases hz with h | h; exact h; exact absurd h.1 (by omega)
      have re := (road_ends hg hr).1
      have hp : (roadAt g (l.getD 0 0)).1.toNat < g.1.length := by omega
      have L1 := o3 _ hp
      have L2 := hto.2 _ hp
      have hlen := outs_len g g.2.1.length (roadAt g (l.getD 0 0)).1.toNat
      have hd0 : decide (((0 : Nat) : Int) > (0 : Int)) = false := by decide
      have q1 := first_spec (g := g) k es l _ hlt L1 (by omega) (f15.j938 k [] g l ((0 : Nat) : Int) (f15.j892 k ((0 : Nat) : Int) (f15.l488 k l g es m))) _ k 0 rfl (by omega) (Nat.zero_le _)
      have q2 := first_impl (g := g) k htg l _ hlt L2 (by omega) (f83.j1866 k [] t l ((0 : Nat) : Int) (f83.j1779 k ((0 : Nat) : Int) (f83.l970 k l t m'))) _ k 0 0 rfl (by omega) (Nat.zero_le _) (Nat.le_refl _)
      rw [List.drop_zero, cnt_eq (outs_pair _ _ _) (outs_own hg hr)] at q1
      rw [List.drop_zero] at q2
      obtain ⟨v, v1, v2, v3⟩ := add 9 ((0 + cntL (fun _ => true) (l.getD 0 0) (outs g g.2.1.length (roadAt g (l.getD 0 0)).1.toNat) : Nat) : Int)
      refine ⟨v, ?_, ?_, v3⟩
      · rw [f15.l488]
        simp only [foldR, Int.toNat_natCast]
        rw [if_t hc, if_t hb, if_t br, if_t (by simp), if_f (by simp), Option.bind_some, if_t (by simp), if_f (by simp), if_f (by simp), if_t (by rw [o2]; exact re)]
        exact q1.trans v1
      · rw [f83.l970]
        simp only [htg, foldR, Int.toNat_natCast]
        rw [if_t hc, if_t hb, if_t br, if_t (by simp), if_f (by simp), Option.bind_some, if_f (by simp), if_t (by simp), if_t (by rw [hto.1]; exact re)]
        exact q2.trans v2
    | succ j =>
      obtain ⟨_, hne⟩ : (0 < j + 1 ∧ out ≠ []) := by rcases hz with h | h; exact absurd h.1 (by omega); exact h
      have hpos : 0 < out.length := List.length_pos_iff.2 hne
      have hj : (0 : Int) ≤ (j : Int) ∧ (j : Int) < (l.length : Int) := ⟨by omega, by omega⟩
      have he := (hlk j (by omega)).1
      have hlnk := (hlk (j + 1) hlt).2 (by omega)
      rw [show j + 1 - 1 = j by omega] at hlnk
      have hd0 : decide (((j + 1 : Nat) : Int) > (0 : Int)) = true := by simp
      obtain ⟨a, a1, a2, a3⟩ := aheads hg k hk ht o2 o3 he
      have hw1 : IntKind.i64.wrap ((out.length : Int) - 1) = ((out.length - 1 : Nat) : Int) := by rw [wrap_in (by omega) (by omega)]; omega
      have hbo : (0 : Int) ≤ ((out.length - 1 : Nat) : Int) ∧ ((out.length - 1 : Nat) : Int) < (out.length : Int) := ⟨by omega, by omega⟩
      rw [f15.l488, f83.l970]
      simp only [htg, foldR, Int.toNat_natCast, wrap_p j (show j < 9223372036854775807 by omega), hd0, cond_true]
      simp only [if_t hc, if_t hb, if_t br, if_true, true_implies, if_t hj, a1, a2, Option.bind_some]
      by_cases ha : a = l.getD (j + 1) 0
      · have hab : (a == l.getD (j + 1) 0) = true := by rw [beq_iff_eq]; exact ha
        simp only [if_t hab, hw1, Int.toNat_natCast, if_t hbo, Option.bind_some, List.length_set]
        unfold f15.j892 f83.j1779
        rw [wrap_s (by omega)]
        refine ih _ (.inr ⟨by omega, ?_⟩) ?_ ?_
        · intro h0
          have := congrArg List.length h0
          simp only [List.length_set, List.length_nil] at this
          omega
        · simp only [List.length_set]; omega
        · refine setN ?_ ?_ _
          · exact setN hN (hN _ (getD_in (d := dT) (show out.length - 1 < out.length by omega))) _
          · exact setN hN (hN _ (getD_in (d := dT) (show out.length - 1 < out.length by omega))) _ _ (getD_in (d := dT) (by rw [List.length_set]; omega))
      · have hab : ¬ ((a == l.getD (j + 1) 0) = true) := by rw [beq_iff_eq]; exact ha
        have c0 : ¬ ((((j + 1 : Nat) : Int) == 0) = true) := by rw [beq_iff_eq]; omega
        simp only [if_f hab, if_f c0]
        have hL : ∀ f ∈ nextsOf g (l.getD j 0), roadIs g f = true := fun f hf => nexts_road hf
        have hlen := nexts_len hg (l.getD j 0)
        have q1 := choice_loop hg k (nextsOf g (l.getD j 0)) he (l.getD (j + 1) 0) (windA g (l.getD j 0) (l.getD (j + 1) 0)) hL (by omega) _ k 0 0 rfl (by omega) (Nat.zero_le _) (Nat.le_refl _)
        have q2 := cnt_loop hg k ht (nextsOf g (l.getD j 0)) l j hlt hl (f83.j1866 k out t l ((j + 1 : Nat) : Int) (f83.j1779 k ((j + 1 : Nat) : Int) (f83.l970 k l t m'))) (windA g (l.getD j 0) (l.getD (j + 1) 0)) he hL (by omega) _ k 0 0 rfl (by omega) (Nat.zero_le _) (Nat.le_refl _)
        rw [List.drop_zero, cnt_eq (nexts_pair _ _) (nexts_own hg hr hlnk.1 hlnk.2)] at q1
        rw [List.drop_zero] at q2
        have q3 : f75 k g es (l.getD j 0) (l.getD (j + 1) 0) = some (windA g (l.getD j 0) (l.getD (j + 1) 0), ((0 + cntL (fun f => windA g (l.getD j 0) f == windA g (l.getD j 0) (l.getD (j + 1) 0)) (l.getD (j + 1) 0) (nextsOf g (l.getD j 0)) : Nat) : Int)) := by
          unfold f75
          rw [e164 hg k he hr, Option.bind_some, e163 hg k hk o2 o3 he, Option.bind_some]
          exact q1
        obtain ⟨v, v1, v2, v3⟩ := add (windA g (l.getD j 0) (l.getD (j + 1) 0)) ((0 + cntL (fun f => windA g (l.getD j 0) f == windA g (l.getD j 0) (l.getD (j + 1) 0)) (l.getD (j + 1) 0) (nextsOf g (l.getD j 0)) : Nat) : Int)
        refine ⟨v, ?_, ?_, v3⟩
        · rw [q3, Option.bind_some]; exact v1
        · rw [e172 hg k ht he hr, Option.bind_some, e173 hg k hk ht he, Option.bind_some]
          exact q2.trans v2

theorem same_guide (k : Nat) (hk : 1048576 < k) (g : Graph) (h1 : g.1.length ≤ 1048576) (h2 : g.2.1.length ≤ 1048576) (h3 : g.2.2.length ≤ 1048576) (hnm : ∀ r ∈ g.2.1, ByteArray.size r.2.2.2.2.2 ≤ 1048576) (l : List Int) (hl : l.length ≤ 1048576) :
    ∃ v, f15 k g l = some v ∧ f18 k g l = some v ∧ v.length ≤ 1048576 ∧ NmOk v := by
  unfold f15 f18
  rw [spec70 k hk g h1 h2 h3, impl79 k hk g h1 h2 h3, e71 k hk g l hl]
  simp only [Option.bind_some, foldR]
  by_cases h0 : l.length = 0
  · have c0 : ((l.length : Int) == 0) = true := by simp [h0]
    refine ⟨[], ?_, ?_, by simp, fun y hy => by simp at hy⟩
    · cases graphOk g <;> simp [h0]
    · simp [h0]
  have c0 : ((l.length : Int) == 0) = false := beq_eq_false_iff_ne.2 (by omega)
  have hpos : 0 < l.length := by omega
  have hsub : l.length - 1 < l.length := by omega
  cases hg : graphOk g with
  | false => exact ⟨[], by simp [c0], by simp [c0], by simp, fun y hy => by simp at hy⟩
  | true =>
    obtain ⟨t, ht, hn⟩ := e80 (gok hg) k hk
    have hll : IntKind.i64.wrap ((l.length : Int) - 1) = ((l.length - 1 : Nat) : Int) := by rw [wrap_in (by omega) (by omega)]; omega
    have hb0 : (0 : Int) ≤ (0 : Int) ∧ (0 : Int) < (l.length : Int) := ⟨by omega, by omega⟩
    have hbl : (0 : Int) ≤ ((l.length - 1 : Nat) : Int) ∧ ((l.length - 1 : Nat) : Int) < (l.length : Int) := ⟨by omega, by omega⟩
    simp only [c0, hll, Int.toNat_natCast, Int.toNat_zero, ht, Option.bind_some, e81 k hn, Bool.not_true, cond_false, if_t hb0, if_t (fun (_ : _) => hbl)]
    by_cases hro : roadsOk g l = true
    · have r0 := roadsOk_iff.1 hro 0 (by omega)
      have rl := roadsOk_iff.1 hro (l.length - 1) (by omega)
      have b0 := roadIs_iff.1 r0
      have bl := roadIs_iff.1 rl
      obtain ⟨v, v1, v2, v3⟩ := path_same (gok hg) k hk hn l hl (roadAt g (l.getD (l.length - 1) 0)).2.1 k 0 0 (roadAt g (l.getD 0 0)).1 (Nat.zero_le _) (by omega) (fun h => by omega)
      have v1' : f72 k g l (roadAt g (l.getD 0 0)).1 (roadAt g (l.getD (l.length - 1) 0)).2.1 = some v := v1
      have v2' : f82 k t l (roadAt g (l.getD 0 0)).1 (roadAt g (l.getD (l.length - 1) 0)).2.1 = some v := v2
      obtain ⟨o, o1, o2, o3⟩ := e73 (gok hg) k hk false
      have gs := fun (hv : ¬ v < 0) => guide_same (gok hg) k hk hn o2 o3 l hl (fun j hj => v3 (by omega) j (Nat.zero_le _) hj) hnm _ k k 0 [] rfl (by omega) (by omega) (Nat.zero_le _) (.inl ⟨rfl, rfl⟩) (by simp) (fun y hy => by simp at hy)
      clear v3 v1 v2
      generalize l.getD (l.length - 1) 0 = lb at *
      generalize l.getD 0 0 = la at *
      by_cases hv : v < 0
      · refine ⟨[], ?_, ?_, by simp, fun y hy => by simp at hy⟩
        · simp [hro, b0, bl, v1', hv, hpos, hsub]
        · simp [r0, rl, b0, bl, v2', hv, hpos, hsub]
      · obtain ⟨y, y1, y2, y3, y4⟩ := gs hv
        have y1' : f15.l488 k l g o k ([], 0) = some y := y1
        have y2' : f83 k t l = some y := y2
        refine ⟨y, ?_, ?_, by omega, y4⟩
        · simp [hro, b0, bl, v1', hv, hpos, hsub, o1, y1']
        · simp [r0, rl, b0, bl, v2', hv, hpos, hsub, y2']
    · have hro' : roadsOk g l = false := by simpa using hro
      refine ⟨[], by simp [hro'], ?_, by simp, fun y hy => by simp at hy⟩
      have ps := path_same (gok hg) k hk hn l hl (roadAt g (l.getD (l.length - 1) 0)).2.1 k 0 0 (roadAt g (l.getD 0 0)).1 (Nat.zero_le _) (by omega) (fun h => by omega)
      obtain ⟨v, v1, v2, v3⟩ := ps
      have v2' : f82 k t l (roadAt g (l.getD 0 0)).1 (roadAt g (l.getD (l.length - 1) 0)).2.1 = some v := v2
      have hv : v < 0 := by
        rcases Int.lt_or_le v 0 with h | h
        · exact h
        · exact absurd (roadsOk_iff.2 fun i hi => (v3 h i (Nat.zero_le _) hi).1) hro
      clear v1 v2 v3
      generalize l.getD (l.length - 1) 0 = lb at *
      generalize l.getD 0 0 = la at *
      cases r0 : roadIs g la with
      | false => simp
      | true =>
        cases rl : roadIs g lb with
        | false => simp
        | true =>
          have b0 := roadIs_iff.1 r0
          have bl := roadIs_iff.1 rl
          simp [b0, bl, v2', hv, hpos, hsub]
end Go.Proofs.Ytchbpdnaodicaaa
