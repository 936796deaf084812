/- FnTilesOf: the law's loops. -/
import Derived.Test.YtckhnmkabmognaaR5at
set_option linter.unusedVariables false
set_option linter.unusedSimpArgs false
open Go Go.Vm Go.Proofs
namespace Go.Proofs.Ytckhnmkabmognaa.V
theorem and4 (A B C D : Prop) [Decidable A] [Decidable B] [Decidable C] [Decidable D] : (bif (bif (bif (decide A) then (decide B) else false) then (decide C) else false) then (decide D) else false) = decide (A ∧ B ∧ C ∧ D) := by
  by_cases hA : A <;> by_cases hB : B <;> by_cases hC : C <;> by_cases hD : D <;> simp [hA, hB, hC, hD]
def PtOk (p : Int × Int) : Prop := p.1 ≥ -10000000 ∧ p.1 ≤ 10000000 ∧ p.2 ≥ -10000000 ∧ p.2 ≤ 10000000
instance (p : Int × Int) : Decidable (PtOk p) := by unfold PtOk; exact inferInstance
abbrev Bx := (Int × Int) × (Int × Int)
def BoxOk (b : Bx) : Prop := PtOk b.1 ∧ PtOk b.2 ∧ b.1.1 ≤ b.2.1 ∧ b.1.2 ≤ b.2.2
instance (b : Bx) : Decidable (BoxOk b) := by unfold BoxOk; exact inferInstance
theorem e64 (k : Nat) (p : Int × Int) : f64 k p = some (decide (PtOk p)) := by unfold f64; rw [and4]; rfl
theorem e65 (k : Nat) (p : Int × Int) : f65 k p = some (decide (PtOk p)) := by unfold f65; rw [and4]; rfl
theorem e32 (k : Nat) (b : Bx) : f32 k b = some (decide (BoxOk b)) := by
  unfold f32
  simp only [e64, Option.bind_some]
  by_cases h1 : PtOk b.1
  · simp only [h1, decide_true, if_true, Option.bind_some]
    by_cases h2 : PtOk b.2 <;> by_cases h3 : b.1.1 ≤ b.2.1 <;> by_cases h4 : b.1.2 ≤ b.2.2 <;> simp [BoxOk, h1, h2, h3, h4]
  · simp only [h1, decide_false]
    simp [BoxOk, h1]
theorem e34 (k : Nat) (b : Bx) : f34 k b = some (decide (BoxOk b)) := by
  unfold f34
  simp only [e65, Option.bind_some]
  by_cases h1 : PtOk b.1
  · simp only [h1, decide_true, if_true, Option.bind_some]
    by_cases h2 : PtOk b.2 <;> by_cases h3 : b.1.1 ≤ b.2.1 <;> by_cases h4 : b.1.2 ≤ b.2.2 <;> simp [BoxOk, h1, h2, h3, h4]
  · simp only [h1, decide_false]
    simp [BoxOk, h1]
theorem rows8 (k : Nat) (hk : 2000000 < k) {z x0 x1 y0 y1 : Int} (a0 : 0 ≤ x0) (a1 : x1 ≤ 1024) (b0 : 0 ≤ y0) (b1 : y1 ≤ 1024) :
    f8.l103 k (y0, y1) (x0, x1) z k (([] : List TT), y0) = some (tall z x0 y0 (x1 + 1 - x0).toNat (y1 + 1 - y0).toNat) := by
  have hm : (y1 + 1 - y0).toNat + 1 ≤ 1026 := by omega
  have hw : (x1 + 1 - x0).toNat ≤ 1025 := by omega
  have hmul := Nat.mul_le_mul hm hw
  have := colLoop (L := f8.l103 k (y0, y1) (x0, x1) z) (z := z) (x0 := x0) (hy := y1) (w := (x1 + 1 - x0).toNat) (fun m acc y ha => by
    rw [f8.l103]
    simp only
    split
    · exact rowLoop (L := f8.l187 k (x0, x1) z y (f8.l103 k (y0, y1) (x0, x1) z m)) (q := f8.l103 k (y0, y1) (x0, x1) z m) (z := z) (y := y) (hi := x1) (fun _ _ _ => rfl) (by omega) _ k acc x0 rfl (by omega) (by omega) ha
    · rfl) (by omega) (by omega) _ k [] y0 rfl (by omega) (by omega) (by simp only [List.length_nil]; omega)
  rw [this, List.nil_append]
theorem rows9 (k : Nat) (hk : 2000000 < k) {z x0 x1 y0 y1 : Int} (a0 : 0 ≤ x0) (a1 : x1 ≤ 1024) (b0 : 0 ≤ y0) (b1 : y1 ≤ 1024) :
    f9.l103 k (y0, y1) (x0, x1) z k (([] : List TT), y0) = some (tall z x0 y0 (x1 + 1 - x0).toNat (y1 + 1 - y0).toNat) := by
  have hm : (y1 + 1 - y0).toNat + 1 ≤ 1026 := by omega
  have hw : (x1 + 1 - x0).toNat ≤ 1025 := by omega
  have hmul := Nat.mul_le_mul hm hw
  have := colLoop (L := f9.l103 k (y0, y1) (x0, x1) z) (z := z) (x0 := x0) (hy := y1) (w := (x1 + 1 - x0).toNat) (fun m acc y ha => by
    rw [f9.l103]
    simp only
    split
    · exact rowLoop (L := f9.l187 k (x0, x1) z y (f9.l103 k (y0, y1) (x0, x1) z m)) (q := f9.l103 k (y0, y1) (x0, x1) z m) (z := z) (y := y) (hi := x1) (fun _ _ _ => rfl) (by omega) _ k acc x0 rfl (by omega) (by omega) ha
    · rfl) (by omega) (by omega) _ k [] y0 rfl (by omega) (by omega) (by simp only [List.length_nil]; omega)
  rw [this, List.nil_append]
structure Tl (b : Bx) (z s n x0 x1 y0 y1 : Int) (l : List TT) : Prop where
  z0 : 0 ≤ z
  z1 : z ≤ 10
  zs : Zf z s n
  rx : Rg b.1.1 b.2.1 s n x0 x1
  ry : Rg b.1.2 b.2.2 s n y0 y1
  eq : l = tall z x0 y0 (x1 + 1 - x0).toNat (y1 + 1 - y0).toNat
theorem tiles (k : Nat) (hk : 2000000 < k) (b : Bx) (z : Int) (h0 : 0 ≤ z) : (f8 k b z = some [] ∧ f9 k b z = some []) ∨ ∃ s n x0 x1 y0 y1 l, Tl b z s n x0 x1 y0 y1 l ∧ f8 k b z = some l ∧ f9 k b z = some l := by
  unfold f8 f9
  simp only [e32, e34, Option.bind_some]
  by_cases hb : BoxOk b
  · by_cases hz : z ≤ 10
    · obtain ⟨s, n, hzf⟩ := zf z h0 hz
      obtain ⟨x0, x1, p1, p2, p3⟩ := rng k hzf h0 hb.1.1 hb.2.2.1 hb.2.1.2.1
      obtain ⟨y0, y1, q1, q2, q3⟩ := rng k hzf h0 hb.1.2.2.1 hb.2.2.2 hb.2.1.2.2.2
      have c : (bif (bif (!(decide (BoxOk b))) then true else (decide (z < 0))) then true else (decide (z > 10))) = false := by
        have n1 : ¬ z < 0 := by omega
        have n2 : ¬ z > 10 := by omega
        simp [hb, n1, n2]
      simp only [c, Bool.false_eq_true, if_false, h0, if_true, hzf.fd, hzf.tw, p1, p2, q1, q2, Option.bind_some]
      split
      · exact .inl ⟨rfl, rfl⟩
      · refine .inr ⟨s, n, x0, x1, y0, y1, _, ⟨h0, hz, hzf, p3, q3, rfl⟩, ?_, ?_⟩
        · exact rows8 k hk p3.a0 (by have := p3.b1; have := hzf.n1; omega) q3.a0 (by have := q3.b1; have := hzf.n1; omega)
        · exact rows9 k hk p3.a0 (by have := p3.b1; have := hzf.n1; omega) q3.a0 (by have := q3.b1; have := hzf.n1; omega)
    · refine .inl ⟨?_, ?_⟩
      · rw [if_t (by simp; omega)]
      · rw [if_t (by simp; omega)]
  · refine .inl ⟨?_, ?_⟩
    · rw [if_t (by simp only [hb, decide_false]; rfl)]
    · rw [if_t (by simp only [hb, decide_false]; rfl)]
theorem beq6 (a b : TT) : Sh.beq sh6 a b = decide (a = b) := by
  obtain ⟨a1, a2, a3⟩ := a
  obtain ⟨b1, b2, b3⟩ := b
  simp only [Sh.beq, Prod.mk.injEq]
  by_cases h1 : a1 = b1 <;> by_cases h2 : a2 = b2 <;> by_cases h3 : a3 = b3 <;> simp [h1, h2, h3]
theorem e12 (k : Nat) (l : List TT) (t : TT) (hl : l.length < k) (hl2 : l.length < 4611686018427387904) : f12 k l t = some (decide (t ∈ l)) := by
  have lp : ∀ (m i : Nat), i ≤ l.length → l.length < m + i → f12.l12 k l t m (i : Int) = some (decide (t ∈ l.drop i)) := by
    intro m
    induction m with
    | zero => intro i h1 h2; omega
    | succ m ih =>
      intro i h1 h2
      unfold f12.l12
      by_cases hi : i < l.length
      · rw [if_t (by simpa using hi), if_t ⟨by omega, by exact_mod_cast hi⟩, beq6, wrap_s (by omega)]
        have hd : l.drop i = l[i] :: l.drop (i + 1) := List.drop_eq_getElem_cons hi
        have hg : List.getD l (Int.toNat (i : Int)) ((0 : Int), ((0 : Int), (0 : Int))) = l[i] := by simp [List.getD_eq_getElem?_getD, hi]
        rw [hg, hd]
        by_cases he : l[i] = t
        · simp [he]
        · have he' : ¬ t = l[i] := fun h => he h.symm
          simp only [he, decide_false, Bool.false_eq_true, if_false, ih (i + 1) (by omega) (by omega), List.mem_cons, he', false_or]
      · rw [if_f (by simpa using hi), List.drop_of_length_le (by omega)]
        simp
  unfold f12
  have := lp k 0 (by omega) (by omega)
  simpa using this
def InT (n X Y : Int) : Prop := X ≥ 0 ∧ X < n ∧ Y ≥ 0 ∧ Y < n
instance (n X Y : Int) : Decidable (InT n X Y) := by unfold InT; exact inferInstance
theorem e11 (k : Nat) {z s n X Y : Int} (hz : Zf z s n) (h0 : 0 ≤ z) (h1 : z ≤ 10) : f11 k (z, (X, Y)) = some (decide (InT n X Y)) := by
  unfold f11
  rw [if_f (by have n1 : ¬ z < 0 := by omega
               have n2 : ¬ z > 10 := by omega
               simp [n1, n2]), if_t h0]
  simp only [hz.tw, and4]
  rfl
theorem mulb {n s X : Int} (hs : 0 < s) (h : n * s = 33554432) (h0 : 0 ≤ X) (h1 : X < n) : 0 ≤ X * s ∧ X * s + s ≤ 33554432 := by
  refine ⟨Int.mul_nonneg h0 (by omega), ?_⟩
  have := Int.mul_le_mul_of_nonneg_right (show X + 1 ≤ n by omega) (show 0 ≤ s by omega)
  rw [Int.add_mul] at this
  omega
theorem e10 (k : Nat) {z s n X Y : Int} (hz : Zf z s n) (h0 : 0 ≤ z) (h1 : z ≤ 10) : f10 k (z, (X, Y)) = some (if InT n X Y then ((X * s - 16777216, Y * s - 16777216), (X * s - 16777216 + s, Y * s - 16777216 + s)) else ((0, 0), (0, 0))) := by
  unfold f10
  simp only [e11 k hz h0 h1, Option.bind_some]
  by_cases hi : InT n X Y
  · obtain ⟨s0, s1, n0, n1, sn, fd, tw, u⟩ := hz
    obtain ⟨a1, a2, a3, a4⟩ := hi
    obtain ⟨m1, m2⟩ := mulb s0 sn a1 a2
    obtain ⟨m3, m4⟩ := mulb s0 sn a3 a4
    have hi : InT n X Y := ⟨a1, a2, a3, a4⟩
    simp only [hi, decide_true, Bool.not_true, Bool.false_eq_true, if_false, h0, if_true, fd]
    rw [wrap_in (n := X * s) (by omega) (by omega), wrap_in (n := Y * s) (by omega) (by omega), wrap_in (n := X * s - 16777216) (by omega) (by omega), wrap_in (n := Y * s - 16777216) (by omega) (by omega), wrap_in (n := X * s - 16777216 + s) (by omega) (by omega), wrap_in (n := Y * s - 16777216 + s) (by omega) (by omega)]
  · simp [hi]
theorem Tl.mem {b : Bx} {z s n x0 x1 y0 y1 : Int} {l : List TT} (h : Tl b z s n x0 x1 y0 y1 l) (X Y : Int) : (z, (X, Y)) ∈ l ↔ (x0 ≤ X ∧ X ≤ x1) ∧ y0 ≤ Y ∧ Y ≤ y1 := by
  rw [h.eq, tall_mem]
  simp only [true_and]
  omega
theorem Tl.sh {b : Bx} {z s n x0 x1 y0 y1 : Int} {l : List TT} (h : Tl b z s n x0 x1 y0 y1 l) {t : TT} (ht : t ∈ l) : t.1 = z ∧ InT n t.2.1 t.2.2 ∧ (x0 ≤ t.2.1 ∧ t.2.1 ≤ x1) ∧ y0 ≤ t.2.2 ∧ t.2.2 ≤ y1 := by
  have hm := ht
  rw [h.eq, tall_mem] at hm
  have := h.rx.a0
  have := h.ry.a0
  have := h.rx.b1
  have := h.ry.b1
  obtain ⟨m1, m2, m3⟩ := hm
  refine ⟨m1, ⟨?_, ?_, ?_, ?_⟩, ⟨?_, ?_⟩, ?_, ?_⟩ <;> omega
theorem Tl.len {b : Bx} {z s n x0 x1 y0 y1 : Int} {l : List TT} (h : Tl b z s n x0 x1 y0 y1 l) : l.length ≤ 1050625 := by
  rw [h.eq, tall_len]
  have := h.rx.b1
  have := h.ry.b1
  have := h.rx.a0
  have := h.ry.a0
  have := h.zs.n1
  exact Nat.mul_le_mul (show (y1 + 1 - y0).toNat ≤ 1025 by omega) (show (x1 + 1 - x0).toNat ≤ 1025 by omega)
theorem inner (k : Nat) (hk : 2000000 < k) {b : Bx} {z s n x0 x1 y0 y1 : Int} {l : List TT} (h : Tl b z s n x0 x1 y0 y1 l) {i : Nat} (hi : i < l.length) {dx dy : Int} (d1 : -1 ≤ dx) (d2 : dx ≤ 1) (d3 : -1 ≤ dy) (d4 : dy ≤ 1) (q : Int → Option Bool) (m : Nat) :
    f3.l3907 k (i : Int) l (b, z) dx q (m + 1) dy = f3.l3907 k (i : Int) l (b, z) dx q m (dy + 1) := by
  have hg : List.getD l (Int.toNat (i : Int)) ((0 : Int), ((0 : Int), (0 : Int))) = l[i] := by simp [List.getD_eq_getElem?_getD, hi]
  obtain ⟨t1, ⟨t2, t3, t4, t5⟩, _, _⟩ := h.sh (List.getElem_mem hi)
  have hn := h.zs.n1
  rw [f3.l3907]
  rw [if_t (by simpa using d4), if_t ⟨by omega, by exact_mod_cast hi⟩, if_t ⟨by omega, by exact_mod_cast hi⟩, hg]
  simp only
  rw [wrap_in (n := l[i].2.1 + dx) (by omega) (by omega), wrap_in (n := l[i].2.2 + dy) (by omega) (by omega), wrap_in (n := dy + 1) (by omega) (by omega)]
  generalize l[i].2.1 + dx = X
  generalize l[i].2.2 + dy = Y
  simp only [e10 k h.zs h.z0 h.z1, e11 k h.zs h.z0 h.z1, Option.bind_some]
  by_cases hin : InT n X Y
  · have hl := h.len
    simp only [hin, decide_true, if_true, e12 k l _ (by omega) (by omega), Option.bind_some, and4]
    have e : ((X * s - 16777216 ≤ b.2.1 ∧ b.1.1 ≤ X * s - 16777216 + s ∧ Y * s - 16777216 ≤ b.2.2 ∧ b.1.2 ≤ Y * s - 16777216 + s)) ↔ (z, (X, Y)) ∈ l := by
      rw [h.mem, h.rx.hi X hin.1 hin.2.1, h.rx.lo X hin.1 hin.2.1, h.ry.hi Y hin.2.2.1 hin.2.2.2, h.ry.lo Y hin.2.2.1 hin.2.2.2]
      omega
    have e' : decide (X * s - 16777216 ≤ b.2.1 ∧ b.1.1 ≤ X * s - 16777216 + s ∧ Y * s - 16777216 ≤ b.2.2 ∧ b.1.2 ≤ Y * s - 16777216 + s) = decide ((z, (X, Y)) ∈ l) := by
      by_cases hm : (z, (X, Y)) ∈ l
      · rw [decide_eq_true hm, decide_eq_true (e.2 hm)]
      · rw [decide_eq_false hm, decide_eq_false (fun h' => hm (e.1 h'))]
    rw [e']
    simp
  · simp [hin]
theorem innerAll (k : Nat) (hk : 2000000 < k) {b : Bx} {z s n x0 x1 y0 y1 : Int} {l : List TT} (h : Tl b z s n x0 x1 y0 y1 l) {i : Nat} (hi : i < l.length) {dx : Int} (d1 : -1 ≤ dx) (d2 : dx ≤ 1) (q : Int → Option Bool) :
    f3.l3907 k (i : Int) l (b, z) dx q k (-1) = q (dx + 1) := by
  obtain ⟨m, rfl⟩ : ∃ m, k = m + 1 + 1 + 1 + 1 := ⟨k - 4, by omega⟩
  rw [inner _ hk h hi d1 d2 (by omega) (by omega), inner _ hk h hi d1 d2 (by omega) (by omega), inner _ hk h hi d1 d2 (by omega) (by omega), f3.l3907]
  rw [if_f (by decide), wrap_in (by omega) (by omega)]
theorem midAll (k : Nat) (hk : 2000000 < k) {b : Bx} {z s n x0 x1 y0 y1 : Int} {l : List TT} (h : Tl b z s n x0 x1 y0 y1 l) {i : Nat} (hi : i < l.length) (q : Int → Option Bool) :
    f3.l3637 k (i : Int) l (b, z) q k (-1) = q (i + 1) := by
  have st : ∀ (m : Nat) (dx : Int), -1 ≤ dx → dx ≤ 1 → f3.l3637 k (i : Int) l (b, z) q (m + 1) dx = f3.l3637 k (i : Int) l (b, z) q m (dx + 1) := by
    intro m dx d1 d2
    rw [f3.l3637, if_t (by simpa using d2), innerAll k hk h hi d1 d2]
  obtain ⟨m, hm⟩ : ∃ m, k = m + 1 + 1 + 1 + 1 := ⟨k - 4, by omega⟩
  have hl := h.len
  rw [show f3.l3637 k (i : Int) l (b, z) q k (-1) = f3.l3637 k (i : Int) l (b, z) q (m + 1 + 1 + 1 + 1) (-1) by rw [← hm]]
  rw [st _ _ (by omega) (by omega), st _ _ (by omega) (by omega), st _ _ (by omega) (by omega), f3.l3637]
  rw [if_f (by decide), wrap_in (by omega) (by omega)]
theorem outer (k : Nat) (hk : 2000000 < k) {b : Bx} {z s n x0 x1 y0 y1 : Int} {l : List TT} (h : Tl b z s n x0 x1 y0 y1 l) : f3.l1985 k l (b, z) k 0 = some true := by
  have hl := h.len
  have lp : ∀ (m i : Nat), i ≤ l.length → l.length < m + i → f3.l1985 k l (b, z) m (i : Int) = some true := by
    intro m
    induction m with
    | zero => intro i h1 h2; omega
    | succ m ih =>
      intro i h1 h2
      rw [f3.l1985]
      by_cases hi : i < l.length
      · have hg : List.getD l (Int.toNat (i : Int)) ((0 : Int), ((0 : Int), (0 : Int))) = l[i] := by simp [List.getD_eq_getElem?_getD, hi]
        obtain ⟨t1, hin, t6, t7⟩ := h.sh (List.getElem_mem hi)
        rw [if_t (by simpa using hi), if_t ⟨by omega, by exact_mod_cast hi⟩, hg]
        have ht : l[i] = (z, (l[i].2.1, l[i].2.2)) := by rw [← t1]
        rw [ht, e10 k h.zs h.z0 h.z1]
        simp only [Option.bind_some]
        rw [if_t ⟨by omega, by exact_mod_cast hi⟩, e11 k h.zs h.z0 h.z1]
        have g1 := (h.rx.hi _ hin.1 hin.2.1).2 t6.2
        have g2 := (h.rx.lo _ hin.1 hin.2.1).2 t6.1
        have g3 := (h.ry.hi _ hin.2.2.1 hin.2.2.2).2 t7.2
        have g4 := (h.ry.lo _ hin.2.2.1 hin.2.2.2).2 t7.1
        simp only [hin, if_true, Option.bind_some, decide_true]
        rw [if_f (by
          have n1 : ¬ (l[i].2.1 * s - 16777216 > b.2.1) := by omega
          have n2 : ¬ (b.1.1 > l[i].2.1 * s - 16777216 + s) := by omega
          have n3 : ¬ (l[i].2.2 * s - 16777216 > b.2.2) := by omega
          have n4 : ¬ (b.1.2 > l[i].2.2 * s - 16777216 + s) := by omega
          simp only [n1, n2, n3, n4, decide_false]
          decide), midAll k hk h hi]
        exact_mod_cast ih (i + 1) (by omega) (by omega)
      · rw [if_f (by simpa using hi)]
  exact_mod_cast lp k 0 (by omega) (by omega)
theorem zero (k : Nat) (hk : 2000000 < k) : ∃ t, f8 k ((0, 0), (0, 0)) 0 = some [t] := by
  rcases tiles k hk ((0, 0), (0, 0)) 0 (by omega) with ⟨h1, _⟩ | ⟨s, n, x0, x1, y0, y1, l, h, h1, _⟩
  · exfalso
    unfold f8 at h1
    obtain ⟨x0, x1, p1, p2, p3⟩ := rng k (z := 0) (s := 33554432) (n := 1) (lx := 0) (hx := 0) (by constructor <;> decide) (by omega) (by omega) (by omega) (by omega)
    have a0 := p3.a0
    have b0 := p3.b0
    have b1 := p3.b1
    have lo := (p3.lo 0 (by omega) (by omega)).1 (by omega)
    have hx0 : x0 = 0 := by omega
    have hx1 : x1 = 0 := by omega
    subst hx0 hx1
    have e1 : Int.fdiv (33554432 : Int) (2 ^ (min (Int.toNat 0) IntKind.i64.bits)) = 33554432 := by decide
    have e2 : IntKind.i64.wrap ((1 : Int) * 2 ^ (min (Int.toNat 0) IntKind.i64.bits)) = 1 := by decide
    have e3 : decide (BoxOk ((0, 0), (0, 0))) = true := by decide
    simp only [e32, e3, Option.bind_some, e1, e2, p1, Int.le_refl, if_true] at h1
    rw [if_f (by decide), if_f (by decide), rows8 k hk (by omega) (by omega) (by omega) (by omega)] at h1
    have := congrArg (Option.map List.length) h1
    rw [Option.map_some, tall_len] at this
    simp at this
  · refine ⟨(0, (0, 0)), ?_⟩
    have hx := h.rx
    have hy := h.ry
    have hn : n = 1 := by have := h.zs.tw; rw [← this]; decide
    subst hn
    have hs : s = 33554432 := by have := h.zs.sn; omega
    subst hs
    have q1 := (hx.lo 0 (by omega) (by omega)).1 (by decide)
    have q2 := (hy.lo 0 (by omega) (by omega)).1 (by decide)
    have := hx.a0
    have := hx.b0
    have := hx.b1
    have := hy.a0
    have := hy.b0
    have := hy.b1
    have e1 : x0 = 0 := by omega
    have e2 : x1 = 0 := by omega
    have e3 : y0 = 0 := by omega
    have e4 : y1 = 0 := by omega
    subst e1 e2 e3 e4
    rw [h1, h.eq]
    rfl
theorem law3' (k : Nat) (hk : 2000000 < k) (x : List Int) : f3 k x = some true := by
  unfold f3 f6
  simp only [Option.bind_some]
  by_cases hx : x.length ≤ 1048576
  · rw [if_f (by simp; omega)]
    obtain ⟨⟨b, z⟩, p1, p2, p3⟩ := t7 k x hx (by omega)
    obtain ⟨t, hz⟩ := zero k hk
    simp only at p2 p3
    simp only [p1, Option.bind_some, hz]
    rcases tiles k hk b z p2 with ⟨h1, h2⟩ | ⟨s, n, x0, x1, y0, y1, l, h, h1, h2⟩
    · simp only [h1, h2, Option.bind_some]
      obtain ⟨m, hm⟩ : ∃ m, k = m + 1 := ⟨k - 1, by omega⟩
      have : f3.l1985 k ([] : List TT) (b, z) k 0 = some true := by
        conv => lhs; rw [hm]
        rw [f3.l1985, if_f (by decide)]
      rw [this]
      simp
    · simp only [h1, h2, Option.bind_some, outer k hk h]
      simp
  · rw [if_t (by simp; omega)]
end Go.Proofs.Ytckhnmkabmognaa.V
