/-
  The specification's way forward. No condition.
-/
import Derived.Test.YtjfledckleeoaaaR2lgr
set_option linter.unusedVariables false
set_option linter.unusedSimpArgs false
namespace Go.Proofs.Ytjfledckleeoaaa
open Go Go.Vm Go.Proofs V

def Zr (ct : List Int) : Prop := ∀ e, T ct e = 0
theorem Zr.set {ct : List Int} (h : Zr ct) (x e : Nat) : Zr (ct.set e (T ct x + 0)) := fun y => by
  show (ct.set e (T ct x + 0)).getD y 0 = 0
  rw [getD_set, h x]; split
  · rfl
  · exact h y
theorem mem_out {g : Graph} {s e : Nat} : e ∈ outN g s ↔ e < g.2.1.length ∧ (g.2.1.getD e dR).1 = (s : Int) := by
  unfold outN; rw [List.mem_filter]; simp
theorem out_nodup (g : Graph) (s : Nat) : (outN g s).Nodup := List.Nodup.sublist List.filter_sublist List.nodup_range

theorem relax94 {g : Graph} (hg : GOk g) (k : Nat) (hk : 1048576 < k) (s : Nat) {x : Nat} (hx : x < g.2.1.length) {es : List (List Int)} (hes : Ends g false es) (op0 : List Int) (kk : Nat) (hop : op0.getD kk 0 = (x : Int)) (dn0 : List Bool) (hdl : dn0.length = g.2.1.length) (out : List Int)
    (q : (List Int × List Int × List Bool × List Int) → Option (List Int)) (tm ct op : List Int) (hI : Inv (dgF g hg s) (partX (dgF g hg s) x []) tm ct (dn0.set x true)) (hR : Row (dgF g hg s) tm (dn0.set x true) op) (hc : Cur (dgF g hg s) tm ct (dn0.set x true) x) (hz : Zr ct) :
    ∃ tm' ct' op', f94.l1668 k es g op0 (kk : Int) dn0 out q k (tm, op, (0 : Int)) = q (out, tm', dn0.set x true, op') ∧ Inv (dgF g hg s) (dgF g hg s).adj tm' ct' (dn0.set x true) ∧ Row (dgF g hg s) tm' (dn0.set x true) op' ∧ Zr ct' ∧ ∀ y, D (dn0.set x true) y = true → T tm' y = T tm y := by
  have n1 := hg.n1
  have n2 := hg.n2
  have hxr := road_nat hx
  have hend := road_ends hg hxr
  have hadj : es.getD (g.2.1.getD x dR).2.1.toNat [] = ((dgF g hg s).adj x).map fun (r : Nat) => (r : Int) := by
    have h1 : (roadAt g (x : Int)).2.1 = (g.2.1.getD x dR).2.1 := by unfold roadAt; rw [Int.toNat_natCast]
    rw [h1] at hend
    rw [hes.2 _ (by omega)]
    exact outs_eq g _
  have hlen : ((dgF g hg s).adj x).length ≤ g.2.1.length := Nat.le_trans (List.length_filter_le _ _) (by simp)
  obtain ⟨tm', ct', op', q1, q2, q3, q4, q5⟩ := relaxRow (G := dgF g hg s) (P := Zr) hx (dn := dn0.set x true)
    (L := fun m tm ct op i => f94.l1668 k es g op0 (kk : Int) dn0 out q m (tm, op, (i : Int))) (Q := fun tm ct op => q (out, tm, dn0.set x true, op))
    (fun m tm ct op i hi hI hR hz hc => by
      have he := getD_in' hi
      have hl1 := hI.l1; have hl2 := hI.l2
      have hai : ((dgF g hg s).adj x).getD i 0 < g.2.1.length := (dgF g hg s).hadj x hx _ he
      have hci : decide ((i : Int) < ((((dgF g hg s).adj x).map fun (r : Nat) => (r : Int)).length : Int)) = true := by simpa using hi
      have hbi : (0 : Int) ≤ (i : Int) ∧ (i : Int) < ((((dgF g hg s).adj x).map fun (r : Nat) => (r : Int)).length : Int) := ⟨by omega, by simpa using hi⟩
      have hb1 := bnd_num (G := dgF g hg s) rfl n2 hI hx
      have hb0 := hI.pos x hx (hI.dfin x hx hc.don)
      have hcv : (dgF g hg s).cost x (((dgF g hg s).adj x).getD i 0) = if ((dgF g hg s).adj x).getD i 0 < g.2.1.length then costN g x (((dgF g hg s).adj x).getD i 0) (((dgF g hg s).adj x).getD i 0) else -1 := rfl
      have hcd := castD ((dgF g hg s).adj x) i
      have hol : op.length ≤ g.2.1.length := hR.len
      generalize ((dgF g hg s).adj x).getD i 0 = e at *
      rw [if_pos hai] at hcv
      have htm := time_bd hg hai
      have htr := turn_range g (x : Int) (e : Int)
      have e76' := e76 hg k hk hxr (road_nat hai)
      have hdl' : (dgF g hg s).dl = 0 := rfl
      have tl1 : tm.length = g.2.1.length := hl1
      have be : (0 : Int) ≤ (e : Int) ∧ (e : Int) < (g.2.1.length : Int) := ⟨by omega, by omega⟩
      have bx : (0 : Int) ≤ (x : Int) ∧ (x : Int) < (g.2.1.length : Int) := ⟨by omega, by omega⟩
      have w0 : IntKind.i64.wrap ((i : Int) + 1) = ((i + 1 : Nat) : Int) := wrap_s (by have : i < ((dgF g hg s).adj x).length := hi; omega)
      have w1 : IntKind.i64.wrap (T tm x + turnOf g (x : Int) (e : Int)) = T tm x + turnOf g (x : Int) (e : Int) := wrap_in (by omega) (by omega)
      have w2 : IntKind.i64.wrap (T tm x + turnOf g (x : Int) (e : Int) + timeOf g e) = T tm x + turnOf g (x : Int) (e : Int) + timeOf g e := wrap_in (by omega) (by omega)
      have hgt : (g.2.1.getD e dR).2.2.2.1 = timeOf g e := rfl
      have key : f94.l1668 k es g op0 (kk : Int) dn0 out q (m + 1) (tm, op, (i : Int)) =
          if D (dn0.set x true) e = true ∨ turnOf g (x : Int) (e : Int) < 0 then f94.l1668 k es g op0 (kk : Int) dn0 out q m (tm, op, ((i + 1 : Nat) : Int)) else
          if T tm e < 0 then f94.l1668 k es g op0 (kk : Int) dn0 out q m (tm.set e (T tm x + turnOf g (x : Int) (e : Int) + timeOf g e), op ++ [(e : Int)], ((i + 1 : Nat) : Int)) else
          if T tm e ≤ T tm x + turnOf g (x : Int) (e : Int) + timeOf g e then f94.l1668 k es g op0 (kk : Int) dn0 out q m (tm, op, ((i + 1 : Nat) : Int)) else
          f94.l1668 k es g op0 (kk : Int) dn0 out q m (tm.set e (T tm x + turnOf g (x : Int) (e : Int) + timeOf g e), op, ((i + 1 : Nat) : Int)) := by
        rw [f94.l1668]
        simp only [Int.toNat_natCast, hop, hadj, hcd, e76', Option.bind_some, f94.j1817, f94.j1825, w0, List.length_set, hdl, tl1, hgt, w1, w2, if_t hci, if_t hbi, if_t be, if_t bx]
        by_cases h1 : D (dn0.set x true) e = true ∨ turnOf g (x : Int) (e : Int) < 0
        · rw [if_t, if_pos h1]
          rcases h1 with h1 | h1
          · rw [show (dn0.set x true).getD e false = true from h1]; rfl
          · rw [decide_eq_true h1]; cases (dn0.set x true).getD e false <;> rfl
        · rw [if_f (fun hx => h1 (by
            cases hd : (dn0.set x true).getD e false with
            | true => exact .inl hd
            | false => rw [hd] at hx; exact .inr (by simpa using hx))), if_neg h1]
          by_cases h2 : T tm e < 0
          · rw [if_t (by simpa using h2), if_t (by simp; omega), if_pos h2]
          · rw [if_f (by simpa using h2), if_neg h2]
            by_cases h3 : T tm e ≤ T tm x + turnOf g (x : Int) (e : Int) + timeOf g e
            · rw [if_t (decide_eq_true (show T tm x + turnOf g (x : Int) (e : Int) + timeOf g e ≥ T tm e from h3)), if_pos h3]
            · rw [if_f (by rw [decide_eq_true_eq]; exact h3), if_neg h3]
      have hcn : costN g x e e < 0 ↔ turnOf g (x : Int) (e : Int) < 0 := by unfold costN; split <;> omega
      have hcp : ¬ turnOf g (x : Int) (e : Int) < 0 → costN g x e e = turnOf g (x : Int) (e : Int) + timeOf g e := fun h => by unfold costN; rw [if_neg h]
      rw [hcv, hdl', hz e, hz x]
      have hLe : ∀ a b : Int, Le a 0 b (0 + 0) ↔ a ≤ b := fun a b => by unfold Le; omega
      rw [hLe]
      refine ⟨fun h => ?_, fun hd h0 h1 => ?_, fun hd h0 h1 h2 => ?_, fun hd h0 h1 h2 => ?_⟩
      · show f94.l1668 k es g op0 (kk : Int) dn0 out q (m + 1) (tm, op, (i : Int)) = _
        rw [key, if_pos (by rw [hcn] at h; exact h)]
      · have ht : ¬ turnOf g (x : Int) (e : Int) < 0 := by rw [← hcn]; omega
        show f94.l1668 k es g op0 (kk : Int) dn0 out q (m + 1) (tm, op, (i : Int)) = _
        rw [key, if_neg (by rw [hd]; simpa using ht), if_pos h1, hcp ht, show T tm x + (turnOf g (x : Int) (e : Int) + timeOf g e) = T tm x + turnOf g (x : Int) (e : Int) + timeOf g e by omega]
      · have ht : ¬ turnOf g (x : Int) (e : Int) < 0 := by rw [← hcn]; omega
        show f94.l1668 k es g op0 (kk : Int) dn0 out q (m + 1) (tm, op, (i : Int)) = _
        rw [hcp ht] at h2
        rw [key, if_neg (by rw [hd]; simpa using ht), if_neg (by omega), if_pos (by omega)]
      · have ht : ¬ turnOf g (x : Int) (e : Int) < 0 := by rw [← hcn]; omega
        show f94.l1668 k es g op0 (kk : Int) dn0 out q (m + 1) (tm, op, (i : Int)) = _
        rw [hcp ht] at h2
        rw [key, if_neg (by rw [hd]; simpa using ht), if_neg (by omega), if_neg (by omega), hcp ht, show T tm x + (turnOf g (x : Int) (e : Int) + timeOf g e) = T tm x + turnOf g (x : Int) (e : Int) + timeOf g e by omega])
    (fun ct e h => h.set x e)
    (fun m tm ct op _ _ => by
      show f94.l1668 k es g op0 (kk : Int) dn0 out q (m + 1) (tm, op, (((dgF g hg s).adj x).length : Int)) = _
      rw [f94.l1668]
      simp only [Int.toNat_natCast, hop, hadj, List.length_map]
      rw [if_f (by simp)])
    _ 0 k tm ct op (Nat.zero_add _) (by omega) (by rw [List.take_zero]; exact hI) hR hz hc
  exact ⟨tm', ct', op', q1, q2, q3, q4, q5⟩

/-- The least times of the places, as far as the marked roads tell. -/
def upd (out : List Int) (p : Nat) (v : Int) : List Int := if T out p < 0 ∨ v < T out p then out.set p v else out

theorem min94 {g : Graph} (hg : GOk g) (k : Nat) (hk : 1048576 < k) {es : List (List Int)} (hel : es.length = g.1.length) (out op tm : List Int) (dn : List Bool) (h0' : out.length = g.1.length) (h1 : tm.length = g.2.1.length) (h3 : dn.length = g.2.1.length)
    (hop : ∀ i, i < op.length → ∃ e : Nat, op.getD i 0 = (e : Int) ∧ e < g.2.1.length) (h0 : 0 < op.length) (hl : op.length ≤ g.2.1.length) (q : (List Int × List Int × List Bool × List Int) → Option (List Int)) :
    ∃ kk x : Nat, kk < op.length ∧ op.getD kk 0 = (x : Int) ∧ x < g.2.1.length ∧ f94.l1624 k op tm dn g out es q k ((0 : Int), (1 : Int)) = f94.l1668 k es g op (kk : Int) dn (upd out (g.2.1.getD x dR).2.1.toNat (T tm x)) q k (tm, remK op kk, (0 : Int)) ∧
      ∀ j, j < op.length → ¬ (T tm (op.getD j 0).toNat < T tm (op.getD kk 0).toNat ∨ (T tm (op.getD j 0).toNat = T tm (op.getD kk 0).toNat ∧ (0 : Int) < 0)) := by
  have n2 := hg.n2
  obtain ⟨kk, q1, q2, q3⟩ := minRow (n := op.length) (a := fun j => T tm (op.getD j 0).toNat) (b := fun j => 0)
    (L := fun m kk i => f94.l1624 k op tm dn g out es q m ((kk : Int), (i : Int))) (Q := fun kk => f94.l1668 k es g op (kk : Int) dn (upd out (g.2.1.getD (op.getD kk 0).toNat dR).2.1.toNat (T tm (op.getD kk 0).toNat)) q k (tm, remK op kk, (0 : Int)))
    (fun m kk i hki hi => by
      obtain ⟨e, e1, e2⟩ := hop i hi
      obtain ⟨f, f1, f2⟩ := hop kk (by omega)
      have bi : (0 : Int) ≤ (i : Int) ∧ (i : Int) < (op.length : Int) := ⟨by omega, by omega⟩
      have bk : (0 : Int) ≤ (kk : Int) ∧ (kk : Int) < (op.length : Int) := ⟨by omega, by omega⟩
      have be : (0 : Int) ≤ (e : Int) ∧ (e : Int) < (g.2.1.length : Int) := ⟨by omega, by omega⟩
      have bf : (0 : Int) ≤ (f : Int) ∧ (f : Int) < (g.2.1.length : Int) := ⟨by omega, by omega⟩
      have hci : decide ((i : Int) < (op.length : Int)) = true := by simpa using hi
      have w0 : IntKind.i64.wrap ((i : Int) + 1) = ((i + 1 : Nat) : Int) := wrap_s (by omega)
      have key : f94.l1624 k op tm dn g out es q (m + 1) ((kk : Int), (i : Int)) = if T tm e < T tm f ∨ (T tm e = T tm f ∧ (0 : Int) < 0) then f94.l1624 k op tm dn g out es q m ((i : Int), ((i + 1 : Nat) : Int)) else f94.l1624 k op tm dn g out es q m ((kk : Int), ((i + 1 : Nat) : Int)) := by
        rw [f94.l1624]
        simp only [Int.toNat_natCast, e1, f1, h1, if_t hci, if_t bi, if_t bk, if_t be, if_t bf, f94.j1658, w0]
        by_cases c1 : T tm e < T tm f
        · rw [if_t (show decide (tm.getD e 0 < tm.getD f 0) = true from decide_eq_true c1), if_pos (.inl c1)]
        · rw [if_f (show ¬ decide (tm.getD e 0 < tm.getD f 0) = true by rw [decide_eq_true_eq]; exact c1), if_neg (by omega)]
      show (_ → f94.l1624 k op tm dn g out es q (m + 1) ((kk : Int), (i : Int)) = f94.l1624 k op tm dn g out es q m ((i : Int), ((i + 1 : Nat) : Int))) ∧ (_ → f94.l1624 k op tm dn g out es q (m + 1) ((kk : Int), (i : Int)) = f94.l1624 k op tm dn g out es q m ((kk : Int), ((i + 1 : Nat) : Int)))
      rw [e1, f1, Int.toNat_natCast, Int.toNat_natCast, key]
      exact ⟨fun h => if_pos h, fun h => if_neg h⟩)
    (fun m kk hkk => by
      obtain ⟨f, f1, f2⟩ := hop kk hkk
      have bk : (0 : Int) ≤ (kk : Int) ∧ (kk : Int) < (op.length : Int) := ⟨by omega, by omega⟩
      have bf : (0 : Int) ≤ (f : Int) ∧ (f : Int) < (g.2.1.length : Int) := ⟨by omega, by omega⟩
      have w1 : IntKind.i64.wrap ((op.length : Int) - 1) = ((op.length - 1 : Nat) : Int) := by rw [wrap_in (by omega) (by omega)]; omega
      have hend := road_ends hg (road_nat f2)
      have hfr : (roadAt g (f : Int)).2.1 = (g.2.1.getD f dR).2.1 := by unfold roadAt; rw [Int.toNat_natCast]
      rw [hfr] at hend
      have hend := hend.2
      show f94.l1624 k op tm dn g out es q (m + 1) ((kk : Int), (op.length : Int)) = _
      rw [f94.l1624, if_f (by simp)]
      simp only [Int.toNat_natCast, f1, h1, h3, h0', List.length_set, w1, if_t bk, if_t bf, f94.j1667, hel]
      rw [if_t ⟨by omega, by omega⟩, if_t ⟨by omega, by omega⟩, if_t hend, if_t (fun _ => bf), if_t (fun _ => hend), Option.bind_some]
      unfold upd
      by_cases c1 : T out (g.2.1.getD f dR).2.1.toNat < 0
      · rw [if_t (by rw [show decide (out.getD (g.2.1.getD f dR).2.1.toNat 0 < 0) = true from decide_eq_true c1]; rfl), if_t hend, if_t hend, if_pos (.inl c1)]
        rfl
      · rw [show decide (out.getD (g.2.1.getD f dR).2.1.toNat 0 < 0) = false from decide_eq_false c1]
        by_cases c2 : T tm f < T out (g.2.1.getD f dR).2.1.toNat
        · rw [if_t (by rw [show decide (tm.getD f 0 < out.getD (g.2.1.getD f dR).2.1.toNat 0) = true from decide_eq_true c2]; rfl), if_t hend, if_t hend, if_pos (.inr c2)]
          rfl
        · rw [if_f (by rw [show decide (tm.getD f 0 < out.getD (g.2.1.getD f dR).2.1.toNat 0) = false from decide_eq_false c2]; simp), if_t hend, if_neg (by omega)]
          rfl)
    (op.length - 1) 0 1 k (by omega) (by omega) (by omega) (fun j hj => by
      obtain rfl : j = 0 := by omega
      intro h; omega)
  obtain ⟨x, x1, x2⟩ := hop kk q1
  rw [x1, Int.toNat_natCast] at q2
  exact ⟨kk, x, q1, x1, x2, q2, q3⟩

/-- The least time of every place but the first, and nought there. -/
def Outs (g : Graph) (s : Nat) (S : Nat → Prop) (tm out : List Int) : Prop :=
  out.length = g.1.length ∧ T out s = 0 ∧ ∀ p, p < g.1.length → p ≠ s → MinAt (fun r => r < g.2.1.length ∧ S r ∧ (g.2.1.getD r dR).2.1 = (p : Int)) (T tm) (T out p)
theorem Outs.uniq {g : Graph} {s : Nat} (hs : s < g.1.length) {S S' : Nat → Prop} {tm tm' out out' : List Int} (h : Outs g s S tm out) (h' : Outs g s S' tm' out') (hS : ∀ r, r < g.2.1.length → (S' r ↔ S r)) (ht : ∀ r, r < g.2.1.length → S r → T tm' r = T tm r) : out = out' := by
  refine ext_getD (d := 0) (by rw [h.1, h'.1]) fun p hp => ?_
  rw [h.1] at hp
  by_cases hps : p = s
  · subst hps; exact h.2.1.trans h'.2.1.symm
  · refine MinAt.uniq (MinAt.congr (h.2.2 p hp hps) (fun r => ?_) (fun r hr => ht r hr.1 hr.2.1)) (h'.2.2 p hp hps)
    constructor
    · rintro ⟨a, b, c⟩; exact ⟨a, (hS r a).1 b, c⟩
    · rintro ⟨a, b, c⟩; exact ⟨a, (hS r a).2 b, c⟩

theorem run94 {g : Graph} (hg : GOk g) (k : Nat) (hk : 1048576 < k) (s : Nat) (hs : s < g.1.length) {es : List (List Int)} (hes : Ends g false es) (out tm ct op : List Int) (hz : Zr ct)
    (hI : Inv (dgF g hg s) (dgF g hg s).adj tm ct (List.replicate g.2.1.length false)) (hR : Row (dgF g hg s) tm (List.replicate g.2.1.length false) op) (hO : Outs g s (fun _ => False) tm out) :
    ∃ out' tm' ct', f94.l1028 k g es k (out, tm, List.replicate g.2.1.length false, op) = some out' ∧ Final (dgF g hg s) tm' ct' ∧ Zr ct' ∧ Outs g s (fun r => 0 ≤ T tm' r) tm' out' := by
  have n2 := hg.n2
  obtain ⟨out', tm', ct', dn', q1, q2, q3, q4, q5, q6⟩ := rowRun (G := dgF g hg s) (P := Zr) (σ := List Int) (K := fun out tm dn => Outs g s (fun r => D dn r = true) tm out) (L := fun m out tm ct dn op => f94.l1028 k g es m (out, tm, dn, op)) (F := fun out tm ct => some out)
    (fun m out tm ct dn op hI hR hz hK h0 => by
      obtain ⟨kk, x, c1, c2, c3, c4, c5⟩ := min94 hg k hk hes.1 out op tm dn hK.1 hI.l1 hI.l3 (fun i hi => by obtain ⟨e, e1, e2, _⟩ := hR.in_ hi; exact ⟨e, e1, e2⟩) h0 hR.len (f94.l1028 k g es m)
      obtain ⟨d1, d2, d3, d4, d5⟩ := rowMark hI hR c1 c2 (fun j hj => by rw [hz, hz]; exact c5 j hj)
      obtain ⟨tm', ct', op', r1, r2, r3, r4, r5⟩ := relax94 hg k hk s c3 hes op kk c2 dn hI.l3 (upd out (g.2.1.getD x dR).2.1.toNat (T tm x)) (f94.l1028 k g es m) tm ct (remK op kk) d3 d4 d5 hz
      refine ⟨x, upd out (g.2.1.getD x dR).2.1.toNat (T tm x), tm', ct', op', d1, d2, ?_, r2, r3, r4, ?_⟩
      · show f94.l1028 k g es (m + 1) (out, tm, dn, op) = _
        rw [f94.l1028, if_t (by simp; omega), c4, r1]
      · have hend := (road_ends hg (road_nat c3)).2
        rw [show (roadAt g (x : Int)).2.1 = (g.2.1.getD x dR).2.1 by unfold roadAt; rw [Int.toNat_natCast]] at hend
        have hDx : D (dn.set x true) x = true := d5.don
        have hDo : ∀ r, x ≠ r → D (dn.set x true) r = D dn r := fun r h => getD_set_other h _ _
        have hpx := hI.pos x d1 (by have := d3.dfin x d1 hDx; exact this)
        obtain ⟨k1, k2, k3⟩ := hK
        have hlen : (upd out (g.2.1.getD x dR).2.1.toNat (T tm x)).length = g.1.length := by unfold upd; split <;> simp [k1]
        refine ⟨hlen, ?_, fun p hp hps => ?_⟩
        · unfold upd
          by_cases hts : (g.2.1.getD x dR).2.1.toNat = s
          · rw [hts, if_neg (by rw [k2]; omega)]; exact k2
          · split
            · show (out.set _ _).getD s 0 = 0
              rw [getD_set_other hts]; exact k2
            · exact k2
        · have hold := k3 p hp hps
          by_cases hto : (g.2.1.getD x dR).2.1.toNat = p
          · have e1 : T (upd out (g.2.1.getD x dR).2.1.toNat (T tm x)) p = if T out p < 0 ∨ T tm x < T out p then T tm x else T out p := by
              rw [hto]; unfold upd; split
              · exact getD_set_same (by rw [k1]; exact hp) _ _
              · rfl
            rw [e1]
            refine MinAt.congr (MinAt.add hold (x := x) (S' := fun r => (r < g.2.1.length ∧ D dn r = true ∧ (g.2.1.getD r dR).2.1 = (p : Int)) ∨ r = x) (fun r => Iff.rfl) (fun r hr => hI.dfin r hr.1 hr.2.1)) (fun r => ?_) (fun r hr => ?_)
            · by_cases hrx : x = r
              · subst hrx; exact ⟨fun _ => .inr rfl, fun _ => ⟨c3, hDx, by omega⟩⟩
              · dsimp only; rw [hDo r hrx]; exact ⟨fun h => .inl h, fun h => h.resolve_right (fun h => hrx h.symm)⟩
            · refine r5 r ?_
              rcases hr with hr | hr
              · by_cases hrx : x = r
                · rw [← hrx]; exact hDx
                · rw [hDo r hrx]; exact hr.2.1
              · rw [hr]; exact hDx
          · have e1 : T (upd out (g.2.1.getD x dR).2.1.toNat (T tm x)) p = T out p := by
              unfold upd; split
              · exact getD_set_other hto _ _
              · rfl
            rw [e1]
            refine MinAt.congr hold (fun r => ?_) (fun r hr => ?_)
            · by_cases hrx : x = r
              · subst hrx
                constructor
                · rintro ⟨a, b, c⟩; exact absurd (by omega) hto
                · rintro ⟨a, b, c⟩; exact absurd (by omega) hto
              · dsimp only; rw [hDo r hrx]
            · refine r5 r ?_
              by_cases hrx : x = r
              · rw [← hrx]; exact hDx
              · rw [hDo r hrx]; exact hr.2.1)
    (fun m out tm ct dn op h0 => by
      show f94.l1028 k g es (m + 1) (out, tm, dn, op) = _
      rw [f94.l1028, if_f (by simp [h0])])
    g.2.1.length k out tm ct _ op (by show g.2.1.length - _ ≤ _; omega) (by omega) hI hR hz ⟨hO.1, hO.2.1, fun p hp hps => MinAt.congr (hO.2.2 p hp hps) (fun r => by dsimp only; rw [D_rep]; simp) (fun _ _ => rfl)⟩
  refine ⟨out', tm', ct', q1, q2, q3, q4.1, q4.2.1, fun p hp hps => MinAt.congr (q4.2.2 p hp hps) (fun r => ?_) (fun _ _ => rfl)⟩
  constructor
  · rintro ⟨a, b, c⟩; exact ⟨a, (q6 r a).1 b, c⟩
  · rintro ⟨a, b, c⟩; exact ⟨a, (q6 r a).2 b, c⟩
end Go.Proofs.Ytjfledckleeoaaa
