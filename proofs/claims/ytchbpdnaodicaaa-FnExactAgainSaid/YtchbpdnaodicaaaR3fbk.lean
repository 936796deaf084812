/-
  The net of a graph's roads, backwards and forwards; the specification's way back. No condition.
-/
import Derived.Test.YtchbpdnaodicaaaR3fhp
import Derived.Test.YtchbpdnaodicaaaDijR
set_option linter.unusedVariables false
set_option linter.unusedSimpArgs false
namespace Go.Proofs.Ytchbpdnaodicaaa
open Go Go.Vm Go.Proofs V
def inN (g : Graph) (p : Nat) : List Nat := (List.range g.2.1.length).filter fun r => decide ((g.2.1.getD r dR).2.1 = (p : Int))
def outN (g : Graph) (p : Nat) : List Nat := (List.range g.2.1.length).filter fun r => decide ((g.2.1.getD r dR).1 = (p : Int))
theorem inns_eq (g : Graph) (p : Nat) : inns g g.2.1.length p = (inN g p).map fun (r : Nat) => (r : Int) := rfl
theorem outs_eq (g : Graph) (p : Nat) : outs g g.2.1.length p = (outN g p).map fun (r : Nat) => (r : Int) := rfl
theorem castD (l : List Nat) (i : Nat) : (l.map fun (r : Nat) => (r : Int)).getD i 0 = ((l.getD i 0 : Nat) : Int) := by
  simp only [List.getD_eq_getElem?_getD, List.getElem?_map]
  cases l[i]? <;> rfl
theorem turn_range (g : Graph) (e f : Int) : -1 ≤ turnOf g e f ∧ turnOf g e f ≤ 20 := by
  unfold turnOf costOf
  split
  · omega
  · split
    · omega
    · split
      · omega
      · split <;> omega
def timeOf (g : Graph) (e : Nat) : Int := (g.2.1.getD e dR).2.2.2.1
theorem time_bd {g : Graph} (hg : GOk g) {e : Nat} (h : e < g.2.1.length) : 1 ≤ timeOf g e ∧ timeOf g e ≤ 1000000 := by
  have := hg.road e h
  unfold timeOf
  simp only [okRoad, Bool.and_eq_true, decide_eq_true_eq] at this
  omega
def costN (g : Graph) (a b e : Nat) : Int := if turnOf g (a : Int) (b : Int) < 0 then -1 else turnOf g (a : Int) (b : Int) + timeOf g e
def dgB (g : Graph) (hg : GOk g) (t : Int) : DG where
  n := g.2.1.length
  adj x := inN g (g.2.1.getD x dR).1.toNat
  cost x e := if e < g.2.1.length then costN g e x e else -1
  start e := if e < g.2.1.length ∧ (g.2.1.getD e dR).2.1 = t then some (timeOf g e) else none
  dl := 1
  C := 1000020
  hadj := fun x hx e he => by simpa using (List.mem_filter.1 he).1
  hcost := fun x e hx he => by
    have hl : e < g.2.1.length := by simpa using (List.mem_filter.1 he).1
    have := time_bd hg hl
    have := turn_range g e x
    rw [if_pos hl]; unfold costN; split <;> omega
  hstart := fun e s h => by
    by_cases hc : e < g.2.1.length ∧ (g.2.1.getD e dR).2.1 = t
    · rw [if_pos hc] at h
      have := time_bd hg hc.1
      have : timeOf g e = s := by simpa using h
      omega
    · rw [if_neg hc] at h; cases h
  hdl := .inr rfl
  hC := by decide
def dgF (g : Graph) (hg : GOk g) (s : Nat) : DG where
  n := g.2.1.length
  adj x := outN g (g.2.1.getD x dR).2.1.toNat
  cost x e := if e < g.2.1.length then costN g x e e else -1
  start e := if e < g.2.1.length ∧ (g.2.1.getD e dR).1 = (s : Int) then some (timeOf g e) else none
  dl := 0
  C := 1000020
  hadj := fun x hx e he => by simpa using (List.mem_filter.1 he).1
  hcost := fun x e hx he => by
    have hl : e < g.2.1.length := by simpa using (List.mem_filter.1 he).1
    have := time_bd hg hl
    have := turn_range g x e
    rw [if_pos hl]; unfold costN; split <;> omega
  hstart := fun e v h => by
    by_cases hc : e < g.2.1.length ∧ (g.2.1.getD e dR).1 = (s : Int)
    · rw [if_pos hc] at h
      have := time_bd hg hc.1
      have : timeOf g e = v := by simpa using h
      omega
    · rw [if_neg hc] at h; cases h
  hdl := .inl rfl
  hC := by decide
theorem road_nat {g : Graph} {e : Nat} (h : e < g.2.1.length) : roadIs g (e : Int) = true := roadIs_iff.2 ⟨by omega, by omega⟩
theorem bnd_num {G : DG} (hC : G.C = 1000020) (hn : G.n ≤ 8000) {part : Nat → List Nat} {tm ct : List Int} {dn : List Bool} (h : Inv G part tm ct dn) {x : Nat} (hx : x < G.n) : T tm x ≤ 10000000000 ∧ T ct x ≤ 8001 := by
  obtain ⟨b1, b2⟩ := h.bnd x hx
  have := cnt_le dn
  rw [h.l3] at this
  rw [hC] at b1
  omega
def Ends (g : Graph) (b : Bool) (t : List (List Int)) : Prop := t.length = g.1.length ∧ ∀ p, p < g.1.length → t.getD p [] = (bif b then inns g g.2.1.length p else outs g g.2.1.length p)
theorem relax111 {g : Graph} (hg : GOk g) (k : Nat) (hk : 1048576 < k) (t : Int) {x : Nat} (hx : x < g.2.1.length) {es : List (List Int)} (hes : Ends g true es) (op0 : List Int) (kk : Nat) (hop : op0.getD kk 0 = (x : Int)) (dn0 : List Bool) (hdl : dn0.length = g.2.1.length)
    (q : (List Int × List Int × List Bool × List Int) → Option (List Int × List Int)) (tm ct op : List Int) (hI : Inv (dgB g hg t) (partX (dgB g hg t) x []) tm ct (dn0.set x true)) (hR : Row (dgB g hg t) tm (dn0.set x true) op) (hc : Cur (dgB g hg t) tm ct (dn0.set x true) x) :
    ∃ tm' ct' op', f111.l2126 k es g op0 (kk : Int) dn0 q k (tm, ct, op, (0 : Int)) = q (tm', ct', dn0.set x true, op') ∧ Inv (dgB g hg t) (dgB g hg t).adj tm' ct' (dn0.set x true) ∧ Row (dgB g hg t) tm' (dn0.set x true) op' := by
  have n1 := hg.n1
  have n2 := hg.n2
  have hxr := road_nat hx
  have hend := road_ends hg hxr
  have hadj : es.getD (g.2.1.getD x dR).1.toNat [] = ((dgB g hg t).adj x).map fun (r : Nat) => (r : Int) := by
    have h1 : (roadAt g (x : Int)).1 = (g.2.1.getD x dR).1 := by unfold roadAt; rw [Int.toNat_natCast]
    rw [h1] at hend
    rw [hes.2 _ (by omega)]
    exact inns_eq g _
  have hlen : ((dgB g hg t).adj x).length ≤ g.2.1.length := Nat.le_trans (List.length_filter_le _ _) (by simp)
  obtain ⟨tm', ct', op', q1, q2, q3, _⟩ := relaxRow (G := dgB g hg t) (P := fun _ => True) hx (dn := dn0.set x true)
    (L := fun m tm ct op i => f111.l2126 k es g op0 (kk : Int) dn0 q m (tm, ct, op, (i : Int))) (Q := fun tm ct op => q (tm, ct, dn0.set x true, op))
    (fun m tm ct op i hi hI hR _ hc => by
      have he := getD_in' hi
      have hl1 := hI.l1; have hl2 := hI.l2
      have hcost := (dgB g hg t).hcost x _ hx he
      have hai : ((dgB g hg t).adj x).getD i 0 < g.2.1.length := (dgB g hg t).hadj x hx _ he
      have hci : decide ((i : Int) < ((((dgB g hg t).adj x).map fun (r : Nat) => (r : Int)).length : Int)) = true := by simpa using hi
      have hbi : (0 : Int) ≤ (i : Int) ∧ (i : Int) < ((((dgB g hg t).adj x).map fun (r : Nat) => (r : Int)).length : Int) := ⟨by omega, by simpa using hi⟩
      have hb1 := bnd_num (G := dgB g hg t) rfl n2 hI hx
      have hb0 := hI.pos x hx (hI.dfin x hx hc.don)
      have hcv : (dgB g hg t).cost x (((dgB g hg t).adj x).getD i 0) = if ((dgB g hg t).adj x).getD i 0 < g.2.1.length then costN g (((dgB g hg t).adj x).getD i 0) x (((dgB g hg t).adj x).getD i 0) else -1 := rfl
      have hcd := castD ((dgB g hg t).adj x) i
      have hcl : (((dgB g hg t).adj x).map fun (r : Nat) => (r : Int)).length = ((dgB g hg t).adj x).length := List.length_map ..
      have hen : Row (dgB g hg t) tm (dn0.set x true) op → op.length ≤ g.2.1.length := fun h => h.len
      have hol := hen hR
      have hbt : T tm (((dgB g hg t).adj x).getD i 0) ≤ 10000000000 := (bnd_num (G := dgB g hg t) rfl n2 hI (x := ((dgB g hg t).adj x).getD i 0) hai).1
      generalize ((dgB g hg t).adj x).getD i 0 = e at *
      rw [if_pos hai] at hcv
      have htm := time_bd hg hai
      have htr := turn_range g (e : Int) (x : Int)
      have e162' := e162 hg k hk (road_nat hai) hxr
      have hdl' : (dgB g hg t).dl = 1 := rfl
      have tl1 : tm.length = g.2.1.length := hl1
      have tl2 : ct.length = g.2.1.length := hl2
      have be : (0 : Int) ≤ (e : Int) ∧ (e : Int) < (g.2.1.length : Int) := ⟨by omega, by omega⟩
      have bx : (0 : Int) ≤ (x : Int) ∧ (x : Int) < (g.2.1.length : Int) := ⟨by omega, by omega⟩
      have w0 : IntKind.i64.wrap ((i : Int) + 1) = ((i + 1 : Nat) : Int) := wrap_s (by omega)
      have w1 : IntKind.i64.wrap (timeOf g e + turnOf g (e : Int) (x : Int)) = timeOf g e + turnOf g (e : Int) (x : Int) := wrap_in (by omega) (by omega)
      have w2 : IntKind.i64.wrap (timeOf g e + turnOf g (e : Int) (x : Int) + T tm x) = timeOf g e + turnOf g (e : Int) (x : Int) + T tm x := wrap_in (by omega) (by omega)
      have w3 : IntKind.i64.wrap (T ct x + 1) = T ct x + 1 := wrap_in (by omega) (by omega)
      have hgt : (g.2.1.getD e dR).2.2.2.1 = timeOf g e := rfl
      have key : f111.l2126 k es g op0 (kk : Int) dn0 q (m + 1) (tm, ct, op, (i : Int)) =
          if D (dn0.set x true) e = true ∨ turnOf g (e : Int) (x : Int) < 0 then f111.l2126 k es g op0 (kk : Int) dn0 q m (tm, ct, op, ((i + 1 : Nat) : Int)) else
          if T tm e < 0 then f111.l2126 k es g op0 (kk : Int) dn0 q m (tm.set e (timeOf g e + turnOf g (e : Int) (x : Int) + T tm x), ct.set e (T ct x + 1), op ++ [(e : Int)], ((i + 1 : Nat) : Int)) else
          if T tm e < timeOf g e + turnOf g (e : Int) (x : Int) + T tm x ∨ (timeOf g e + turnOf g (e : Int) (x : Int) + T tm x = T tm e ∧ T ct e ≤ T ct x + 1) then f111.l2126 k es g op0 (kk : Int) dn0 q m (tm, ct, op, ((i + 1 : Nat) : Int)) else
          f111.l2126 k es g op0 (kk : Int) dn0 q m (tm.set e (timeOf g e + turnOf g (e : Int) (x : Int) + T tm x), ct.set e (T ct x + 1), op, ((i + 1 : Nat) : Int)) := by
        rw [f111.l2126]
        simp only [Int.toNat_natCast, hop, hadj, hcd, e162', Option.bind_some, f111.j2302, f111.j2313, w0, List.length_set, hdl, tl1, tl2, hgt, w1, w2, w3, if_t hci, if_t hbi, if_t be, if_t bx]
        rw [if_t (fun _ => be), if_t (fun _ => bx), if_t (fun _ => be)]
        by_cases h1 : D (dn0.set x true) e = true ∨ turnOf g (e : Int) (x : Int) < 0
        · rw [if_pos h1, if_t]
          rcases h1 with h1 | h1
          · rw [show (dn0.set x true).getD e false = true from h1]; rfl
          · rw [decide_eq_true h1]; cases (dn0.set x true).getD e false <;> rfl
        · rw [if_neg h1, if_f (fun hx => h1 (by
            cases hd : (dn0.set x true).getD e false with
            | true => exact .inl hd
            | false => rw [hd] at hx; exact .inr (by simpa using hx)))]
          by_cases h2 : T tm e < 0
          · rw [if_pos h2, if_t (by simpa using h2), if_t (by simp; omega)]
          · rw [if_neg h2, if_f (by simpa using h2)]
            by_cases h3 : T tm e < timeOf g e + turnOf g (e : Int) (x : Int) + T tm x ∨ (timeOf g e + turnOf g (e : Int) (x : Int) + T tm x = T tm e ∧ T ct e ≤ T ct x + 1)
            · rw [if_pos h3, if_t]
              rcases h3 with h3 | ⟨h3, h4⟩
              · rw [show decide (timeOf g e + turnOf g (e : Int) (x : Int) + T tm x > tm.getD e 0) = true from decide_eq_true h3]; rfl
              · rw [show (timeOf g e + turnOf g (e : Int) (x : Int) + T tm x == tm.getD e 0) = true from beq_iff_eq.2 h3, show decide (T ct x + 1 ≥ ct.getD e 0) = true from decide_eq_true h4]
                cases decide (timeOf g e + turnOf g (e : Int) (x : Int) + T tm x > tm.getD e 0) <;> rfl
            · rw [if_neg h3, if_f]
              rw [show decide (timeOf g e + turnOf g (e : Int) (x : Int) + T tm x > tm.getD e 0) = false from decide_eq_false (fun h => h3 (.inl h))]
              by_cases h4 : timeOf g e + turnOf g (e : Int) (x : Int) + T tm x = T tm e
              · rw [show (timeOf g e + turnOf g (e : Int) (x : Int) + T tm x == tm.getD e 0) = true from beq_iff_eq.2 h4, show decide (T ct x + 1 ≥ ct.getD e 0) = false from decide_eq_false (fun h => h3 (.inr ⟨h4, h⟩))]
                decide
              · rw [show (timeOf g e + turnOf g (e : Int) (x : Int) + T tm x == tm.getD e 0) = false from beq_false_of_ne h4]
                simp
      have hcn : costN g e x e < 0 ↔ turnOf g (e : Int) (x : Int) < 0 := by unfold costN; split <;> omega
      have hcp : ¬ turnOf g (e : Int) (x : Int) < 0 → costN g e x e = turnOf g (e : Int) (x : Int) + timeOf g e := fun h => by unfold costN; rw [if_neg h]
      rw [hcv]
      refine ⟨fun h => ?_, fun hd h0 h1 => ?_, fun hd h0 h1 h2 => ?_, fun hd h0 h1 h2 => ?_⟩
      · show f111.l2126 k es g op0 (kk : Int) dn0 q (m + 1) (tm, ct, op, (i : Int)) = _
        rw [key, if_pos (by rw [hcn] at h; exact h)]
      · have ht : ¬ turnOf g (e : Int) (x : Int) < 0 := by rw [← hcn]; omega
        show f111.l2126 k es g op0 (kk : Int) dn0 q (m + 1) (tm, ct, op, (i : Int)) = _
        rw [key, if_neg (by rw [hd]; simpa using ht), if_pos h1, hcp ht, hdl', show T tm x + (turnOf g (e : Int) (x : Int) + timeOf g e) = timeOf g e + turnOf g (e : Int) (x : Int) + T tm x by omega]
      · have ht : ¬ turnOf g (e : Int) (x : Int) < 0 := by rw [← hcn]; omega
        show f111.l2126 k es g op0 (kk : Int) dn0 q (m + 1) (tm, ct, op, (i : Int)) = _
        rw [hcp ht, hdl'] at h2
        rw [key, if_neg (by rw [hd]; simpa using ht), if_neg (by omega), if_pos (by unfold Le at h2; omega)]
      · have ht : ¬ turnOf g (e : Int) (x : Int) < 0 := by rw [← hcn]; omega
        show f111.l2126 k es g op0 (kk : Int) dn0 q (m + 1) (tm, ct, op, (i : Int)) = _
        rw [hcp ht, hdl'] at h2
        rw [key, if_neg (by rw [hd]; simpa using ht), if_neg (by omega), if_neg (by unfold Le at h2; omega), hcp ht, hdl', show T tm x + (turnOf g (e : Int) (x : Int) + timeOf g e) = timeOf g e + turnOf g (e : Int) (x : Int) + T tm x by omega])
    (fun _ _ _ => trivial)
    (fun m tm ct op _ _ => by
      show f111.l2126 k es g op0 (kk : Int) dn0 q (m + 1) (tm, ct, op, (((dgB g hg t).adj x).length : Int)) = _
      rw [f111.l2126]
      simp only [Int.toNat_natCast, hop, hadj, List.length_map]
      rw [if_f (by simp)])
    _ 0 k tm ct op (Nat.zero_add _) (by omega) (by rw [List.take_zero]; exact hI) hR trivial hc
  exact ⟨tm', ct', op', q1, q2, q3⟩
theorem min111 {g : Graph} (hg : GOk g) (k : Nat) (hk : 1048576 < k) {es : List (List Int)} (hel : es.length = g.1.length) (op tm ct : List Int) (dn : List Bool) (h1 : tm.length = g.2.1.length) (h2 : ct.length = g.2.1.length) (h3 : dn.length = g.2.1.length)
    (hop : ∀ i, i < op.length → ∃ e : Nat, op.getD i 0 = (e : Int) ∧ e < g.2.1.length) (h0 : 0 < op.length) (hl : op.length ≤ g.2.1.length) (q : (List Int × List Int × List Bool × List Int) → Option (List Int × List Int)) :
    ∃ kk x : Nat, kk < op.length ∧ op.getD kk 0 = (x : Int) ∧ x < g.2.1.length ∧ f111.l2051 k op tm ct dn g es q k ((0 : Int), (1 : Int)) = f111.l2126 k es g op (kk : Int) dn q k (tm, ct, remK op kk, (0 : Int)) ∧
      ∀ j, j < op.length → ¬ (T tm (op.getD j 0).toNat < T tm (op.getD kk 0).toNat ∨ (T tm (op.getD j 0).toNat = T tm (op.getD kk 0).toNat ∧ T ct (op.getD j 0).toNat < T ct (op.getD kk 0).toNat)) := by
  have n2 := hg.n2
  obtain ⟨kk, q1, q2, q3⟩ := minRow (n := op.length) (a := fun j => T tm (op.getD j 0).toNat) (b := fun j => T ct (op.getD j 0).toNat)
    (L := fun m kk i => f111.l2051 k op tm ct dn g es q m ((kk : Int), (i : Int))) (Q := fun kk => f111.l2126 k es g op (kk : Int) dn q k (tm, ct, remK op kk, (0 : Int)))
    (fun m kk i hki hi => by
      obtain ⟨e, e1, e2⟩ := hop i hi
      obtain ⟨f, f1, f2⟩ := hop kk (by omega)
      have bi : (0 : Int) ≤ (i : Int) ∧ (i : Int) < (op.length : Int) := ⟨by omega, by omega⟩
      have bk : (0 : Int) ≤ (kk : Int) ∧ (kk : Int) < (op.length : Int) := ⟨by omega, by omega⟩
      have be : (0 : Int) ≤ (e : Int) ∧ (e : Int) < (g.2.1.length : Int) := ⟨by omega, by omega⟩
      have bf : (0 : Int) ≤ (f : Int) ∧ (f : Int) < (g.2.1.length : Int) := ⟨by omega, by omega⟩
      have hci : decide ((i : Int) < (op.length : Int)) = true := by simpa using hi
      have w0 : IntKind.i64.wrap ((i : Int) + 1) = ((i + 1 : Nat) : Int) := wrap_s (by omega)
      have key : f111.l2051 k op tm ct dn g es q (m + 1) ((kk : Int), (i : Int)) = if T tm e < T tm f ∨ (T tm e = T tm f ∧ T ct e < T ct f) then f111.l2051 k op tm ct dn g es q m ((i : Int), ((i + 1 : Nat) : Int)) else f111.l2051 k op tm ct dn g es q m ((kk : Int), ((i + 1 : Nat) : Int)) := by
        rw [f111.l2051]
        simp only [Int.toNat_natCast, e1, f1, h1, h2, if_t hci, if_t bi, if_t bk, if_t be, if_t bf, f111.j2115, w0]
        rw [if_t (fun _ => be), if_t (fun _ => bf), if_t (fun _ => be), if_t (fun _ => bf), Option.bind_some]
        by_cases c1 : T tm e < T tm f
        · rw [if_t (by rw [show decide (tm.getD e 0 < tm.getD f 0) = true from decide_eq_true c1]; rfl), if_pos (.inl c1)]
        · rw [show decide (tm.getD e 0 < tm.getD f 0) = false from decide_eq_false c1]
          by_cases c2 : T tm e = T tm f
          · rw [show (tm.getD e 0 == tm.getD f 0) = true from beq_iff_eq.2 c2]
            by_cases c3 : T ct e < T ct f
            · rw [if_t (by rw [show decide (ct.getD e 0 < ct.getD f 0) = true from decide_eq_true c3]; rfl), if_pos (.inr ⟨c2, c3⟩)]
            · rw [if_f (by rw [show decide (ct.getD e 0 < ct.getD f 0) = false from decide_eq_false c3]; decide), if_neg (by omega)]
          · rw [show (tm.getD e 0 == tm.getD f 0) = false from beq_false_of_ne c2, if_f (by simp), if_neg (by omega)]
      show (_ → f111.l2051 k op tm ct dn g es q (m + 1) ((kk : Int), (i : Int)) = f111.l2051 k op tm ct dn g es q m ((i : Int), ((i + 1 : Nat) : Int))) ∧ (_ → f111.l2051 k op tm ct dn g es q (m + 1) ((kk : Int), (i : Int)) = f111.l2051 k op tm ct dn g es q m ((kk : Int), ((i + 1 : Nat) : Int)))
      rw [e1, f1, Int.toNat_natCast, Int.toNat_natCast, key]
      exact ⟨fun h => if_pos h, fun h => if_neg h⟩)
    (fun m kk hkk => by
      obtain ⟨f, f1, f2⟩ := hop kk hkk
      have bk : (0 : Int) ≤ (kk : Int) ∧ (kk : Int) < (op.length : Int) := ⟨by omega, by omega⟩
      have bf : (0 : Int) ≤ (f : Int) ∧ (f : Int) < (g.2.1.length : Int) := ⟨by omega, by omega⟩
      have w1 : IntKind.i64.wrap ((op.length : Int) - 1) = ((op.length - 1 : Nat) : Int) := by rw [wrap_in (by omega) (by omega)]; omega
      have hend := road_ends hg (road_nat f2)
      have hfr : (roadAt g (f : Int)).1 = (g.2.1.getD f dR).1 := by unfold roadAt; rw [Int.toNat_natCast]
      rw [hfr] at hend
      show f111.l2051 k op tm ct dn g es q (m + 1) ((kk : Int), (op.length : Int)) = _
      rw [f111.l2051, if_f (by simp)]
      simp only [Int.toNat_natCast, f1, h3, hel, List.length_set, w1, if_t bk, if_t bf]
      rw [if_t ⟨by omega, by omega⟩, if_t ⟨by omega, by omega⟩, if_t hend.1]
      rfl)
    (op.length - 1) 0 1 k (by omega) (by omega) (by omega) (fun j hj => by
      obtain rfl : j = 0 := by omega
      intro h; omega)
  obtain ⟨x, x1, x2⟩ := hop kk q1
  exact ⟨kk, x, q1, x1, x2, q2, q3⟩
theorem run111 {g : Graph} (hg : GOk g) (k : Nat) (hk : 1048576 < k) (t : Int) {es : List (List Int)} (hes : Ends g true es) (tm ct op : List Int)
    (hI : Inv (dgB g hg t) (dgB g hg t).adj tm ct (List.replicate g.2.1.length false)) (hR : Row (dgB g hg t) tm (List.replicate g.2.1.length false) op) :
    ∃ tm' ct', f111.l1235 k g es k (tm, ct, List.replicate g.2.1.length false, op) = some (tm', ct') ∧ Final (dgB g hg t) tm' ct' := by
  have n2 := hg.n2
  obtain ⟨_, tm', ct', _, q1, q2, _⟩ := rowRun (G := dgB g hg t) (P := fun _ => True) (σ := Unit) (K := fun _ _ _ => True) (L := fun m _ tm ct dn op => f111.l1235 k g es m (tm, ct, dn, op)) (F := fun _ tm ct => some (tm, ct))
    (fun m _ tm ct dn op hI hR _ _ h0 => by
      obtain ⟨kk, x, c1, c2, c3, c4, c5⟩ := min111 hg k hk hes.1 op tm ct dn hI.l1 hI.l2 hI.l3 (fun i hi => by obtain ⟨e, e1, e2, _⟩ := hR.in_ hi; exact ⟨e, e1, e2⟩) h0 hR.len (f111.l1235 k g es m)
      obtain ⟨d1, d2, d3, d4, d5⟩ := rowMark hI hR c1 c2 c5
      obtain ⟨tm', ct', op', r1, r2, r3⟩ := relax111 hg k hk t c3 hes op kk c2 dn hI.l3 (f111.l1235 k g es m) tm ct (remK op kk) d3 d4 d5
      refine ⟨x, (), tm', ct', op', d1, d2, ?_, r2, r3, trivial, trivial⟩
      show f111.l1235 k g es (m + 1) (tm, ct, dn, op) = _
      rw [f111.l1235, if_t (by simp; omega), c4, r1])
    (fun m _ tm ct dn op h0 => by
      show f111.l1235 k g es (m + 1) (tm, ct, dn, op) = _
      rw [f111.l1235, if_f (by simp [h0])])
    g.2.1.length k () tm ct _ op (by show g.2.1.length - _ ≤ _; omega) (by omega) hI hR trivial trivial
  exact ⟨tm', ct', q1, q2⟩
theorem e111 {g : Graph} (hg : GOk g) (k : Nat) (hk : 1048576 < k) (t : Int) : ∃ tm ct, f111 k g t = some (tm, ct) ∧ Final (dgB g hg t) tm ct := by
  have n2 := hg.n2
  have c8 : (0 : Int) ≤ (g.2.1.length : Int) ∧ Int.toNat (g.2.1.length : Int) * 8 ≤ 140737488355328 := ⟨by omega, by rw [Int.toNat_natCast]; omega⟩
  have c1 : (0 : Int) ≤ (g.2.1.length : Int) ∧ Int.toNat (g.2.1.length : Int) * 1 ≤ 140737488355328 := ⟨by omega, by rw [Int.toNat_natCast]; omega⟩
  obtain ⟨es, es1, es2, es3⟩ := e73 hg k hk true
  have hst : ∀ e, (dgB g hg t).start e = if e < g.2.1.length ∧ (g.2.1.getD e dR).2.1 = t then some (timeOf g e) else none := fun _ => rfl
  have go : ∀ (d i m : Nat) (tm ct op : List Int), i + d = g.2.1.length → d < m → tm.length = g.2.1.length → ct.length = g.2.1.length → op.length ≤ i → Nd op →
      (∀ v, v ∈ op ↔ ∃ e : Nat, v = (e : Int) ∧ e < i ∧ 0 ≤ T tm e) → (∀ e s, e < i → (dgB g hg t).start e = some s → T tm e = s ∧ T ct e = 1) → (∀ e, e < i → (dgB g hg t).start e = none → T tm e = -1 ∧ T ct e = 0) → (∀ e, i ≤ e → T ct e = 0) →
      ∃ tm' ct', f111.l66 k g t m (tm, ct, op, (i : Int)) = some (tm', ct') ∧ Final (dgB g hg t) tm' ct' := by
    intro d
    induction d with
    | zero =>
      intro i m tm ct op a1 a2 a3 a4 a5 a6 a7 a8 a9 a10
      obtain ⟨m, rfl⟩ : ∃ q, m = q + 1 := ⟨m - 1, by omega⟩
      obtain rfl : i = g.2.1.length := by omega
      rw [f111.l66, if_f (by simp), es1, Option.bind_some, Int.toNat_natCast]
      exact run111 hg k hk t ⟨es2, es3⟩ tm ct op (Inv.init a3 a4 (fun e s he h => a8 e s he h) (fun e he h => a9 e he h)) (Row.init a6 a7)
    | succ d ih =>
      intro i m tm ct op a1 a2 a3 a4 a5 a6 a7 a8 a9 a10
      obtain ⟨m, rfl⟩ : ∃ q, m = q + 1 := ⟨m - 1, by omega⟩
      have hi : i < g.2.1.length := by omega
      have hci : decide ((i : Int) < (g.2.1.length : Int)) = true := by simpa using hi
      have bi : (0 : Int) ≤ (i : Int) ∧ (i : Int) < (g.2.1.length : Int) := ⟨by omega, by omega⟩
      have w0 : IntKind.i64.wrap ((i : Int) + 1) = ((i + 1 : Nat) : Int) := wrap_s (by omega)
      have ht := time_bd hg hi
      have nin : (i : Int) ∉ op := fun h => by obtain ⟨e, e1, e2, _⟩ := (a7 _).1 h; omega
      rw [f111.l66]
      simp only [Int.toNat_natCast, List.length_set, a3, a4, if_t hci, if_t bi, w0, f111.j124]
      by_cases hto : (g.2.1.getD i dR).2.1 = t
      · rw [if_t (by simpa using hto), if_t (by simp; omega)]
        have hsi : (dgB g hg t).start i = some (timeOf g i) := by rw [hst, if_pos ⟨hi, hto⟩]
        have o1 : ∀ e, i ≠ e → T ((tm.set i (-1)).set i (g.2.1.getD i dR).2.2.2.1) e = T tm e := fun e h => by
          show ((tm.set i (-1)).set i _).getD e 0 = _
          rw [getD_set_other h, getD_set_other h]
        have o2 : T ((tm.set i (-1)).set i (g.2.1.getD i dR).2.2.2.1) i = timeOf g i := getD_set_same (by simp; omega) _ _
        have o3 : ∀ e, i ≠ e → T (ct.set i 1) e = T ct e := fun e h => getD_set_other h _ _
        have o4 : T (ct.set i 1) i = 1 := getD_set_same (by omega) _ _
        refine ih (i + 1) m _ _ _ (by omega) (by omega) (by simp [a3]) (by simp [a4]) (by simp; omega) (a6.app nin) (fun v => ?_) (fun e s he h => ?_) (fun e he h => ?_) (fun e he => ?_)
        · rw [List.mem_append, a7, List.mem_singleton]
          constructor
          · rintro (⟨e, h1, h2, h3⟩ | h1)
            · exact ⟨e, h1, by omega, by rw [o1 e (by omega)]; exact h3⟩
            · exact ⟨i, h1, by omega, by rw [o2]; omega⟩
          · rintro ⟨e, h1, h2, h3⟩
            by_cases hei : i = e
            · exact .inr (by rw [h1, hei])
            · rw [o1 e hei] at h3; exact .inl ⟨e, h1, by omega, h3⟩
        · by_cases hei : i = e
          · subst hei; rw [hsi] at h; rw [o2, o4]; exact ⟨by simpa using h, rfl⟩
          · rw [o1 e hei, o3 e hei]; exact a8 e s (by omega) h
        · by_cases hei : i = e
          · subst hei; rw [hsi] at h; cases h
          · rw [o1 e hei, o3 e hei]; exact a9 e (by omega) h
        · rw [o3 e (by omega)]; exact a10 e (by omega)
      · rw [if_f (by simpa using hto)]
        have hsi : (dgB g hg t).start i = none := by rw [hst, if_neg (fun h => hto h.2)]
        have o1 : ∀ e, i ≠ e → T (tm.set i (-1)) e = T tm e := fun e h => getD_set_other h _ _
        have o2 : T (tm.set i (-1)) i = -1 := getD_set_same (by omega) _ _
        refine ih (i + 1) m _ _ _ (by omega) (by omega) (by simp [a3]) a4 (by omega) a6 (fun v => ?_) (fun e s he h => ?_) (fun e he h => ?_) (fun e he => a10 e (by omega))
        · rw [a7]
          constructor
          · rintro ⟨e, h1, h2, h3⟩; exact ⟨e, h1, by omega, by rw [o1 e (by omega)]; exact h3⟩
          · rintro ⟨e, h1, h2, h3⟩
            by_cases hei : i = e
            · subst hei; rw [o2] at h3; omega
            · rw [o1 e hei] at h3; exact ⟨e, h1, by omega, h3⟩
        · by_cases hei : i = e
          · subst hei; rw [hsi] at h; cases h
          · rw [o1 e hei]; exact a8 e s (by omega) h
        · by_cases hei : i = e
          · subst hei; rw [o2]; exact ⟨rfl, a10 i (Nat.le_refl _)⟩
          · rw [o1 e hei]; exact a9 e (by omega) h
  unfold f111
  rw [if_t c8, if_t c8, if_t c1, Int.toNat_natCast]
  exact go g.2.1.length 0 k _ _ [] (by omega) (by omega) (by simp) (by simp) (by simp) (fun i j h => by simp at h) (fun v => by simp) (fun e s h => by omega) (fun e h => by omega) (fun e _ => by
    show (List.replicate _ (0 : Int)).getD e 0 = 0
    rw [List.getD_eq_getElem?_getD, List.getElem?_replicate]; split <;> rfl)
end Go.Proofs.Ytchbpdnaodicaaa
