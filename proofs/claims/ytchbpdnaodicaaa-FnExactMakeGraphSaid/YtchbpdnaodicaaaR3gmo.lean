/-
  MapOk: the specification and the program take the same maps. No condition.
-/
import Derived.Test.YtchbpdnaodicaaaR3gmp
set_option linter.unusedVariables false
set_option linter.unusedSimpArgs false
namespace Go.Proofs.Ytchbpdnaodicaaa
open Go Go.Vm Go.Proofs V

theorem eq_dec (a b : Int) : (a == b) = decide (a = b) := by by_cases h : a = b <;> simp [h]
theorem eq_dec' (a b : Int) : (a == b) = decide (b = a) := by
  rw [eq_dec]; exact decide_eq_decide.2 ⟨Eq.symm, Eq.symm⟩

/-! ### The specification -/
theorem stops_spec (k : Nat) (hk : 1048576 < k) (m : Mp) (hm : m.1.length ≤ 1048576) (hasc : ∀ i j, i < j → j < m.1.length → (m.1.getD i dN).1 < (m.1.getD j dN).1) (w : Wy) (hl : w.2.1.length ≤ 1048576) : f200.l38 k w m k 0 = some (allTo (okStop m w.2.1) w.2.1.length) := by
  have q := allLoop (L := f200.l38 k w m) (n := w.2.1.length) (p := okStop m w.2.1) (fin := some true) (fun f i hi => by
    have hb : (0 : Int) ≤ (i : Int) ∧ (i : Int) < (w.2.1.length : Int) := ⟨by omega, by omega⟩
    obtain ⟨r, r1, r2⟩ := e138 k hk m (w.2.1.getD i 0) hm hasc
    have hr : decide (r < 0) = !hasNode m (w.2.1.getD i 0) := by
      rcases r2 with ⟨h1, j, h2, _⟩ | ⟨h1, h2⟩
      · rw [h1, h2]; simp
      · rw [h1, h2]; rfl
    rw [f200.l38, if_t (decide_eq_true hb.2), if_t hb, wrap_s (by omega)]
    simp only [Int.toNat_natCast, r1, Option.bind_some, hr]
    unfold okStop
    generalize hasNode m (w.2.1.getD i 0) = A
    rcases i with _ | j
    · cases A <;> simp
    · have hj : (0 : Int) ≤ (j : Int) ∧ (j : Int) < (w.2.1.length : Int) := ⟨by omega, by omega⟩
      have hb' : (0 : Int) ≤ (j : Int) + 1 ∧ (j : Int) + 1 < (w.2.1.length : Int) := ⟨by omega, by omega⟩
      simp only [wrap_p j (by omega), pos_succ, Int.toNat_natCast, Nat.add_sub_cancel, eq_dec]
      generalize decide (w.2.1.getD (j + 1) 0 = w.2.1.getD j 0) = C
      cases A <;> cases C <;> simp [hb', hj]) (fun f => by rw [f200.l38, if_f (by simp)]) (k := k) (by omega)
  rw [q]
  cases allTo (okStop m w.2.1) w.2.1.length <;> rfl
theorem e200 (k : Nat) (hk : 1048576 < k) (m : Mp) (hm : m.1.length ≤ 1048576) (hasc : ∀ i j, i < j → j < m.1.length → (m.1.getD i dN).1 < (m.1.getD j dN).1) (w : Wy) (hl : w.2.1.length ≤ 1048576) (hz : TSz w.2.2) :
    f200 k m w = some ((((idB w.1 && tagsOk w.2.2) && decide (2 ≤ w.2.1.length)) && decide (w.2.1.length ≤ 2000)) && allTo (okStop m w.2.1) w.2.1.length) := by
  unfold f200
  rw [stops_spec k hk m hm hasc w hl]
  simp only [e158, e199 k hk _ hz, Option.bind_some, len_lt _ 2 2 rfl, gt_lit _ 2000 2000 rfl]
  generalize idB w.1 = A
  generalize tagsOk w.2.2 = B
  generalize decide (2 ≤ w.2.1.length) = C
  generalize decide (w.2.1.length ≤ 2000) = D
  generalize allTo (okStop m w.2.1) w.2.1.length = E
  cases A <;> cases B <;> cases C <;> cases D <;> cases E <;> rfl

theorem parts_spec (k : Nat) (hk : 1048576 < k) (m : Mp) (hm : m.2.1.length ≤ 1048576) (a : Ar) (hl : a.2.1.length ≤ 1048576) : f201.l128 k a m k 0 = some (allTo (okPart m a.2.1) a.2.1.length) := by
  have q := allLoop (L := f201.l128 k a m) (n := a.2.1.length) (p := okPart m a.2.1) (fin := some true) (fun f i hi => by
    have hb : (0 : Int) ≤ (i : Int) ∧ (i : Int) < (a.2.1.length : Int) := ⟨by omega, by omega⟩
    obtain ⟨r, r1, r2⟩ := e243 k hk m (a.2.1.getD i dP).1 hm
    have inner := allLoopI (L := f201.l234 k (i : Int) a (f201.l128 k a m f)) (n := i) (p := fun q => !decide ((a.2.1.getD q dP).1 = (a.2.1.getD i dP).1)) (bad := some false) (fin := f201.l128 k a m f ((i + 1 : Nat) : Int)) (fun f j hj => by
      have hbj : (0 : Int) ≤ (j : Int) ∧ (j : Int) < (a.2.1.length : Int) := ⟨by omega, by omega⟩
      rw [f201.l234, if_t (decide_eq_true (show (j : Int) < (i : Int) by omega)), if_t hbj, if_t hb, wrap_s (by omega)]
      simp only [Int.toNat_natCast, eq_dec]
      generalize decide ((a.2.1.getD j dP).1 = (a.2.1.getD i dP).1) = C
      cases C <;> rfl) (fun f => by rw [f201.l234, if_f (by simp), wrap_s (by omega)]) (k := k) (by omega)
    rw [f201.l128, if_t (decide_eq_true hb.2), if_t hb]
    simp only [Int.toNat_natCast, r1, Option.bind_some, r2, inner]
    unfold okPart
    generalize hasWay m (a.2.1.getD i dP).1 = A
    generalize allTo (fun q => !decide ((a.2.1.getD q dP).1 = (a.2.1.getD i dP).1)) i = B
    cases A <;> cases B <;> rfl) (fun f => by rw [f201.l128, if_f (by simp)]) (k := k) (by omega)
  rw [q]
  cases allTo (okPart m a.2.1) a.2.1.length <;> rfl
theorem e201 (k : Nat) (hk : 1048576 < k) (m : Mp) (hm : m.2.1.length ≤ 1048576) (a : Ar) (hl : a.2.1.length ≤ 1048576) (hz : TSz a.2.2) :
    f201 k m a = some ((((idB a.1 && tagsOk a.2.2) && decide (1 ≤ a.2.1.length)) && decide (a.2.1.length ≤ 30)) && allTo (okPart m a.2.1) a.2.1.length) := by
  unfold f201
  rw [parts_spec k hk m hm a hl]
  simp only [e158, e199 k hk _ hz, Option.bind_some, len_lt _ 1 1 rfl, gt_lit _ 30 30 rfl]
  generalize idB a.1 = A
  generalize tagsOk a.2.2 = B
  generalize decide (1 ≤ a.2.1.length) = C
  generalize decide (a.2.1.length ≤ 30) = D
  generalize allTo (okPart m a.2.1) a.2.1.length = E
  cases A <;> cases B <;> cases C <;> cases D <;> cases E <;> rfl

theorem e136 (k : Nat) (hk : 1048576 < k) (m : Mp) (hz : MSz m) : f136 k m = some (mapOk m) := by
  unfold f136 mapOk lensOk
  simp only [gt_lit _ 5000 5000 rfl, gt_lit _ 1000 1000 rfl, gt_lit _ 300 300 rfl]
  by_cases h1 : m.1.length ≤ 5000
  · by_cases h2 : m.2.1.length ≤ 1000
    · by_cases h3 : m.2.2.length ≤ 300
      · have q3 : f136.l212 k m k 0 = some (allTo (okArea m) m.2.2.length) := by
          have q := allLoop (L := f136.l212 k m) (n := m.2.2.length) (p := okArea m) (fin := some true) (fun f i hi => by
            have hb : (0 : Int) ≤ (i : Int) ∧ (i : Int) < (m.2.2.length : Int) := ⟨by omega, by omega⟩
            have hmem := in_getD (d := dA) hi
            have e := e201 k hk m (by omega) (m.2.2.getD i dA) (hz.al _ hmem) (hz.a _ hmem)
            rw [f136.l212, if_t (decide_eq_true hb.2), if_t hb, wrap_s (by omega)]
            simp only [Int.toNat_natCast, e, Option.bind_some]
            unfold okArea
            generalize ((((idB (m.2.2.getD i dA).1 && tagsOk (m.2.2.getD i dA).2.2) && decide (1 ≤ (m.2.2.getD i dA).2.1.length)) && decide ((m.2.2.getD i dA).2.1.length ≤ 30)) && allTo (okPart m (m.2.2.getD i dA).2.1) (m.2.2.getD i dA).2.1.length) = A
            rcases i with _ | j
            · cases A <;> simp
            · have hj : (0 : Int) ≤ (j : Int) ∧ (j : Int) < (m.2.2.length : Int) := ⟨by omega, by omega⟩
              have hb' : (0 : Int) ≤ (j : Int) + 1 ∧ (j : Int) + 1 < (m.2.2.length : Int) := ⟨by omega, by omega⟩
              simp only [wrap_p j (by omega), pos_succ, Int.toNat_natCast, Nat.add_sub_cancel, ge_not]
              generalize decide ((m.2.2.getD j dA).1 < (m.2.2.getD (j + 1) dA).1) = C
              cases A <;> cases C <;> simp [hb', hj]) (fun f => by rw [f136.l212, if_f (by simp)]) (k := k) (by omega)
          rw [q]; cases allTo (okArea m) m.2.2.length <;> rfl
        have q1 := allLoop (L := f136.l54 k m) (n := m.1.length) (p := okNode m) (fin := f136.l142 k m k 0) (fun f i hi => by
          have hb : (0 : Int) ≤ (i : Int) ∧ (i : Int) < (m.1.length : Int) := ⟨by omega, by omega⟩
          have hmem := in_getD (d := dN) hi
          rw [f136.l54, if_t (decide_eq_true hb.2), if_t hb, wrap_s (by omega)]
          simp only [Int.toNat_natCast, e158, e159, e199 k hk _ (hz.n _ hmem), Option.bind_some]
          unfold okNode
          generalize idB (m.1.getD i dN).1 = A
          generalize ptB (m.1.getD i dN).2.1 = B
          generalize tagsOk (m.1.getD i dN).2.2 = D
          rcases i with _ | j
          · cases A <;> cases B <;> cases D <;> simp
          · have hj : (0 : Int) ≤ (j : Int) ∧ (j : Int) < (m.1.length : Int) := ⟨by omega, by omega⟩
            have hb' : (0 : Int) ≤ (j : Int) + 1 ∧ (j : Int) + 1 < (m.1.length : Int) := ⟨by omega, by omega⟩
            simp only [wrap_p j (by omega), pos_succ, Int.toNat_natCast, Nat.add_sub_cancel, ge_not]
            generalize decide ((m.1.getD j dN).1 < (m.1.getD (j + 1) dN).1) = C
            cases A <;> cases B <;> cases D <;> cases C <;> simp [hb', hj]) (fun f => by rw [f136.l54, if_f (by simp)]) (k := k) (by omega)
        rw [q1]
        cases hn : allTo (okNode m) m.1.length with
        | false => simp [h1, h2, h3]
        | true =>
          have hasc : ∀ i j, i < j → j < m.1.length → (m.1.getD i dN).1 < (m.1.getD j dN).1 := fun i j h h' => node_id hn h h'
          have q2 := allLoop (L := f136.l142 k m) (n := m.2.1.length) (p := okWay m) (fin := f136.l212 k m k 0) (fun f i hi => by
            have hb : (0 : Int) ≤ (i : Int) ∧ (i : Int) < (m.2.1.length : Int) := ⟨by omega, by omega⟩
            have hmem := in_getD (d := dW) hi
            have e := e200 k hk m (by omega) hasc (m.2.1.getD i dW) (hz.wl _ hmem) (hz.w _ hmem)
            rw [f136.l142, if_t (decide_eq_true hb.2), if_t hb, wrap_s (by omega)]
            simp only [Int.toNat_natCast, e, Option.bind_some]
            unfold okWay
            generalize ((((idB (m.2.1.getD i dW).1 && tagsOk (m.2.1.getD i dW).2.2) && decide (2 ≤ (m.2.1.getD i dW).2.1.length)) && decide ((m.2.1.getD i dW).2.1.length ≤ 2000)) && allTo (okStop m (m.2.1.getD i dW).2.1) (m.2.1.getD i dW).2.1.length) = A
            rcases i with _ | j
            · cases A <;> simp
            · have hj : (0 : Int) ≤ (j : Int) ∧ (j : Int) < (m.2.1.length : Int) := ⟨by omega, by omega⟩
              have hb' : (0 : Int) ≤ (j : Int) + 1 ∧ (j : Int) + 1 < (m.2.1.length : Int) := ⟨by omega, by omega⟩
              simp only [wrap_p j (by omega), pos_succ, Int.toNat_natCast, Nat.add_sub_cancel, ge_not]
              generalize decide ((m.2.1.getD j dW).1 < (m.2.1.getD (j + 1) dW).1) = C
              cases A <;> cases C <;> simp [hb', hj]) (fun f => by rw [f136.l142, if_f (by simp)]) (k := k) (by omega)
          rw [q2, q3]
          cases allTo (okWay m) m.2.1.length <;> simp [h1, h2, h3]
      · simp [h3]
    · simp [h2]
  · simp [h1]

/-! ### The program -/
abbrev mg (s : List (Int × Bool)) (x : Int) : Bool := mget (Sh.beq (.int .i64)) (some s) x false
theorem mg_put (s : List (Int × Bool)) (x y : Int) : mg (mput (Sh.beq (.int .i64)) x true s) y = (decide (y = x) || mg s y) := by
  unfold mg
  rw [mget_put (beq_int .i64)]
  have : Sh.beq (.int .i64) y x = decide (y = x) := eq_dec y x
  rw [this]
  cases decide (y = x) <;> rfl
theorem mg_nil (y : Int) : mg [] y = false := rfl

def inN (m : Mp) (i : Nat) (x : Int) : Bool := decide (x ∈ (m.1.take i).map (·.1))
theorem take_succ_getD {α : Type} {l : List α} {i : Nat} (d : α) (h : i < l.length) : l.take (i + 1) = l.take i ++ [l.getD i d] := by
  rw [List.take_add_one]; simp [List.getD_eq_getElem?_getD, h]

theorem e145 (k : Nat) (hk : 1048576 < k) (m : Mp) (hz : MSz m) : f145 k m = some (mapOk m) := by
  unfold f145 mapOk lensOk
  simp only [gt_lit _ 5000 5000 rfl, gt_lit _ 1000 1000 rfl, gt_lit _ 300 300 rfl]
  by_cases h1 : m.1.length ≤ 5000
  · by_cases h2 : m.2.1.length ≤ 1000
    · by_cases h3 : m.2.2.length ≤ 300
      · have g1 := allLoopG (L := f145.l58 k m) (n := m.1.length) (p := okNode m) (bad := some false) (fin := fun s => f145.l520 k m s k (([] : (List (Int × Bool))), (0 : Int)))
          (Inv := fun i s => ∀ x, mg s x = decide (x ∈ (m.1.take i).map (·.1))) (fun f i s hi hs => by
            have hb : (0 : Int) ≤ (i : Int) ∧ (i : Int) < (m.1.length : Int) := ⟨by omega, by omega⟩
            have hmem := in_getD (d := dN) hi
            have key : f145.l58 k m (f + 1) (s, (i : Int)) = bif okNode m i then f145.l58 k m f (mput (Sh.beq (.int .i64)) (m.1.getD i dN).1 true s, ((i + 1 : Nat) : Int)) else some false := by
              rw [f145.l58, if_t (decide_eq_true hb.2), if_t hb, wrap_s (by omega)]
              simp only [Int.toNat_natCast, e168, e169, e208 k hk _ (hz.n _ hmem), Option.bind_some]
              unfold okNode
              generalize idB (m.1.getD i dN).1 = A
              generalize ptB (m.1.getD i dN).2.1 = B
              generalize tagsOk (m.1.getD i dN).2.2 = D
              rcases i with _ | j
              · cases A <;> cases B <;> cases D <;> simp
              · have hj : (0 : Int) ≤ (j : Int) ∧ (j : Int) < (m.1.length : Int) := ⟨by omega, by omega⟩
                have hb' : (0 : Int) ≤ (j : Int) + 1 ∧ (j : Int) + 1 < (m.1.length : Int) := ⟨by omega, by omega⟩
                simp only [wrap_p j (by omega), pos_succ, Int.toNat_natCast, Nat.add_sub_cancel, ge_not]
                generalize decide ((m.1.getD j dN).1 < (m.1.getD (j + 1) dN).1) = C
                cases A <;> cases B <;> cases D <;> cases C <;> simp [hb', hj]
            refine ⟨fun hp => ⟨mput (Sh.beq (.int .i64)) (m.1.getD i dN).1 true s, fun x => ?_, by rw [key, hp]; rfl⟩, fun hp => by rw [key, hp]; rfl⟩
            rw [mg_put, hs, take_succ_getD dN hi, List.map_append]
            by_cases hx : x = (m.1.getD i dN).1
            · simp [hx]
            · simp only [hx, decide_false, Bool.false_or, List.map_cons, List.map_nil, List.mem_append, List.mem_singleton, or_false]) (fun f s _ => by rw [f145.l58, if_f (by simp)]) k 0 [] (fun x => by rw [mg_nil, List.take_zero]; rfl) (Nat.zero_le _) (by omega)
        rw [Nat.sub_zero] at g1
        have g1' : (allTo (okNode m) m.1.length = true ∧ ∃ s', (∀ x, mg s' x = hasNode m x) ∧ f145.l58 k m k (([] : (List (Int × Bool))), (0 : Int)) = f145.l520 k m s' k (([] : (List (Int × Bool))), (0 : Int))) ∨ (allTo (okNode m) m.1.length = false ∧ f145.l58 k m k (([] : (List (Int × Bool))), (0 : Int)) = some false) := by
          rcases g1 with ⟨h, s', hs, he⟩ | ⟨h, he⟩
          · refine .inl ⟨h, s', fun x => ?_, he⟩
            rw [hs x, List.take_length]; rfl
          · exact .inr ⟨h, he⟩
        clear g1
        rcases g1' with ⟨hn, s1, hs1, he1⟩ | ⟨hn, he1⟩
        · rw [he1]
          have g2 := allLoopG (L := f145.l520 k m s1) (n := m.2.1.length) (p := okWay m) (bad := some false) (fin := fun s => f145.l1068 k m s k 0)
            (Inv := fun i s => ∀ x, mg s x = decide (x ∈ (m.2.1.take i).map (·.1))) (fun f i s hi hs => by
              have hb : (0 : Int) ≤ (i : Int) ∧ (i : Int) < (m.2.1.length : Int) := ⟨by omega, by omega⟩
              have hmem := in_getD (d := dW) hi
              have hwl := hz.wl _ hmem
              have inner := allLoopI (L := f145.l891 k m (i : Int) s1 s (f145.l520 k m s1 f)) (n := (m.2.1.getD i dW).2.1.length) (p := okStop m (m.2.1.getD i dW).2.1) (bad := some false) (fin := f145.l520 k m s1 f (mput (Sh.beq (.int .i64)) (m.2.1.getD i dW).1 true s, ((i + 1 : Nat) : Int))) (fun f j hj => by
                have hbj : (0 : Int) ≤ (j : Int) ∧ (j : Int) < ((m.2.1.getD i dW).2.1.length : Int) := ⟨by omega, by omega⟩
                have hh := hs1 ((m.2.1.getD i dW).2.1.getD j 0)
                rw [f145.l891]
                simp only [Int.toNat_natCast]
                rw [if_t (decide_eq_true hbj.2), if_t hbj, wrap_s (by omega)]
                simp only [hh]
                unfold okStop
                generalize hasNode m ((m.2.1.getD i dW).2.1.getD j 0) = A
                rcases j with _ | q
                · cases A <;> simp
                · have hq : (0 : Int) ≤ (q : Int) ∧ (q : Int) < ((m.2.1.getD i dW).2.1.length : Int) := ⟨by omega, by omega⟩
                  have hb' : (0 : Int) ≤ (q : Int) + 1 ∧ (q : Int) + 1 < ((m.2.1.getD i dW).2.1.length : Int) := ⟨by omega, by omega⟩
                  simp only [wrap_p q (by omega), pos_succ, Int.toNat_natCast, Nat.add_sub_cancel, eq_dec']
                  generalize decide ((m.2.1.getD i dW).2.1.getD (q + 1) 0 = (m.2.1.getD i dW).2.1.getD q 0) = C
                  rw [if_t (fun _ => hq), Option.bind_some]
                  cases A <;> cases C <;> rfl) (fun f => by
                rw [f145.l891]
                simp only [Int.toNat_natCast]
                rw [if_f (by simp), wrap_s (by omega)]) (k := k) (by omega)
              have key : f145.l520 k m s1 (f + 1) (s, (i : Int)) = bif okWay m i then f145.l520 k m s1 f (mput (Sh.beq (.int .i64)) (m.2.1.getD i dW).1 true s, ((i + 1 : Nat) : Int)) else some false := by
                rw [f145.l520, if_t (decide_eq_true hb.2), if_t hb]
                simp only [Int.toNat_natCast, e168, e208 k hk _ (hz.w _ hmem), Option.bind_some, inner, len_lt _ 2 2 rfl, gt_lit _ 2000 2000 rfl]
                unfold okWay
                generalize idB (m.2.1.getD i dW).1 = A
                generalize tagsOk (m.2.1.getD i dW).2.2 = B
                generalize decide (2 ≤ (m.2.1.getD i dW).2.1.length) = D
                generalize decide ((m.2.1.getD i dW).2.1.length ≤ 2000) = E
                generalize allTo (okStop m (m.2.1.getD i dW).2.1) (m.2.1.getD i dW).2.1.length = F
                rcases i with _ | j
                · cases A <;> cases B <;> cases D <;> cases E <;> cases F <;> simp
                · have hj : (0 : Int) ≤ (j : Int) ∧ (j : Int) < (m.2.1.length : Int) := ⟨by omega, by omega⟩
                  have hb' : (0 : Int) ≤ (j : Int) + 1 ∧ (j : Int) + 1 < (m.2.1.length : Int) := ⟨by omega, by omega⟩
                  simp only [wrap_p j (by omega), pos_succ, Int.toNat_natCast, Nat.add_sub_cancel, ge_not]
                  generalize decide ((m.2.1.getD j dW).1 < (m.2.1.getD (j + 1) dW).1) = C
                  cases A <;> cases B <;> cases C <;> cases D <;> cases E <;> cases F <;> simp [hb', hj]
              refine ⟨fun hp => ⟨mput (Sh.beq (.int .i64)) (m.2.1.getD i dW).1 true s, fun x => ?_, by rw [key, hp]; rfl⟩, fun hp => by rw [key, hp]; rfl⟩
              rw [mg_put, hs, take_succ_getD dW hi, List.map_append]
              by_cases hx : x = (m.2.1.getD i dW).1
              · simp [hx]
              · simp only [hx, decide_false, Bool.false_or, List.map_cons, List.map_nil, List.mem_append, List.mem_singleton, or_false]) (fun f s _ => by rw [f145.l520, if_f (by simp)]) k 0 [] (fun x => by rw [mg_nil, List.take_zero]; rfl) (Nat.zero_le _) (by omega)
          rw [Nat.sub_zero] at g2
          have g2' : (allTo (okWay m) m.2.1.length = true ∧ ∃ s', (∀ x, mg s' x = hasWay m x) ∧ f145.l520 k m s1 k (([] : (List (Int × Bool))), (0 : Int)) = f145.l1068 k m s' k 0) ∨ (allTo (okWay m) m.2.1.length = false ∧ f145.l520 k m s1 k (([] : (List (Int × Bool))), (0 : Int)) = some false) := by
            rcases g2 with ⟨h, s', hs, he⟩ | ⟨h, he⟩
            · refine .inl ⟨h, s', fun x => ?_, he⟩
              rw [hs x, List.take_length]; rfl
            · exact .inr ⟨h, he⟩
          clear g2
          rcases g2' with ⟨hw, s2, hs2, he2⟩ | ⟨hw, he2⟩
          · rw [he2]
            have q3 := allLoop (L := f145.l1068 k m s2) (n := m.2.2.length) (p := okArea m) (fin := some true) (fun f i hi => by
              have hb : (0 : Int) ≤ (i : Int) ∧ (i : Int) < (m.2.2.length : Int) := ⟨by omega, by omega⟩
              have hmem := in_getD (d := dA) hi
              have hal := hz.al _ hmem
              have inner := allLoopG (L := f145.l1191 k m (i : Int) s2 (f145.l1068 k m s2 f)) (n := (m.2.2.getD i dA).2.1.length) (p := okPart m (m.2.2.getD i dA).2.1) (bad := some false) (fin := fun _ => f145.l1068 k m s2 f ((i + 1 : Nat) : Int))
                (Inv := fun j s => ∀ x, mg s x = !allTo (fun q => !decide (((m.2.2.getD i dA).2.1.getD q dP).1 = x)) j) (fun f2 j s hj hs => by
                  have hbj : (0 : Int) ≤ (j : Int) ∧ (j : Int) < ((m.2.2.getD i dA).2.1.length : Int) := ⟨by omega, by omega⟩
                  have hh := hs2 ((m.2.2.getD i dA).2.1.getD j dP).1
                  have hh2 := hs ((m.2.2.getD i dA).2.1.getD j dP).1
                  have step : f145.l1191 k m (i : Int) s2 (f145.l1068 k m s2 f) (f2 + 1) (s, (j : Int)) = bif okPart m (m.2.2.getD i dA).2.1 j then f145.l1191 k m (i : Int) s2 (f145.l1068 k m s2 f) f2 (mput (Sh.beq (.int .i64)) ((m.2.2.getD i dA).2.1.getD j dP).1 true s, ((j + 1 : Nat) : Int)) else some false := by
                    rw [f145.l1191]
                    simp only [Int.toNat_natCast]
                    rw [if_t (decide_eq_true hbj.2), if_t hbj, wrap_s (by omega)]
                    simp only [hh, hh2]
                    unfold okPart
                    generalize hasWay m ((m.2.2.getD i dA).2.1.getD j dP).1 = A
                    generalize allTo (fun q => !decide (((m.2.2.getD i dA).2.1.getD q dP).1 = ((m.2.2.getD i dA).2.1.getD j dP).1)) j = B
                    cases A <;> cases B <;> rfl
                  refine ⟨fun hp => ⟨mput (Sh.beq (.int .i64)) ((m.2.2.getD i dA).2.1.getD j dP).1 true s, fun x => ?_, by rw [step, hp]; rfl⟩, fun hp => by rw [step, hp]; rfl⟩
                  rw [mg_put, hs]
                  have e2 : allTo (fun q => !decide (((m.2.2.getD i dA).2.1.getD q dP).1 = x)) (j + 1) = (allTo (fun q => !decide (((m.2.2.getD i dA).2.1.getD q dP).1 = x)) j && !decide (((m.2.2.getD i dA).2.1.getD j dP).1 = x)) := by
                    apply Bool.eq_iff_iff.2
                    rw [Bool.and_eq_true, allTo_iff, allTo_iff]
                    constructor
                    · intro h; exact ⟨fun q hq => h q (by omega), h j (by omega)⟩
                    · rintro ⟨h, h'⟩ q hq
                      by_cases e : q = j
                      · subst e; exact h'
                      · exact h q (by omega)
                  rw [e2]
                  have e3 : decide (((m.2.2.getD i dA).2.1.getD j dP).1 = x) = decide (x = ((m.2.2.getD i dA).2.1.getD j dP).1) := decide_eq_decide.2 ⟨Eq.symm, Eq.symm⟩
                  rw [e3]
                  generalize decide (x = ((m.2.2.getD i dA).2.1.getD j dP).1) = A
                  generalize allTo (fun q => !decide (((m.2.2.getD i dA).2.1.getD q dP).1 = x)) j = B
                  cases A <;> cases B <;> rfl) (fun f s _ => by
                  rw [f145.l1191]
                  simp only [Int.toNat_natCast]
                  rw [if_f (by simp), wrap_s (by omega)]) k 0 [] (fun x => rfl) (Nat.zero_le _) (by omega)
              rw [Nat.sub_zero] at inner
              have inner' : f145.l1191 k m (i : Int) s2 (f145.l1068 k m s2 f) k (([] : (List (Int × Bool))), (0 : Int)) = bif allTo (okPart m (m.2.2.getD i dA).2.1) (m.2.2.getD i dA).2.1.length then f145.l1068 k m s2 f ((i + 1 : Nat) : Int) else some false := by
                rcases inner with ⟨h, _, _, he⟩ | ⟨h, he⟩
                · have h' : allTo (okPart m (m.2.2.getD i dA).2.1) (m.2.2.getD i dA).2.1.length = true := h
                  rw [h']; exact he
                · have h' : allTo (okPart m (m.2.2.getD i dA).2.1) (m.2.2.getD i dA).2.1.length = false := h
                  rw [h']; exact he
              rw [f145.l1068, if_t (decide_eq_true hb.2), if_t hb]
              simp only [Int.toNat_natCast, e168, e208 k hk _ (hz.a _ hmem), Option.bind_some, inner', len_lt _ 1 1 rfl, gt_lit _ 30 30 rfl]
              unfold okArea
              generalize idB (m.2.2.getD i dA).1 = A
              generalize tagsOk (m.2.2.getD i dA).2.2 = B
              generalize decide (1 ≤ (m.2.2.getD i dA).2.1.length) = D
              generalize decide ((m.2.2.getD i dA).2.1.length ≤ 30) = E
              generalize allTo (okPart m (m.2.2.getD i dA).2.1) (m.2.2.getD i dA).2.1.length = F
              rcases i with _ | j
              · cases A <;> cases B <;> cases D <;> cases E <;> cases F <;> simp
              · have hj : (0 : Int) ≤ (j : Int) ∧ (j : Int) < (m.2.2.length : Int) := ⟨by omega, by omega⟩
                have hb' : (0 : Int) ≤ (j : Int) + 1 ∧ (j : Int) + 1 < (m.2.2.length : Int) := ⟨by omega, by omega⟩
                simp only [wrap_p j (by omega), pos_succ, Int.toNat_natCast, Nat.add_sub_cancel, ge_not]
                generalize decide ((m.2.2.getD j dA).1 < (m.2.2.getD (j + 1) dA).1) = C
                cases A <;> cases B <;> cases C <;> cases D <;> cases E <;> cases F <;> simp [hb', hj]) (fun f => by rw [f145.l1068, if_f (by simp)]) (k := k) (by omega)
            rw [q3]
            cases allTo (okArea m) m.2.2.length <;> simp [h1, h2, h3, hn, hw]
          · rw [he2]; simp [h1, h2, h3, hn, hw]
        · rw [he1]; simp [h1, h2, h3, hn]
      · simp [h3]
    · simp [h2]
  · simp [h1]
end Go.Proofs.Ytchbpdnaodicaaa
