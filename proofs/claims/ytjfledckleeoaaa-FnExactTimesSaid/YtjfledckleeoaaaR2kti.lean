/-
  Times: the two tables of times are alike. No condition.
-/
import Derived.Test.YtjfledckleeoaaaR2kri
set_option linter.unusedVariables false
set_option linter.unusedSimpArgs false
namespace Go.Proofs.Ytjfledckleeoaaa
open Go Go.Vm Go.Proofs V

def spotsOk (g : Graph) (l : List Int) : Bool := allTo (fun i => spotIs g (l.getD i 0)) l.length
theorem spotsOk_iff {g : Graph} {l : List Int} : spotsOk g l = true ↔ ∀ i, i < l.length → spotIs g (l.getD i 0) = true := allTo_iff
theorem spot_eq (g : Graph) (p : Int) : (bif (decide ((p : Int) ≥ (0 : Int))) then (decide ((p : Int) < (List.length g.1 : Int))) else false) = spotIs g p := by
  unfold spotIs
  cases decide (p ≥ 0) <;> simp
theorem e89 (k : Nat) (g : Graph) (p : Int) : f89 k g p = some (spotIs g p) := by unfold f89; rw [spot_eq]
theorem e91 (k : Nat) {g : Graph} {t : Net} (ht : NetOf g t) (p : Int) : f91 k t p = some (spotIs g p) := by unfold f91; rw [ht.fst, spot_eq]

theorem e93 (k : Nat) (hk : 1048576 < k) (g : Graph) (l : List Int) (hl : l.length ≤ 1048576) : f93 k g l = some (decide (l.length ≤ 100) && spotsOk g l) := by
  unfold f93
  by_cases h : l.length ≤ 100
  · have hd : decide (((List.length l : Int) : Int) ≤ (100 : Int)) = true := by simp; omega
    have := allLoop (L := f93.l24 k l g) (n := l.length) (p := fun i => spotIs g (l.getD i 0)) (fin := some true) (fun m i hi => by
      have hb : (0 : Int) ≤ (i : Int) ∧ (i : Int) < (l.length : Int) := ⟨by omega, by omega⟩
      have hc : decide ((i : Int) < (l.length : Int)) = true := by simpa using hi
      rw [f93.l24, hc, hd, cond_true, if_t rfl, if_t hb, e89, Option.bind_some, wrap_s (by omega), Int.toNat_natCast]
      cases spotIs g (l.getD i 0) <;> simp) (fun m => by rw [f93.l24, hd, if_f (by simp)]) (k := k) (by omega)
    rw [this, decide_eq_true h, Bool.true_and]
    unfold spotsOk
    cases allTo (fun i => spotIs g (l.getD i 0)) l.length <;> rfl
  · have hd : decide (((List.length l : Int) : Int) ≤ (100 : Int)) = false := by simp; omega
    obtain ⟨m, rfl⟩ : ∃ m, k = m + 1 := ⟨k - 1, by omega⟩
    rw [f93.l24, hd, if_f (by simp), decide_eq_false h, Bool.false_and]

/-- A place's reach, both ways. -/
def rch (k : Nat) (net : Net) (p : Int) : List Int := (f95 k net p).getD []
theorem rch_ok {g : Graph} (hg : GOk g) (k : Nat) (hk : 1099511627776 < k) {net : Net} (hn : NetOf g net) {p : Int} (hp : spotIs g p = true) : f94 k g p = some (rch k net p) ∧ f95 k net p = some (rch k net p) ∧ (rch k net p).length = g.1.length := by
  obtain ⟨h0, h1⟩ := spotIs_iff.1 hp
  obtain ⟨s, rfl⟩ : ∃ s : Nat, p = (s : Int) := ⟨p.toNat, by omega⟩
  obtain ⟨out, q1, q2, q3⟩ := same_reach0 hg k hk s (by omega) hn
  unfold rch
  rw [q1, q2]
  exact ⟨rfl, rfl, q3⟩

theorem take_map_succ {α : Type} (f : Int → α) {l : List Int} {i : Nat} (h : i < l.length) : (l.take (i + 1)).map f = (l.take i).map f ++ [f (l.getD i 0)] := by
  rw [List.take_succ_eq_append_getElem h, List.map_append]; simp [List.getD_eq_getElem?_getD, h]
def rowOf (k : Nat) (net : Net) (b : List Int) (p : Int) : List Int := b.map fun q => (rch k net p).getD q.toNat 0

theorem e98 {g : Graph} (hg : GOk g) (k : Nat) (hk : 1099511627776 < k) {net : Net} (hn : NetOf g net) (a b : List Int) (ha : a.length ≤ 100) (hb : b.length ≤ 100) (ra : spotsOk g a = true) (rb : spotsOk g b = true) : f98 k g a b = some (a.map (rowOf k net b)) := by
  have ra' := spotsOk_iff.1 ra
  have rb' := spotsOk_iff.1 rb
  unfold f98
  obtain ⟨t, t1, t2⟩ := foldLoop (L := f98.l358 k a g b) (n := a.length) (g := fun i t => t ++ [rowOf k net b (a.getD i 0)]) (fin := fun t => some t) (Inv := fun i t => t = (a.take i).map (rowOf k net b))
    (fun m i t hi ht => by
      refine ⟨by rw [ht, take_map_succ _ hi], ?_⟩
      have hbi : (0 : Int) ≤ (i : Int) ∧ (i : Int) < (a.length : Int) := ⟨by omega, by omega⟩
      have hci : decide ((i : Int) < (a.length : Int)) = true := by simpa using hi
      obtain ⟨r1, r2, r3⟩ := rch_ok hg k hk hn (ra' i hi)
      have htl : t.length ≤ 100 := by rw [ht, List.length_map, List.length_take]; omega
      rw [f98.l358]
      simp only [if_t hci, if_t hbi, Int.toNat_natCast, r1, Option.bind_some]
      obtain ⟨u, u1, u2⟩ := foldLoop (L := f98.l685 k b (rch k net (a.getD i 0)) t (i : Int) (f98.l358 k a g b m)) (n := b.length) (g := fun j u => u ++ [(rch k net (a.getD i 0)).getD (b.getD j 0).toNat 0]) (fin := fun u => f98.l358 k a g b m (t ++ [u], ((i + 1 : Nat) : Int)))
        (Inv := fun j u => u = (b.take j).map fun q => (rch k net (a.getD i 0)).getD q.toNat 0)
        (fun m' j u hj hu => by
          refine ⟨by rw [hu, take_map_succ (fun q : Int => (rch k net (a.getD i 0)).getD q.toNat 0) hj], ?_⟩
          have hbj : (0 : Int) ≤ (j : Int) ∧ (j : Int) < (b.length : Int) := ⟨by omega, by omega⟩
          have hcj : decide ((j : Int) < (b.length : Int)) = true := by simpa using hj
          have hbp : 0 ≤ b.getD j 0 ∧ b.getD j 0 < ((rch k net (a.getD i 0)).length : Int) := by rw [r3]; exact spotIs_iff.1 (rb' j hj)
          have hul : u.length ≤ 100 := by rw [hu, List.length_map, List.length_take]; omega
          rw [f98.l685]
          simp only [if_t hcj, if_t hbj, Int.toNat_natCast, if_t hbp]
          rw [if_t (by simp only [List.length_singleton]; omega), wrap_s (by omega)])
        (fun m' u hu => by
          rw [f98.l685, if_f (by simp), if_t (by simp only [List.length_singleton]; omega), wrap_s (by omega)]) k 0 [] rfl (by omega) (by omega)
      rw [show ((0 : Nat) : Int) = 0 from rfl] at u2
      rw [u2, u1, List.take_length]
      rfl)
    (fun m t ht => by rw [f98.l358, if_f (by simp)]) k 0 [] rfl (by omega) (by omega)
  rw [show ((0 : Nat) : Int) = 0 from rfl] at t2
  rw [t2, t1, List.take_length]

theorem e45 {g : Graph} (hg : GOk g) (k : Nat) (hk : 1099511627776 < k) {net : Net} (hn : NetOf g net) (a b : List Int) (ha : a.length ≤ 100) (hb : b.length ≤ 100) : f45.l26 k a net b k (0 : Int) = some (bif spotsOk g a && spotsOk g b then a.map (rowOf k net b) else []) := by
  have h1 := allLoopI (L := f45.l26 k a net b) (n := a.length) (p := fun i => spotIs g (a.getD i 0)) (bad := some ([] : List (List Int))) (fin := f45.l72 k b net a k (0 : Int)) (fun m i hi => by
    have hbi : (0 : Int) ≤ (i : Int) ∧ (i : Int) < (a.length : Int) := ⟨by omega, by omega⟩
    have hc : decide ((i : Int) < (a.length : Int)) = true := by simpa using hi
    rw [f45.l26, if_t hc, if_t hbi, e91 k hn, Option.bind_some, wrap_s (by omega), Int.toNat_natCast]
    cases spotIs g (a.getD i 0) <;> simp) (fun m => by rw [f45.l26, if_f (by simp)]) (k := k) (by omega)
  have h2 := allLoopI (L := f45.l72 k b net a) (n := b.length) (p := fun i => spotIs g (b.getD i 0)) (bad := some ([] : List (List Int))) (fin := f45.l458 k a net b k (([] : (List (List Int))), (0 : Int))) (fun m i hi => by
    have hbi : (0 : Int) ≤ (i : Int) ∧ (i : Int) < (b.length : Int) := ⟨by omega, by omega⟩
    have hc : decide ((i : Int) < (b.length : Int)) = true := by simpa using hi
    rw [f45.l72, if_t hc, if_t hbi, e91 k hn, Option.bind_some, wrap_s (by omega), Int.toNat_natCast]
    cases spotIs g (b.getD i 0) <;> simp) (fun m => by rw [f45.l72, if_f (by simp)]) (k := k) (by omega)
  rw [h1, h2]
  change (bif spotsOk g a then bif spotsOk g b then _ else _ else _) = _
  cases ra : spotsOk g a with
  | false => rfl
  | true =>
    cases rb : spotsOk g b with
    | false => rfl
    | true =>
      have ra' := spotsOk_iff.1 ra
      have rb' := spotsOk_iff.1 rb
      simp only [cond_true, Bool.and_self]
      obtain ⟨t, t1, t2⟩ := foldLoop (L := f45.l458 k a net b) (n := a.length) (g := fun i t => t ++ [rowOf k net b (a.getD i 0)]) (fin := fun t => some t) (Inv := fun i t => t = (a.take i).map (rowOf k net b))
        (fun m i t hi ht => by
          refine ⟨by rw [ht, take_map_succ _ hi], ?_⟩
          have hbi : (0 : Int) ≤ (i : Int) ∧ (i : Int) < (a.length : Int) := ⟨by omega, by omega⟩
          have hci : decide ((i : Int) < (a.length : Int)) = true := by simpa using hi
          obtain ⟨r1, r2, r3⟩ := rch_ok hg k hk hn (ra' i hi)
          have htl : t.length ≤ 100 := by rw [ht, List.length_map, List.length_take]; omega
          have c8 : (0 : Int) ≤ (b.length : Int) ∧ Int.toNat (b.length : Int) * 8 ≤ 140737488355328 := ⟨by omega, by rw [Int.toNat_natCast]; omega⟩
          rw [f45.l458]
          simp only [if_t hci, if_t hbi, r2, Option.bind_some, if_t c8, Int.toNat_natCast]
          rw [if_t ⟨by omega, by omega⟩]
          obtain ⟨u, ⟨u1, u2⟩, u3⟩ := foldLoop (L := f45.l790 k b (rch k net (a.getD i 0)) t (i : Int) (f45.l458 k a net b m)) (n := b.length) (g := fun j u => u.set j ((rch k net (a.getD i 0)).getD (b.getD j 0).toNat 0)) (fin := fun u => f45.l458 k a net b m (t ++ [u], ((i + 1 : Nat) : Int)))
            (Inv := fun j u => u.length = b.length ∧ ∀ q, q < j → u.getD q 0 = (rch k net (a.getD i 0)).getD (b.getD q 0).toNat 0)
            (fun m' j u hj ⟨q1, q2⟩ => by
              have hbj : (0 : Int) ≤ (j : Int) ∧ (j : Int) < (b.length : Int) := ⟨by omega, by omega⟩
              have hcj : decide ((j : Int) < (b.length : Int)) = true := by simpa using hj
              have hbp : 0 ≤ b.getD j 0 ∧ b.getD j 0 < ((rch k net (a.getD i 0)).length : Int) := by rw [r3]; exact spotIs_iff.1 (rb' j hj)
              refine ⟨⟨by rw [List.length_set]; exact q1, fun q hq => ?_⟩, ?_⟩
              · by_cases hqj : j = q
                · subst hqj; exact getD_set_same (by omega) _ _
                · rw [getD_set_other hqj]; exact q2 q (by omega)
              · rw [f45.l790]
                simp only [if_t hcj, if_t hbj, Int.toNat_natCast, if_t hbp, q1]
                rw [wrap_s (by omega)])
            (fun m' u hu => by
              rw [f45.l790, if_f (by simp), if_t (by simp only [List.length_singleton]; omega), wrap_s (by omega)]) k 0 (List.replicate b.length 0) ⟨by simp, fun q hq => by omega⟩ (by omega) (by omega)
          rw [show ((0 : Nat) : Int) = 0 from rfl] at u3
          rw [u3]
          have : u = rowOf k net b (a.getD i 0) := by
            refine ext_getD (d := 0) (by unfold rowOf; rw [List.length_map]; exact u1) fun q hq => ?_
            rw [u1] at hq
            rw [u2 q hq]
            unfold rowOf
            simp [List.getD_eq_getElem?_getD, hq]
          rw [this])
        (fun m t ht => by rw [f45.l458, if_f (by simp)]) k 0 [] rfl (by omega) (by omega)
      rw [show ((0 : Nat) : Int) = 0 from rfl] at t2
      rw [t2, t1, List.take_length]

theorem same_times (k : Nat) (hk : 1099511627776 < k) (g : Graph) (h1 : g.1.length ≤ 1048576) (h2 : g.2.1.length ≤ 1048576) (h3 : g.2.2.length ≤ 1048576) (a b : List Int) (ha : a.length ≤ 1048576) (hb : b.length ≤ 1048576) :
    ∃ y, f44 k g a b = some y ∧ f45 k g a b = some y ∧ y.length ≤ 1048576 ∧ ∀ r ∈ y, r.length ≤ 1048576 := by
  unfold f44 f45
  rw [spec57 k (by omega) g h1 h2 h3, impl63 k (by omega) g h1 h2 h3]
  simp only [Option.bind_some, e93 k (by omega) g a ha, e93 k (by omega) g b hb]
  cases hg : graphOk g with
  | false => exact ⟨[], by simp, by simp, by simp, by simp⟩
  | true =>
    by_cases ha1 : a.length ≤ 100
    · by_cases hb1 : b.length ≤ 100
      · obtain ⟨net, hn, hno⟩ := e64 (gok hg) k (by omega)
        have hne : ¬ ((bif (bif (!true) then true else (decide (((List.length a : Int) : Int) > (100 : Int)))) then true else (decide (((List.length b : Int) : Int) > (100 : Int)))) = true) := by simp; omega
        rw [if_f hne, hn, Option.bind_some, e45 (gok hg) k hk hno a b ha1 hb1]
        refine ⟨_, ?_, rfl, ?_, ?_⟩
        · rw [decide_eq_true ha1, decide_eq_true hb1]
          cases ra : spotsOk g a with
          | false => simp
          | true =>
            cases rb : spotsOk g b with
            | false => simp
            | true => simp [e98 (gok hg) k hk hno a b ha1 hb1 ra rb]
        · cases spotsOk g a && spotsOk g b <;> simp; omega
        · cases spotsOk g a && spotsOk g b
          · simp
          · intro r hr
            rw [cond_true, List.mem_map] at hr
            obtain ⟨p, _, rfl⟩ := hr
            unfold rowOf; rw [List.length_map]; exact hb
      · have hne : ((bif (bif (!true) then true else (decide (((List.length a : Int) : Int) > (100 : Int)))) then true else (decide (((List.length b : Int) : Int) > (100 : Int)))) = true) := by
          rw [show decide (((List.length b : Int) : Int) > (100 : Int)) = true by simp; omega]
          cases decide (((List.length a : Int) : Int) > (100 : Int)) <;> rfl
        rw [if_t hne, decide_eq_false hb1]
        refine ⟨[], ?_, rfl, by simp, by simp⟩
        cases (decide (a.length ≤ 100) && spotsOk g a) <;> simp
    · have hne : ((bif (bif (!true) then true else (decide (((List.length a : Int) : Int) > (100 : Int)))) then true else (decide (((List.length b : Int) : Int) > (100 : Int)))) = true) := by
        rw [show decide (((List.length a : Int) : Int) > (100 : Int)) = true by simp; omega]; rfl
      rw [if_t hne, decide_eq_false ha1]
      exact ⟨[], by simp, rfl, by simp, by simp⟩
end Go.Proofs.Ytjfledckleeoaaa
