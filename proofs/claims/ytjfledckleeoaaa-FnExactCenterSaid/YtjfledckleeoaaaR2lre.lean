/-
  The specification's reach and the program's reach. No condition.
-/
import Derived.Test.YtjfledckleeoaaaR2lfw
set_option linter.unusedVariables false
set_option linter.unusedSimpArgs false
namespace Go.Proofs.Ytjfledckleeoaaa
open Go Go.Vm Go.Proofs V

theorem zr_rep (n : Nat) : Zr (List.replicate n 0) := fun e => by
  show (List.replicate n (0 : Int)).getD e 0 = 0
  rw [List.getD_eq_getElem?_getD, List.getElem?_replicate]; split <;> rfl
theorem cast_mem {l : List Nat} {e : Nat} : (e : Int) ∈ (l.map fun (r : Nat) => (r : Int)) ↔ e ∈ l := by
  rw [List.mem_map]
  exact ⟨fun ⟨a, h1, h2⟩ => by obtain rfl : a = e := by omega
                               exact h1, fun h => ⟨e, h, rfl⟩⟩
theorem nd_take {l : List Nat} (h : l.Nodup) {i : Nat} (hi : i < l.length) : l.getD i 0 ∉ l.take i := by
  have h1 : (l.take (i + 1)).Nodup := List.Nodup.sublist (List.take_sublist _ _) h
  rw [take_snoc hi, List.nodup_append] at h1
  exact fun hm => h1.2.2 _ hm _ (List.mem_singleton.2 rfl) rfl
theorem nd_cast : ∀ {l : List Nat}, l.Nodup → ∀ i, i ≤ l.length → Nd ((l.take i).map fun (r : Nat) => (r : Int))
  | l, h, 0, _ => by intro i j hi; simp at hi
  | l, h, i + 1, hi => by
    rw [take_snoc (by omega), List.map_append]
    exact (nd_cast h i (by omega)).app (fun hm => nd_take h (by omega) (cast_mem.1 hm))

/-- The roads out of the first place have their time, the others none. -/
structure Beg (g : Graph) (s : Nat) (i : Nat) (tm : List Int) : Prop where
  len : tm.length = g.2.1.length
  yes : ∀ e, e ∈ (outN g s).take i → T tm e = timeOf g e
  no : ∀ e, e < g.2.1.length → e ∉ (outN g s).take i → T tm e = -1
theorem Beg.step {g : Graph} {s i : Nat} {tm : List Int} (h : Beg g s i tm) (hi : i < (outN g s).length) : Beg g s (i + 1) (tm.set ((outN g s).getD i 0) (timeOf g ((outN g s).getD i 0))) := by
  have he := (mem_out.1 (getD_in' hi)).1
  have hts := take_snoc hi
  refine ⟨by rw [List.length_set]; exact h.len, fun f hf => ?_, fun f hf hn => ?_⟩
  · rw [hts, List.mem_append, List.mem_singleton] at hf
    by_cases hfe : (outN g s).getD i 0 = f
    · rw [hfe]; exact getD_set_same (by rw [h.len]; omega) _ _
    · rw [show T (tm.set _ _) f = T tm f from getD_set_other hfe _ _]
      exact h.yes f (hf.resolve_right (fun e => hfe e.symm))
  · rw [hts, List.mem_append, List.mem_singleton] at hn
    rw [show T (tm.set _ _) f = T tm f from getD_set_other (fun e => hn (.inr e.symm)) _ _]
    exact h.no f hf (fun hm => hn (.inl hm))
theorem Beg.inv {g : Graph} (hg : GOk g) {s : Nat} {tm : List Int} (h : Beg g s (outN g s).length tm) : Inv (dgF g hg s) (dgF g hg s).adj tm (List.replicate g.2.1.length 0) (List.replicate g.2.1.length false) := by
  have hst : ∀ e, (dgF g hg s).start e = if e < g.2.1.length ∧ (g.2.1.getD e dR).1 = (s : Int) then some (timeOf g e) else none := fun _ => rfl
  refine Inv.init (G := dgF g hg s) h.len (by simp; rfl) (fun e v he hv => ?_) (fun e he hv => ?_)
  · rw [hst] at hv
    by_cases hc : e < g.2.1.length ∧ (g.2.1.getD e dR).1 = (s : Int)
    · rw [if_pos hc] at hv
      exact ⟨by rw [h.yes e (by rw [List.take_length]; exact mem_out.2 hc)]; simpa using hv, zr_rep _ e⟩
    · rw [if_neg hc] at hv; cases hv
  · rw [hst] at hv
    by_cases hc : e < g.2.1.length ∧ (g.2.1.getD e dR).1 = (s : Int)
    · rw [if_pos hc] at hv; cases hv
    · exact ⟨h.no e he (by rw [List.take_length]; exact fun hm => hc (mem_out.1 hm)), zr_rep _ e⟩

theorem e94 {g : Graph} (hg : GOk g) (k : Nat) (hk : 1048576 < k) (s : Nat) (hs : s < g.1.length) :
    ∃ out tm ct, f94 k g (s : Int) = some out ∧ Final (dgF g hg s) tm ct ∧ Zr ct ∧ Outs g s (fun r => 0 ≤ T tm r) tm out := by
  have n1 := hg.n1
  have n2 := hg.n2
  have c8 : (0 : Int) ≤ (g.2.1.length : Int) ∧ Int.toNat (g.2.1.length : Int) * 8 ≤ 140737488355328 := ⟨by omega, by rw [Int.toNat_natCast]; omega⟩
  have c8' : (0 : Int) ≤ (g.1.length : Int) ∧ Int.toNat (g.1.length : Int) * 8 ≤ 140737488355328 := ⟨by omega, by rw [Int.toNat_natCast]; omega⟩
  have c1 : (0 : Int) ≤ (g.2.1.length : Int) ∧ Int.toNat (g.2.1.length : Int) * 1 ≤ 140737488355328 := ⟨by omega, by rw [Int.toNat_natCast]; omega⟩
  obtain ⟨es, es1, es2, es3⟩ := e79 hg k hk false
  have hadj : es.getD s [] = (outN g s).map fun (r : Nat) => (r : Int) := by rw [es3 s hs]; exact outs_eq g s
  have bs : (0 : Int) ≤ (s : Int) ∧ (s : Int) < (es.length : Int) := ⟨by omega, by omega⟩
  have hol : (outN g s).length ≤ g.2.1.length := Nat.le_trans (List.length_filter_le _ _) (by simp)
  -- the roads out of the first place
  have go : ∀ (out : List Int), out.length = g.1.length → (∀ p, p < g.1.length → T out p = -1) → ∀ (d i m : Nat) (tm : List Int), i + d = (outN g s).length → d < m → Beg g s i tm →
      ∃ out' tm' ct', f94.l132 k (s : Int) es g out m (tm, ((outN g s).take i).map (fun (r : Nat) => (r : Int)), (i : Int)) = some out' ∧ Final (dgF g hg s) tm' ct' ∧ Zr ct' ∧ Outs g s (fun r => 0 ≤ T tm' r) tm' out' := by
    intro out o1 o2 d
    induction d with
    | zero =>
      intro i m tm a1 a2 a3
      obtain ⟨m, rfl⟩ : ∃ q, m = q + 1 := ⟨m - 1, by omega⟩
      obtain rfl : i = (outN g s).length := by omega
      rw [f94.l132]
      simp only [Int.toNat_natCast, hadj, List.length_map, if_t bs]
      rw [if_f (by simp), List.take_length]
      refine run94 hg k hk s hs ⟨es2, es3⟩ _ tm _ _ (zr_rep _) (a3.inv hg) (Row.init (by have := nd_cast (out_nodup g s) _ (Nat.le_refl _); rwa [List.take_length] at this) (fun v => ?_)) ⟨by simp [o1], getD_set_same (by omega) _ _, fun p hp hps => .inl ⟨?_, fun r hr => hr.2.1⟩⟩
      · rw [List.mem_map]
        constructor
        · rintro ⟨e, h1, rfl⟩
          have h2 := (mem_out.1 h1).1
          exact ⟨e, rfl, h2, by rw [a3.yes e (by rw [List.take_length]; exact h1)]; have := time_bd hg h2; omega⟩
        · rintro ⟨e, rfl, h2, h3⟩
          refine ⟨e, ?_, rfl⟩
          by_cases hm : e ∈ outN g s
          · exact hm
          · have := a3.no e h2 (by rw [List.take_length]; exact hm)
            omega
      · show (out.set s 0).getD p 0 = -1
        rw [getD_set_other (fun h => hps h.symm)]; exact o2 p hp
    | succ d ih =>
      intro i m tm a1 a2 a3
      obtain ⟨m, rfl⟩ : ∃ q, m = q + 1 := ⟨m - 1, by omega⟩
      have hi : i < (outN g s).length := by omega
      have he := (mem_out.1 (getD_in' hi)).1
      have hcd := castD (outN g s) i
      have hts := take_snoc hi
      have hst := a3.step hi
      have hlt : ((outN g s).take i).length ≤ 8000 := by rw [List.length_take]; omega
      have a4 := a3.len
      generalize (outN g s).getD i 0 = e at *
      have be : (0 : Int) ≤ (e : Int) ∧ (e : Int) < (g.2.1.length : Int) := ⟨by omega, by omega⟩
      have bi : (0 : Int) ≤ (i : Int) ∧ (i : Int) < ((outN g s).length : Int) := ⟨by omega, by omega⟩
      have hci : decide ((i : Int) < ((outN g s).length : Int)) = true := by simpa using hi
      rw [f94.l132]
      simp only [Int.toNat_natCast, hadj, hcd, List.length_map, a4, if_t bs, if_t hci, if_t bi, if_t be]
      rw [if_t (by simp only [List.length_singleton]; omega), wrap_s (by omega)]
      have := ih (i + 1) m _ (by omega) (by omega) hst
      rw [hts, List.map_append] at this
      exact this
  have go47 : ∀ (out : List Int), out.length = g.1.length → (∀ p, p < g.1.length → T out p = -1) → ∃ out' tm' ct', f94.l47 k g (s : Int) es out k (List.replicate g.2.1.length (0 : Int), (0 : Int)) = some out' ∧ Final (dgF g hg s) tm' ct' ∧ Zr ct' ∧ Outs g s (fun r => 0 ≤ T tm' r) tm' out' := by
    intro out o1 o2
    obtain ⟨t', ⟨s1, s2⟩, s3⟩ := foldLoop (L := f94.l47 k g (s : Int) es out) (n := g.2.1.length) (g := fun i t => t.set i (-1)) (fin := fun t => f94.l132 k (s : Int) es g out k (t, ([] : List Int), (0 : Int)))
      (Inv := fun i t => t.length = g.2.1.length ∧ ∀ j, j < i → T t j = -1)
      (fun m i t hi ⟨q1, q2⟩ => by
        have bi : (0 : Int) ≤ (i : Int) ∧ (i : Int) < (g.2.1.length : Int) := ⟨by omega, by omega⟩
        refine ⟨⟨by rw [List.length_set]; exact q1, fun j hj => ?_⟩, ?_⟩
        · by_cases hji : i = j
          · subst hji; exact getD_set_same (by omega) _ _
          · rw [show T (t.set i (-1)) j = T t j from getD_set_other hji _ _]; exact q2 j (by omega)
        · rw [f94.l47, if_t (by simpa using hi), q1, if_t bi, wrap_s (by omega)]; rfl)
      (fun m t hs => by rw [f94.l47, if_f (by simp)]) k 0 (List.replicate g.2.1.length (0 : Int)) ⟨by simp, fun j hj => by omega⟩ (by omega) (by omega)
    rw [show ((0 : Nat) : Int) = 0 from rfl] at s3
    rw [s3]
    exact go out o1 o2 (outN g s).length 0 k t' (by omega) (by omega) ⟨s1, fun e he => by simp at he, fun e he _ => s2 e he⟩
  unfold f94
  rw [if_t c8', Int.toNat_natCast]
  obtain ⟨o', ⟨s1, s2⟩, s3⟩ := foldLoop (L := f94.l16 k (s : Int) g) (n := g.1.length) (g := fun i t => t.set i (-1)) (fin := fun o => f94.l47 k g (s : Int) es o k (List.replicate g.2.1.length (0 : Int), (0 : Int)))
    (Inv := fun i t => t.length = g.1.length ∧ ∀ j, j < i → T t j = -1)
    (fun m i t hi ⟨q1, q2⟩ => by
      have bi : (0 : Int) ≤ (i : Int) ∧ (i : Int) < (g.1.length : Int) := ⟨by omega, by omega⟩
      refine ⟨⟨by rw [List.length_set]; exact q1, fun j hj => ?_⟩, ?_⟩
      · by_cases hji : i = j
        · subst hji; exact getD_set_same (by omega) _ _
        · rw [show T (t.set i (-1)) j = T t j from getD_set_other hji _ _]; exact q2 j (by omega)
      · rw [f94.l16, q1, if_t (by simpa using hi), if_t bi, wrap_s (by omega)]; rfl)
    (fun m t hs' => by rw [f94.l16, hs'.1, if_f (by simp), if_t ⟨by omega, by omega⟩, if_t c8, if_t c1, es1, Option.bind_some, Int.toNat_natCast]) k 0 (List.replicate g.1.length (0 : Int)) ⟨by simp, fun j hj => by omega⟩ (by omega) (by omega)
  rw [show ((0 : Nat) : Int) = 0 from rfl] at s3
  rw [s3]
  exact go47 o' s1 s2
end Go.Proofs.Ytjfledckleeoaaa
