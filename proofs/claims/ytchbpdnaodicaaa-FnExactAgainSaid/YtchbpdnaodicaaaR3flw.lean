/-
  BestPath: the two searches answer alike. No condition.
-/
import Derived.Test.YtchbpdnaodicaaaR3fbp
set_option linter.unusedVariables false
set_option linter.unusedSimpArgs false
namespace Go.Proofs.Ytchbpdnaodicaaa
open Go Go.Vm Go.Proofs V
theorem spot_eq (g : Graph) (p : Int) : (bif (decide ((p : Int) ≥ (0 : Int))) then (decide ((p : Int) < (List.length g.1 : Int))) else false) = spotIs g p := by
  unfold spotIs
  cases decide (p ≥ 0) <;> simp
theorem e93 (k : Nat) (g : Graph) (p : Int) : f93 k g p = some (spotIs g p) := by unfold f93; rw [spot_eq]
theorem e96 (k : Nat) {g : Graph} {t : Net} (ht : NetOf g t) (p : Int) : f96 k t p = some (spotIs g p) := by unfold f96; rw [ht.fst, spot_eq]
theorem best_same {g : Graph} (hg : GOk g) (k : Nat) (hk : 1099511627776 < k) {net : Net} (hn : NetOf g net) {es : List (List Int)} (hes : Ends g false es) {s t : Int} (hs : spotIs g s = true) {tm ct : List Int} (h : Final (dgB g hg t) tm ct) (h97 : f185 k net t = some (tm, ct)) :
    ∃ y, f110 k g (tm, ct) es s t = some y ∧ f113 k net s t = some y ∧ y.2.1.length ≤ 9000 ∧ (y.2.1 = [] ∨ ((∃ z : Nat, ∃ q, z < g.2.1.length ∧ (g.2.1.getD z dR).2.1 = t ∧ y.2.1 = q ++ [(z : Int)]) ∧ ∃ e : Nat, ∃ q, e < g.2.1.length ∧ (g.2.1.getD e dR).1 = s ∧ y.2.1 = (e : Int) :: q)) := by
  have n2 := hg.n2
  obtain ⟨h0, h1⟩ := spotIs_iff.1 hs
  obtain ⟨s, rfl⟩ : ∃ p : Nat, s = (p : Int) := ⟨s.toNat, by omega⟩
  unfold f110 f113
  by_cases hst : (s : Int) = t
  · rw [if_t (by simpa using hst), if_t (by simpa using hst)]
    exact ⟨_, rfl, rfl, by simp, .inl rfl⟩
  · have hst' : ¬ (((s : Int) == t) = true) := by simpa using hst
    simp only [if_f hst', h97, Option.bind_some]
    have bes : (0 : Int) ≤ (s : Int) ∧ (s : Int) < (es.length : Int) := by rw [hes.1]; exact ⟨by omega, h1⟩
    have bno : (0 : Int) ≤ (s : Int) ∧ (s : Int) < (net.2.1.length : Int) := by rw [hn.out.1]; exact ⟨by omega, h1⟩
    have hln : (outN g s).length ≤ g.2.1.length := Nat.le_trans (List.length_filter_le _ _) (by simp)
    have ha1 : es.getD s [] = (outN g s).map fun (r : Nat) => (r : Int) := by rw [hes.2 s (by omega)]; exact outs_eq g s
    have ha2 : net.2.1.getD s [] = (outN g s).map fun (r : Nat) => (r : Int) := by rw [hn.out.2 s (by omega)]; exact outs_eq g s
    have hmem : ∀ x ∈ outN g s, x < g.2.1.length := fun x hx => (mem_out.1 hx).1
    have q1 := e184 (n := g.2.1.length) k (by omega) tm ct h.l1 h.l2 n2 (fun x hx => (tm_bd h hx).1) (outN g s) hmem (by omega) (fun _ => 0) (fun _ _ => by decide)
    have q2 := e186 (n := g.2.1.length) k (by omega) tm ct h.l1 h.l2 n2 (fun x hx => (tm_bd h hx).1) (outN g s) hmem (by omega)
    have hrep : List.replicate (outN g s).length (0 : Int) = (outN g s).map fun _ => (0 : Int) := by rw [List.map_const']
    have tl1 : tm.length = g.2.1.length := h.l1
    have tl2 : ct.length = g.2.1.length := h.l2
    simp only [if_t bes, if_t bno, Int.toNat_natCast, ha1, ha2, List.length_map]
    rw [if_t (show (0 : Int) ≤ ((outN g s).length : Int) ∧ (outN g s).length * 8 ≤ 140737488355328 from ⟨by omega, by omega⟩), hrep, q1, q2, Option.bind_some, Option.bind_some]
    rcases pk_mem (keyOf tm ct fun _ => 0) (outN g s) with hp | ⟨e, a, b, m1, m2, hp⟩
    · rw [hp, if_t (by decide), if_t (by decide)]
      exact ⟨_, rfl, rfl, by simp, .inl rfl⟩
    · rw [hp]
      have hen := hmem e m1
      have hf := (keyOf_some m2).1
      have be : (0 : Int) ≤ (e : Int) ∧ (e : Int) < (tm.length : Int) := ⟨by omega, by omega⟩
      have be2 : (0 : Int) ≤ (e : Int) ∧ (e : Int) < (ct.length : Int) := ⟨by omega, by omega⟩
      have hcp := ct_pos h hen hf
      have hcb := (tm_bd h hen).2
      have hz : ¬ (decide ((e : Int) < 0) = true) := by rw [decide_eq_true_eq]; omega
      simp only [if_f hz, if_t be, if_t be2, Int.toNat_natCast]
      have hcc : ct.getD e 0 = (((T ct e).toNat : Nat) : Int) := by show T ct e = _; omega
      rw [hcc]
      obtain ⟨y, y1, y2, y3, y4, qq, y5⟩ := walk_same hg k (by omega) h hes hn (e : Int) (T ct e).toNat k k e [] 0 hen hf (by omega) (by omega) (by omega) (by rw [List.length_nil]; omega)
      exact ⟨y, y1, y2, y3, .inr ⟨y4, e, qq, hen, (mem_out.1 m1).2, y5⟩⟩
end Go.Proofs.Ytchbpdnaodicaaa
