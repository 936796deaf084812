/-
  BestPath: the two walks along the least labels are alike. No condition.
-/
import Derived.Test.YtchbpdnaodicaaaR3fpk
set_option linter.unusedVariables false
set_option linter.unusedSimpArgs false
namespace Go.Proofs.Ytchbpdnaodicaaa
open Go Go.Vm Go.Proofs V
theorem mem_out {g : Graph} {s e : Nat} : e ∈ outN g s ↔ e < g.2.1.length ∧ (g.2.1.getD e dR).1 = (s : Int) := by
  unfold outN; rw [List.mem_filter]; simp
theorem mem_in {g : Graph} {s e : Nat} : e ∈ inN g s ↔ e < g.2.1.length ∧ (g.2.1.getD e dR).2.1 = (s : Int) := by
  unfold inN; rw [List.mem_filter]; simp
theorem key_yes {tm ct : List Int} {ex : Nat → Int} {e : Nat} {v : Int} (hv : ex e = v) (h : ¬ (T tm e < 0 ∨ v < 0)) : keyOf tm ct ex e = some (T tm e + v, T ct e) := by
  unfold keyOf; rw [hv, if_neg h]
section
variable {g : Graph} {hg : GOk g} {t : Int} {tm ct : List Int}
theorem ct_pos (h : Final (dgB g hg t) tm ct) {e : Nat} (he : e < g.2.1.length) (hf : 0 ≤ T tm e) : 1 ≤ T ct e := by
  rcases h.att e he hf with ⟨_, h2⟩ | ⟨x, hx, hfx, h1, h2, h3, h4⟩
  · rw [h2]; show (1 : Int) ≤ 1; decide
  · rw [h4]
    have := (h.pos x hx hfx).2
    have : (dgB g hg t).dl = 1 := rfl
    omega
theorem end_iff (h : Final (dgB g hg t) tm ct) {e : Nat} (he : e < g.2.1.length) (hf : 0 ≤ T tm e) : T ct e = 1 ↔ (g.2.1.getD e dR).2.1 = t := by
  have hst : (dgB g hg t).start e = if e < g.2.1.length ∧ (g.2.1.getD e dR).2.1 = t then some (timeOf g e) else none := rfl
  have hdl : (dgB g hg t).dl = 1 := rfl
  constructor
  · intro hc
    rcases h.att e he hf with ⟨h1, _⟩ | ⟨x, hx, hfx, h1, h2, h3, h4⟩
    · rw [hst] at h1
      by_cases hcc : e < g.2.1.length ∧ (g.2.1.getD e dR).2.1 = t
      · exact hcc.2
      · rw [if_neg hcc] at h1; cases h1
    · have := ct_pos h hx hfx
      omega
  · intro ht
    rw [if_pos ⟨he, ht⟩] at hst
    obtain ⟨_, hle⟩ := h.sta e _ he hst
    rcases h.att e he hf with ⟨_, h2⟩ | ⟨x, hx, hfx, h1, h2, h3, h4⟩
    · exact h2
    · have hcv : (dgB g hg t).cost x e = if e < g.2.1.length then costN g e x e else -1 := rfl
      rw [if_pos he] at hcv
      have := (h.pos x hx hfx).1
      have : 0 ≤ costN g e x e → timeOf g e ≤ costN g e x e := fun h => by unfold costN at h ⊢; split at h <;> (try split) <;> omega
      unfold Le at hle
      omega
def exN (g : Graph) (tm ct : List Int) (e x : Nat) : Int := if T ct x = T ct e - 1 ∧ 0 ≤ turnOf g (e : Int) (x : Int) ∧ 0 ≤ T tm x ∧ timeOf g e + turnOf g (e : Int) (x : Int) + T tm x = T tm e then turnOf g (e : Int) (x : Int) else -1
theorem next_same (h : Final (dgB g hg t) tm ct) {e : Nat} (he : e < g.2.1.length) (hf : 0 ≤ T tm e) (hc : T ct e ≠ 1) :
    ∃ x, x < g.2.1.length ∧ 0 ≤ T tm x ∧ T ct x = T ct e - 1 ∧ (pk (keyOf tm ct (exN g tm ct e)) (outN g (g.2.1.getD e dR).2.1.toNat)).1 = (x : Int) ∧ (pk (keyOf tm ct fun x => turnOf g (e : Int) (x : Int)) (outN g (g.2.1.getD e dR).2.1.toNat)).1 = (x : Int) := by
  have hend := (road_ends hg (road_nat he)).2
  rw [show (roadAt g (e : Int)).2.1 = (g.2.1.getD e dR).2.1 by unfold roadAt; rw [Int.toNat_natCast]] at hend
  have hcv : ∀ x, (dgB g hg t).cost x e = costN g e x e := fun x => if_pos he
  have hdl : (dgB g hg t).dl = 1 := rfl
  have hadj : ∀ x, x < g.2.1.length → x ∈ outN g (g.2.1.getD e dR).2.1.toNat → e ∈ (dgB g hg t).adj x := fun x hx hm => by
    have h1 := (mem_out.1 hm).2
    show e ∈ inN g (g.2.1.getD x dR).1.toNat
    rw [mem_in]
    exact ⟨he, by omega⟩
  -- the keys
  have k1 : ∀ x a b, keyOf tm ct (fun x => turnOf g (e : Int) (x : Int)) x = some (a, b) → 0 ≤ T tm x ∧ 0 ≤ turnOf g (e : Int) (x : Int) ∧ a = T tm x + turnOf g (e : Int) (x : Int) ∧ b = T ct x := fun x a b hk => keyOf_some hk
  have hmin : ∀ x ∈ outN g (g.2.1.getD e dR).2.1.toNat, ∀ a b, keyOf tm ct (fun x => turnOf g (e : Int) (x : Int)) x = some (a, b) → Le (T tm e - timeOf g e) (T ct e - 1) a b := fun x hx a b hk => by
    obtain ⟨q1, q2, q3, q4⟩ := k1 x a b hk
    have hxn := (mem_out.1 hx).1
    have hco : costN g e x e = turnOf g (e : Int) (x : Int) + timeOf g e := by unfold costN; rw [if_neg (by omega)]
    have htm := time_bd hg he
    obtain ⟨_, r2⟩ := h.rel x hxn q1 e he (hadj x hxn hx) (by rw [hcv, hco]; omega)
    rw [hcv, hco, hdl] at r2
    unfold Le at r2 ⊢; omega
  have kk : ∀ x, keyOf tm ct (exN g tm ct e) x = some (T tm e - timeOf g e, T ct e - 1) ↔ keyOf tm ct (fun x => turnOf g (e : Int) (x : Int)) x = some (T tm e - timeOf g e, T ct e - 1) := fun x => by
    constructor
    · intro hk
      obtain ⟨q1, q2, q3, q4⟩ := keyOf_some hk
      unfold exN at q2 q3
      by_cases hcc : T ct x = T ct e - 1 ∧ 0 ≤ turnOf g (e : Int) (x : Int) ∧ 0 ≤ T tm x ∧ timeOf g e + turnOf g (e : Int) (x : Int) + T tm x = T tm e
      · exact (key_yes (v := turnOf g (e : Int) (x : Int)) rfl (by omega)).trans (by congr 2 <;> omega)
      · rw [if_neg hcc] at q2; omega
    · intro hk
      obtain ⟨q1, q2, q3, q4⟩ := k1 x _ _ hk
      have hcc : T ct x = T ct e - 1 ∧ 0 ≤ turnOf g (e : Int) (x : Int) ∧ 0 ≤ T tm x ∧ timeOf g e + turnOf g (e : Int) (x : Int) + T tm x = T tm e := ⟨by omega, q2, q1, by omega⟩
      have hex : exN g tm ct e x = turnOf g (e : Int) (x : Int) := if_pos hcc
      exact (key_yes hex (by omega)).trans (by congr 2 <;> omega)
  have hmin2 : ∀ x ∈ outN g (g.2.1.getD e dR).2.1.toNat, ∀ a b, keyOf tm ct (exN g tm ct e) x = some (a, b) → Le (T tm e - timeOf g e) (T ct e - 1) a b := fun x hx a b hk => by
    obtain ⟨q1, q2, q3, q4⟩ := keyOf_some hk
    unfold exN at q2 q3
    by_cases hcc : T ct x = T ct e - 1 ∧ 0 ≤ turnOf g (e : Int) (x : Int) ∧ 0 ≤ T tm x ∧ timeOf g e + turnOf g (e : Int) (x : Int) + T tm x = T tm e
    · rw [if_pos hcc] at q3; unfold Le; omega
    · rw [if_neg hcc] at q2; omega
  have hexist : ∃ x, x ∈ outN g (g.2.1.getD e dR).2.1.toNat ∧ keyOf tm ct (fun x => turnOf g (e : Int) (x : Int)) x = some (T tm e - timeOf g e, T ct e - 1) := by
    rcases h.att e he hf with ⟨_, h2⟩ | ⟨x, hx, hfx, h1, h2, h3, h4⟩
    · rw [hdl] at h2; exact absurd h2 hc
    · have h1' : e ∈ inN g (g.2.1.getD x dR).1.toNat := h1
      have h1'' := (mem_in.1 h1').2
      have hxe := (road_ends hg (road_nat (show x < g.2.1.length from hx))).1
      rw [show (roadAt g (x : Int)).1 = (g.2.1.getD x dR).1 by unfold roadAt; rw [Int.toNat_natCast]] at hxe
      rw [hcv] at h2 h3
      rw [hdl] at h4
      have hco : 0 ≤ turnOf g (e : Int) (x : Int) ∧ costN g e x e = turnOf g (e : Int) (x : Int) + timeOf g e := by
        unfold costN at h2 ⊢
        by_cases hl : turnOf g (e : Int) (x : Int) < 0
        · rw [if_pos hl] at h2; omega
        · rw [if_neg hl]; exact ⟨by omega, rfl⟩
      refine ⟨x, mem_out.2 ⟨hx, by omega⟩, ?_⟩
      exact (key_yes (v := turnOf g (e : Int) (x : Int)) rfl (by omega)).trans (by congr 2 <;> omega)
  obtain ⟨a1, x, a2, b1, b2, b3⟩ := first_split hexist
  have hxm : x ∈ outN g (g.2.1.getD e dR).2.1.toNat := by rw [b1]; simp
  obtain ⟨q1, q2, q3, q4⟩ := k1 x _ _ b2
  refine ⟨x, (mem_out.1 hxm).1, q1, by omega, ?_, ?_⟩
  · rw [b1, pk_first (key := keyOf tm ct (exN g tm ct e)) ((kk x).2 b2) (fun y hy hk => b3 y hy ((kk y).1 hk)) (fun y hy => hmin2 y (by rw [b1]; exact hy))]
  · rw [b1, pk_first (key := keyOf tm ct fun x => turnOf g (e : Int) (x : Int)) b2 b3 (fun y hy => hmin y (by rw [b1]; exact hy))]
end
theorem tm_bd {g : Graph} {hg : GOk g} {t : Int} {tm ct : List Int} (h : Final (dgB g hg t) tm ct) {e : Nat} (he : e < g.2.1.length) : T tm e ≤ 10000000000 ∧ T ct e ≤ 8001 := by
  obtain ⟨b1, b2⟩ := h.bnd e he
  have hC : (dgB g hg t).C = 1000020 := rfl
  have hN : (dgB g hg t).n = g.2.1.length := rfl
  have := hg.n2
  rw [hC, hN] at b1
  rw [hN] at b2
  omega
theorem step110 {g : Graph} (hg : GOk g) (k : Nat) (hk : 1048576 < k) {t : Int} {tm ct : List Int} (h : Final (dgB g hg t) tm ct) {es : List (List Int)} (hes : Ends g false es) {e : Nat} (he : e < g.2.1.length) (hf : 0 ≤ T tm e) (p : List Int) (ln : Int)
    (q : (Int × List Int × Int × Int) → Option (Bool × (List Int × (Int × Int)))) :
    f110.l2520 k es g (e : Int) (tm, ct) (T ct e) p ln q k (([] : List Int), (0 : Int)) = q ((pk (keyOf tm ct (exN g tm ct e)) (outN g (g.2.1.getD e dR).2.1.toNat)).1, List.append p [(e : Int)], IntKind.i64.wrap (ln + (g.2.1.getD e dR).2.2.2.2.1), IntKind.i64.wrap (T ct e - 1)) := by
  have n2 := hg.n2
  have hend := (road_ends hg (road_nat he)).2
  rw [show (roadAt g (e : Int)).2.1 = (g.2.1.getD e dR).2.1 by unfold roadAt; rw [Int.toNat_natCast]] at hend
  have hadj : es.getD (g.2.1.getD e dR).2.1.toNat [] = (outN g (g.2.1.getD e dR).2.1.toNat).map fun (r : Nat) => (r : Int) := by
    rw [hes.2 _ (by omega)]; exact outs_eq g _
  have hln : (outN g (g.2.1.getD e dR).2.1.toNat).length ≤ g.2.1.length := Nat.le_trans (List.length_filter_le _ _) (by simp)
  have hmem : ∀ x ∈ outN g (g.2.1.getD e dR).2.1.toNat, x < g.2.1.length := fun x hx => (mem_out.1 hx).1
  have tl1 : tm.length = g.2.1.length := h.l1
  have tl2 : ct.length = g.2.1.length := h.l2
  have e184' := e184 (n := g.2.1.length) k hk tm ct tl1 tl2 n2 (fun x hx => (tm_bd h hx).1) (outN g (g.2.1.getD e dR).2.1.toNat) hmem (by omega) (exN g tm ct e) (fun x _ => by have := turn_range g (e : Int) (x : Int); unfold exN; split <;> omega)
  generalize outN g (g.2.1.getD e dR).2.1.toNat = l at *
  have be : (0 : Int) ≤ (e : Int) ∧ (e : Int) < (g.2.1.length : Int) := ⟨by omega, by omega⟩
  have bte := (tm_bd h he).1
  have bce := (tm_bd h he).2
  have bc1 := ct_pos h he hf
  have hte := time_bd hg he
  obtain ⟨u, u1, u2⟩ := foldLoop (L := f110.l2520 k es g (e : Int) (tm, ct) (T ct e) p ln q) (n := l.length) (g := fun j u => u ++ [exN g tm ct e (l.getD j 0)])
    (fin := fun u => (f184 k (tm, ct) (l.map fun (r : Nat) => (r : Int)) u).bind fun r => q (r, List.append p [(e : Int)], IntKind.i64.wrap (ln + (g.2.1.getD e dR).2.2.2.2.1), IntKind.i64.wrap (T ct e - 1)))
    (Inv := fun j u => u = (l.take j).map (exN g tm ct e))
    (fun m j u hj hu => by
      refine ⟨by rw [hu, take_snoc hj, List.map_append]; rfl, ?_⟩
      have hcj : decide ((j : Int) < ((l.map fun (r : Nat) => (r : Int)).length : Int)) = true := by simpa using hj
      have hbj : (0 : Int) ≤ (j : Int) ∧ (j : Int) < ((l.map fun (r : Nat) => (r : Int)).length : Int) := ⟨by omega, by simpa using hj⟩
      have hcd := castD l j
      have hxm := getD_in' hj
      have hul : u.length ≤ 8000 := by rw [hu, List.length_map, List.length_take]; omega
      generalize l.getD j 0 = x at *
      have hxn := hmem x hxm
      have bx : (0 : Int) ≤ (x : Int) ∧ (x : Int) < (g.2.1.length : Int) := ⟨by omega, by omega⟩
      have e162' := e162 hg k hk (road_nat he) (road_nat hxn)
      have htr := turn_range g (e : Int) (x : Int)
      have btx := (tm_bd h hxn).1
      have btx0 : -1 ≤ T tm x := by
        by_cases hx0 : 0 ≤ T tm x
        · omega
        · have := (h.unr x hxn (by omega)).1; omega
      have w0 : IntKind.i64.wrap ((j : Int) + 1) = ((j + 1 : Nat) : Int) := wrap_s (by omega)
      have w1 : IntKind.i64.wrap (T ct e - 1) = T ct e - 1 := wrap_in (by omega) (by omega)
      have w2 : IntKind.i64.wrap (timeOf g e + turnOf g (e : Int) (x : Int)) = timeOf g e + turnOf g (e : Int) (x : Int) := wrap_in (by omega) (by omega)
      have w3 : IntKind.i64.wrap (timeOf g e + turnOf g (e : Int) (x : Int) + tm.getD x 0) = timeOf g e + turnOf g (e : Int) (x : Int) + T tm x := wrap_in (show -9223372036854775808 ≤ timeOf g e + turnOf g (e : Int) (x : Int) + T tm x by omega) (show timeOf g e + turnOf g (e : Int) (x : Int) + T tm x ≤ 9223372036854775807 by omega)
      have hgt : (g.2.1.getD e dR).2.2.2.1 = timeOf g e := rfl
      rw [f110.l2520]
      simp only [Int.toNat_natCast, hadj, hcd, e162', Option.bind_some, f110.j2612, w0, w1, w2, w3, tl1, tl2, hgt, if_t hcj, if_t hbj, if_t be, if_t bx]
      rw [if_t (fun _ => hbj), if_t (fun _ => bx), if_t (fun _ => be), if_t (fun _ => hbj), if_t (fun _ => bx), if_t (fun _ => be)]
      rw [if_t (show (u.length + ([(-1 : Int)]).length) * 8 ≤ 140737488355328 by simp only [List.length_singleton]; omega), if_t (show (u.length + ([turnOf g (e : Int) (x : Int)]).length) * 8 ≤ 140737488355328 by simp only [List.length_singleton]; omega)]
      by_cases hcc : T ct x = T ct e - 1 ∧ 0 ≤ turnOf g (e : Int) (x : Int) ∧ 0 ≤ T tm x ∧ timeOf g e + turnOf g (e : Int) (x : Int) + T tm x = T tm e
      · have hex : exN g tm ct e x = turnOf g (e : Int) (x : Int) := if_pos hcc
        obtain ⟨c1, c2, c3, c4⟩ := hcc
        rw [hex, if_f (by
          rw [show (ct.getD x 0 != T ct e - 1) = false from bne_eq_false_iff_eq.2 c1, decide_eq_false (show ¬ turnOf g (e : Int) (x : Int) < 0 by omega), show decide (tm.getD x 0 < 0) = false from decide_eq_false (show ¬ T tm x < 0 by omega), show (timeOf g e + turnOf g (e : Int) (x : Int) + T tm x != tm.getD e 0) = false from bne_eq_false_iff_eq.2 c4]
          decide)]
      · have hex : exN g tm ct e x = -1 := if_neg hcc
        rw [hex, if_t (by
          by_cases c1 : T ct x = T ct e - 1
          · by_cases c2 : turnOf g (e : Int) (x : Int) < 0
            · rw [decide_eq_true c2]; cases (ct.getD x 0 != T ct e - 1) <;> rfl
            · by_cases c3 : T tm x < 0
              · rw [show decide (tm.getD x 0 < 0) = true from decide_eq_true c3]; cases (ct.getD x 0 != T ct e - 1) <;> cases decide (turnOf g (e : Int) (x : Int) < 0) <;> rfl
              · rw [show (timeOf g e + turnOf g (e : Int) (x : Int) + T tm x != tm.getD e 0) = true from bne_iff_ne.2 (fun h => hcc ⟨c1, by omega, by omega, h⟩)]
                cases (ct.getD x 0 != T ct e - 1) <;> cases decide (turnOf g (e : Int) (x : Int) < 0) <;> cases decide (tm.getD x 0 < 0) <;> rfl
          · rw [show (ct.getD x 0 != T ct e - 1) = true from bne_iff_ne.2 c1]; rfl)])
    (fun m u hu => by
      rw [f110.l2520]
      simp only [Int.toNat_natCast, hadj, List.length_map]
      rw [if_f (by simp)]) k 0 [] rfl (by omega) (by omega)
  rw [show ((0 : Nat) : Int) = 0 from rfl] at u2
  rw [u2, u1, List.take_length, e184', Option.bind_some]
theorem walk_same {g : Graph} (hg : GOk g) (k : Nat) (hk : 1048576 < k) {t : Int} {tm ct : List Int} (h : Final (dgB g hg t) tm ct) {es : List (List Int)} (hes : Ends g false es) {net : Net} (hn : NetOf g net) (r : Int) :
    ∀ (c m1 m2 e : Nat) (p : List Int) (ln : Int), e < g.2.1.length → 0 ≤ T tm e → T ct e = (c : Int) → c < m1 → c < m2 → p.length + c ≤ 9000 →
      ∃ y, f110.l1318 k g es (tm, ct) (f110.j1317 k (tm, ct) r) m1 ((e : Int), p, ln, (c : Int)) = some y ∧ f113.l3 k net t (tm, ct) r m2 ((e : Int), p, ln) = some y ∧ y.2.1.length ≤ 9000 ∧ (∃ z : Nat, ∃ q, z < g.2.1.length ∧ (g.2.1.getD z dR).2.1 = t ∧ y.2.1 = q ++ [(z : Int)]) ∧ ∃ q, y.2.1 = p ++ (e : Int) :: q
  | 0, m1, m2, e, p, ln, he, hf, hc, h1, h2, h3 => by have := ct_pos h he hf; omega
  | c + 1, m1, m2, e, p, ln, he, hf, hc, h1, h2, h3 => by
    obtain ⟨m1, rfl⟩ : ∃ q, m1 = q + 1 := ⟨m1 - 1, by omega⟩
    obtain ⟨m2, rfl⟩ : ∃ q, m2 = q + 1 := ⟨m2 - 1, by omega⟩
    have n2 := hg.n2
    have be : (0 : Int) ≤ (e : Int) ∧ (e : Int) < (g.2.1.length : Int) := ⟨by omega, by omega⟩
    have hend := (road_ends hg (road_nat he)).2
    rw [show (roadAt g (e : Int)).2.1 = (g.2.1.getD e dR).2.1 by unfold roadAt; rw [Int.toNat_natCast]] at hend
    have bes : (0 : Int) ≤ (g.2.1.getD e dR).2.1 ∧ (g.2.1.getD e dR).2.1 < (es.length : Int) := by rw [hes.1]; exact hend
    have bno : (0 : Int) ≤ (g.2.1.getD e dR).2.1 ∧ (g.2.1.getD e dR).2.1 < (net.2.1.length : Int) := by rw [hn.out.1]; exact hend
    have hpl : (p.length + ([(e : Int)]).length) * 8 ≤ 140737488355328 := by simp only [List.length_singleton]; omega
    have hc0 : decide ((((c + 1 : Nat) : Int)) > 0) = true := by rw [decide_eq_true_eq]; omega
    have hapl : (List.append p [(e : Int)]).length = p.length + 1 := by rw [show List.append p [(e : Int)] = p ++ [(e : Int)] from rfl, List.length_append]; rfl
    rw [f110.l1318, f113.l3]
    simp only [hn.fst, if_t hc0, if_t hpl, if_t be, Int.toNat_natCast]
    by_cases hto : (g.2.1.getD e dR).2.1 = t
    · have hc1 := (end_iff h he hf).2 hto
      rw [if_t (by rw [beq_iff_eq]; omega), if_t (by simpa using hto)]
      exact ⟨_, rfl, rfl, by show (List.append p [(e : Int)]).length ≤ 9000; omega, ⟨e, p, he, hto, rfl⟩, [], rfl⟩
    · have hc1 : T ct e ≠ 1 := fun hh => hto ((end_iff h he hf).1 hh)
      obtain ⟨x, x1, x2, x3, x4, x5⟩ := next_same h he hf hc1
      rw [if_f (by rw [beq_iff_eq]; omega), if_t bes, if_f (by simpa using hto), if_t bno]
      have hadj : net.2.1.getD (g.2.1.getD e dR).2.1.toNat [] = (outN g (g.2.1.getD e dR).2.1.toNat).map fun (r : Nat) => (r : Int) := by
        rw [hn.out.2 _ (by omega)]; exact outs_eq g _
      have hln : (outN g (g.2.1.getD e dR).2.1.toNat).length ≤ g.2.1.length := Nat.le_trans (List.length_filter_le _ _) (by simp)
      have hb := e186b (n := g.2.1.length) k hk net (e : Int) tm ct h.l1 h.l2 n2 (fun x hx => (tm_bd h hx).1) (outN g (g.2.1.getD e dR).2.1.toNat) (fun x hx => (mem_out.1 hx).1) (by omega) (fun x => turnOf g (e : Int) (x : Int)) (fun x hx => by
        have hxo := mem_out.1 hx
        refine ⟨?_, (turn_range g (e : Int) (x : Int)).2⟩
        rw [e170 hg k hn (road_nat he) (road_nat hxo.1), if_pos]
        unfold roadAt; rw [Int.toNat_natCast, Int.toNat_natCast]
        have := hxo.2
        show (g.2.1.getD e dR).2.1 = (g.2.1.getD x dR).1
        omega)
      have hs := step110 hg k hk h hes he hf p ln (f110.l1318 k g es (tm, ct) (f110.j1317 k (tm, ct) r) m1)
      rw [hc] at hs
      rw [hs, hadj, hb, Option.bind_some, x4, x5]
      have w1 : IntKind.i64.wrap (((c + 1 : Nat) : Int) - 1) = (c : Int) := wrap_p c (by omega)
      rw [w1]
      obtain ⟨y, y1, y2, y3, y4, qq, y5⟩ := walk_same hg k hk h hes hn r c m1 m2 x _ _ x1 x2 (by omega) (by omega) (by omega) (by rw [hapl]; omega)
      exact ⟨y, y1, y2, y3, y4, (x : Int) :: qq, by rw [y5]; show (p ++ [(e : Int)]) ++ (x : Int) :: qq = _; simp⟩
end Go.Proofs.Ytchbpdnaodicaaa
