/-
  The net of a graph's roads, backwards and forwards. No condition.
-/
import Derived.Test.YtjfledckleeoaaaR2lhp
import Derived.Test.YtjfledckleeoaaaDijR
set_option linter.unusedVariables false
set_option linter.unusedSimpArgs false
namespace Go.Proofs.Ytjfledckleeoaaa
open Go Go.Vm Go.Proofs V

def inN (g : Graph) (p : Nat) : List Nat := (List.range g.2.1.length).filter fun r => decide ((g.2.1.getD r dR).2.1 = (p : Int))
def outN (g : Graph) (p : Nat) : List Nat := (List.range g.2.1.length).filter fun r => decide ((g.2.1.getD r dR).1 = (p : Int))
theorem inns_eq (g : Graph) (p : Nat) : inns g g.2.1.length p = (inN g p).map fun (r : Nat) => (r : Int) := rfl
theorem outs_eq (g : Graph) (p : Nat) : outs g g.2.1.length p = (outN g p).map fun (r : Nat) => (r : Int) := rfl
theorem castD (l : List Nat) (i : Nat) : (l.map fun (r : Nat) => (r : Int)).getD i 0 = ((l.getD i 0 : Nat) : Int) := by
  simp only [List.getD_eq_getElem?_getD, List.getElem?_map]
  cases l[i]? <;> rfl
theorem turn_range (g : Graph) (e f : Int) : -1 ≤ turnOf g e f ∧ turnOf g e f ≤ 20 := by
  unfold turnOf costOf
  split
  · omega
  · split
    · omega
    · split
      · omega
      · split <;> omega
def timeOf (g : Graph) (e : Nat) : Int := (g.2.1.getD e dR).2.2.2.1
theorem time_bd {g : Graph} (hg : GOk g) {e : Nat} (h : e < g.2.1.length) : 1 ≤ timeOf g e ∧ timeOf g e ≤ 1000000 := by
  have := hg.road e h
  unfold timeOf
  simp only [okRoad, Bool.and_eq_true, decide_eq_true_eq] at this
  omega
def costN (g : Graph) (a b e : Nat) : Int := if turnOf g (a : Int) (b : Int) < 0 then -1 else turnOf g (a : Int) (b : Int) + timeOf g e

def dgB (g : Graph) (hg : GOk g) (t : Int) : DG where
  n := g.2.1.length
  adj x := inN g (g.2.1.getD x dR).1.toNat
  cost x e := if e < g.2.1.length then costN g e x e else -1
  start e := if e < g.2.1.length ∧ (g.2.1.getD e dR).2.1 = t then some (timeOf g e) else none
  dl := 1
  C := 1000020
  hadj := fun x hx e he => by simpa using (List.mem_filter.1 he).1
  hcost := fun x e hx he => by
    have hl : e < g.2.1.length := by simpa using (List.mem_filter.1 he).1
    have := time_bd hg hl
    have := turn_range g e x
    rw [if_pos hl]; unfold costN; split <;> omega
  hstart := fun e s h => by
    by_cases hc : e < g.2.1.length ∧ (g.2.1.getD e dR).2.1 = t
    · rw [if_pos hc] at h
      have := time_bd hg hc.1
      have : timeOf g e = s := by simpa using h
      omega
    · rw [if_neg hc] at h; cases h
  hdl := .inr rfl
  hC := by decide

def dgF (g : Graph) (hg : GOk g) (s : Nat) : DG where
  n := g.2.1.length
  adj x := outN g (g.2.1.getD x dR).2.1.toNat
  cost x e := if e < g.2.1.length then costN g x e e else -1
  start e := if e < g.2.1.length ∧ (g.2.1.getD e dR).1 = (s : Int) then some (timeOf g e) else none
  dl := 0
  C := 1000020
  hadj := fun x hx e he => by simpa using (List.mem_filter.1 he).1
  hcost := fun x e hx he => by
    have hl : e < g.2.1.length := by simpa using (List.mem_filter.1 he).1
    have := time_bd hg hl
    have := turn_range g x e
    rw [if_pos hl]; unfold costN; split <;> omega
  hstart := fun e v h => by
    by_cases hc : e < g.2.1.length ∧ (g.2.1.getD e dR).1 = (s : Int)
    · rw [if_pos hc] at h
      have := time_bd hg hc.1
      have : timeOf g e = v := by simpa using h
      omega
    · rw [if_neg hc] at h; cases h
  hdl := .inl rfl
  hC := by decide

theorem road_nat {g : Graph} {e : Nat} (h : e < g.2.1.length) : roadIs g (e : Int) = true := roadIs_iff.2 ⟨by omega, by omega⟩

theorem bnd_num {G : DG} (hC : G.C = 1000020) (hn : G.n ≤ 8000) {part : Nat → List Nat} {tm ct : List Int} {dn : List Bool} (h : Inv G part tm ct dn) {x : Nat} (hx : x < G.n) : T tm x ≤ 10000000000 ∧ T ct x ≤ 8001 := by
  obtain ⟨b1, b2⟩ := h.bnd x hx
  have := cnt_le dn
  rw [h.l3] at this
  rw [hC] at b1
  omega

/-- The roads into (or out of) the places, as a row of rows. -/
def Ends (g : Graph) (b : Bool) (t : List (List Int)) : Prop := t.length = g.1.length ∧ ∀ p, p < g.1.length → t.getD p [] = (bif b then inns g g.2.1.length p else outs g g.2.1.length p)

end Go.Proofs.Ytjfledckleeoaaa
