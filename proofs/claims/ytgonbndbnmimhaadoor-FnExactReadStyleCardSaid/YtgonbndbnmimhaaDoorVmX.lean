/- Regions whose order is drawn, by the sets of operations that are done: each set once. -/
import Derived.Test.YtgonbndbnmimhaaDoorVmV
set_option linter.unusedVariables false
set_option linter.unusedSimpArgs false
namespace Go.Vm
open Go
abbrev Node:=Nat × SS × List (Nat × List Prop)
abbrev Eqn:=Node × Node
def readyM (md:Region.Mode) (ops:Array Oper) (m:Nat):List Nat :=
 (List.range ops.size).filter fun i => !m.testBit i && ((ops[i]?).map (·.after.all fun e => !Region.binds md e || m.testBit e.on)).getD false
def insN (nd:Node):List Node→List Node × List Eqn
 | [] => ([nd],[])
 | x :: r => if x.1=nd.1 then (x :: r,[(nd,x)]) else (x :: (insN nd r).1,(insN nd r).2)
theorem insN_ok {nd:Node}:∀ {l:List Node},(∀ e ∈ (insN nd l).2,e.1=e.2)→nd ∈ (insN nd l).1∧∀ x ∈ l,x ∈ (insN nd l).1
 | [],_ => ⟨List.mem_singleton.2 rfl,fun x h => absurd h List.not_mem_nil⟩
 | y :: r,h => by
   unfold insN at h ⊢
   split at h
   ·rename_i hm
    rw [if_pos hm]
    have:nd=y:=h (nd,y) (List.mem_singleton.2 rfl)
    exact ⟨by rw [this]; exact List.mem_cons_self,fun x hx => hx⟩
   ·rename_i hm
    rw [if_neg hm]
    obtain ⟨h1,h2⟩:=insN_ok (l:=r) h
    exact ⟨List.mem_cons_of_mem _ h1,fun x hx => by
     rcases List.mem_cons.1 hx with rfl | hx
     ·exact List.mem_cons_self
     ·exact List.mem_cons_of_mem _ (h2 x hx)⟩
section
variable (T:Tbl) (P:Program) (N:Fr) (orc:Nat→List TV) (md:Region.Mode) (ops:Array Oper)
def expI (nd:Node):List Nat→List Node→Option (List Node × List Eqn)
 | [],acc => some (acc,[])
 | i :: is,acc => match ops[i]? with
   | none => none
   | some o => match stepG T P N orc nd.2.1 ops o with
     | none => none
     | some (S1,c1) => match expI nd is (insN (nd.1 ||| (1 <<< i),S1,insC i c1 nd.2.2) acc).1 with
       | some (acc2,e2) => some (acc2,(insN (nd.1 ||| (1 <<< i),S1,insC i c1 nd.2.2) acc).2 ++ e2)
       | none => none
def expL:List Node→List Node→Option (List Node × List Eqn)
 | [],acc => some (acc,[])
 | nd :: r,acc => match readyM md ops nd.1 with
   | [] => none
   | i :: is => match expI T P N orc ops nd (i :: is) acc with
     | some (acc1,e1) => match expL r acc1 with
       | some (acc2,e2) => some (acc2,e1 ++ e2)
       | none => none
     | none => none
def dag:Nat→List Node→Option (List Eqn × Node)
 | 0,[nd] => if readyM md ops nd.1=[] then some ([],nd) else none
 | 0,_ => none
 | n+1,layer => match expL T P N orc md ops layer [] with
   | some (next,e1) => match dag n next with
     | some (e2,fin) => some (e1 ++ e2,fin)
     | none => none
   | none => none
end
section
variable {P:Program} {T:Tbl} {Z:Fp} {F:Nat→Fp} {w0:World} {Wr Zi:Fp} {N:Fr} {S S' S1:SS} {a:Act} {w:World} {Q:Exit→Act→World→Prop}
variable {orc:Nat→List TV} {md:Region.Mode} {ops:Array Oper}
theorem expI_ok {nd:Node}:∀ {is:List Nat} {acc acc2:List Node} {e:List Eqn},expI T P N orc ops nd is acc=some (acc2,e) → (∀ x ∈ e,x.1=x.2) →
 (∀ x ∈ acc,x ∈ acc2)∧∀ i ∈ is,∃ o S1 c1,ops[i]?=some o∧stepG T P N orc nd.2.1 ops o=some (S1,c1) ∧ (nd.1 ||| (1 <<< i),S1,insC i c1 nd.2.2) ∈ acc2
 | [],acc,acc2,e,h,he => by cases h; exact ⟨fun x hx => hx,fun i hi => absurd hi List.not_mem_nil⟩
 | i :: is,acc,acc2,e,h,he => by
   simp only [expI] at h
   split at h
   ·cases h
   ·rename_i o ho
    split at h
    ·cases h
    ·rename_i S1 c1 hs
     split at h
     ·rename_i acc3 e2 hr
      cases h
      obtain ⟨h1,h2⟩:=insN_ok (nd:=(nd.1 ||| (1 <<< i),S1,insC i c1 nd.2.2)) (l:=acc) (fun x hx => he x (List.mem_append_left _ hx))
      obtain ⟨h3,h4⟩:=expI_ok hr (fun x hx => he x (List.mem_append_right _ hx))
      refine ⟨fun x hx => h3 x (h2 x hx),fun j hj => ?_⟩
      rcases List.mem_cons.1 hj with rfl | hj
      ·exact ⟨o,S1,c1,ho,hs,h3 _ h1⟩
      ·exact h4 j hj
     ·cases h
theorem expL_ok:∀ {l acc acc2:List Node} {e:List Eqn},expL T P N orc md ops l acc=some (acc2,e) → (∀ x ∈ e,x.1=x.2) →
 (∀ x ∈ acc,x ∈ acc2)∧∀ nd ∈ l,readyM md ops nd.1≠[]∧∀ i ∈ readyM md ops nd.1,∃ o S1 c1,ops[i]?=some o∧stepG T P N orc nd.2.1 ops o=some (S1,c1) ∧ (nd.1 ||| (1 <<< i),S1,insC i c1 nd.2.2) ∈ acc2
 | [],acc,acc2,e,h,he => by cases h; exact ⟨fun x hx => hx,fun i hi => absurd hi List.not_mem_nil⟩
 | nd :: r,acc,acc2,e,h,he => by
   simp only [expL] at h
   split at h
   ·cases h
   ·rename_i i is hrd
    split at h
    ·rename_i acc1 e1 h1
     split at h
     ·rename_i acc3 e2 h2
      cases h
      obtain ⟨q1,q2⟩:=expI_ok h1 (fun x hx => he x (List.mem_append_left _ hx))
      obtain ⟨q3,q4⟩:=expL_ok h2 (fun x hx => he x (List.mem_append_right _ hx))
      refine ⟨fun x hx => q3 x (q1 x hx),fun nd' hnd => ?_⟩
      rcases List.mem_cons.1 hnd with rfl | hnd
      ·rw [hrd]
       refine ⟨by simp,fun j hj => ?_⟩
       obtain ⟨o,S1,c1,k1,k2,k3⟩:=q2 j hj
       exact ⟨o,S1,c1,k1,k2,q3 _ k3⟩
      ·exact q4 nd' hnd
     ·cases h
    ·cases h
structure Listed (ops:Array Oper) (listed:Array Bool) (m:Nat):Prop where
 size:listed.size=ops.size
 bit:∀ i,listed.getD i false=m.testBit i
theorem Listed.ready {listed:Array Bool} {m:Nat} (h:Listed ops listed m):Region.ready md ops listed=readyM md ops m:=by
 unfold Region.ready readyM
 refine List.filter_congr fun i hi => ?_
 have hi':i < listed.size:=by rw [h.size]; simpa using hi
 have e1:listed.getD i true=m.testBit i:=by
  rw [← h.bit i]
  simp [Array.getD_eq_getD_getElem?,hi']
 rw [e1]
 congr 1
 cases ops[i]? with
 | none => rfl
 | some o =>
   simp only [Option.map_some,Option.getD_some]
   congr 1
   funext e
   rw [h.bit]
theorem Listed.step {listed:Array Bool} {m i:Nat} (h:Listed ops listed m) (hi:i < ops.size):Listed ops (listed.setIfInBounds i true) (m ||| (1 <<< i)) where
 size:=by simp [h.size]
 bit j:=by
  have hb:=h.bit j
  rw [Nat.testBit_or,Nat.testBit_shiftLeft,← hb]
  by_cases e:i=j
  ·subst e
   have:i < listed.size:=by rw [h.size]; exact hi
   simp [Array.getD_eq_getD_getElem?,this]
  ·have:(Nat.testBit 1 (j - i) && decide (i≤j))=false:=by
    by_cases hle:i≤j
    ·have hne:j - i≠0:=by omega
     have h1:Nat.testBit 1 (j - i)=false:=by
      exact Bool.eq_false_iff.2 (fun hh => hne (Nat.testBit_one_eq_true_iff_self_eq_zero.1 hh))
     simp [h1]
    ·simp [hle]
   simp only [Array.getD_eq_getD_getElem?,Array.getElem?_setIfInBounds_ne e]
   rw [Bool.and_comm] at this
   simp [this]
theorem Listed.none:Listed ops (Array.replicate ops.size false) 0 where
 size:=by simp
 bit i:=by
  rw [Nat.zero_testBit,Array.getD_eq_getD_getElem?]
  by_cases h:i < ops.size <;> simp [h]
theorem ready_lt {m i:Nat} (h:i ∈ readyM md ops m):i < ops.size:=by
 unfold readyM at h
 simpa using (List.mem_filter.1 h).1
end
end Go.Vm
