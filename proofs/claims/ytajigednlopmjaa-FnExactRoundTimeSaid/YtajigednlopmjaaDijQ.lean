/-
  Queues of the two ways to reckon least labels: a row without doubles, and a heap. No condition.
-/
import Derived.Test.YtajigednlopmjaaDij
set_option linter.unusedVariables false
set_option linter.unusedSimpArgs false
namespace Go.Vm
def remK (op:List Int) (k:Nat):List Int:=(op.set k (op.getD (op.length - 1) 0)).take (op.length - 1)
theorem remK_len (op:List Int) (k:Nat):(remK op k).length=op.length - 1:=by
 unfold remK; simp
theorem getD_take {α:Type} {l:List α} {n j:Nat} {d:α} (h:j < n):(l.take n).getD j d=l.getD j d:=by
 simp [List.getD_eq_getElem?_getD,List.getElem?_take,h]
theorem remK_at {op:List Int} {k j:Nat} (hk:k < op.length) (hj:j < op.length - 1):(remK op k).getD j 0=if j=k then op.getD (op.length - 1) 0 else op.getD j 0:=by
 unfold remK
 rw [getD_take hj,getD_set]
 by_cases h:k=j
 ·rw [if_pos ⟨h,hk⟩,if_pos h.symm]
 ·rw [if_neg (fun e => h e.1),if_neg (fun e => h e.symm)]
def Nd (op:List Int):Prop:=∀ i j,i < op.length→j < op.length→op.getD i 0=op.getD j 0→i=j
theorem mem_iff_getD {l:List Int} {v:Int}:v ∈ l↔∃ i,i < l.length∧l.getD i 0=v:=by
 rw [List.mem_iff_getElem]
 constructor
 ·rintro ⟨i,hi,rfl⟩; exact ⟨i,hi,by simp [List.getD_eq_getElem?_getD,hi]⟩
 ·rintro ⟨i,hi,h⟩; exact ⟨i,hi,by simpa [List.getD_eq_getElem?_getD,hi] using h⟩
theorem Nd.rem {op:List Int} {k:Nat} (h:Nd op) (hk:k < op.length):Nd (remK op k)∧∀ v,v ∈ remK op k↔v ∈ op∧v≠op.getD k 0:=by
 have hl:=remK_len op k
 refine ⟨fun i j hi hj he => ?_,fun v => ?_⟩
 ·rw [hl] at hi hj
  rw [remK_at hk hi,remK_at hk hj] at he
  by_cases h1:i=k
  ·by_cases h2:j=k
   ·omega
   ·rw [if_pos h1,if_neg h2] at he
    have:=h _ _ (by omega) (by omega) he; omega
  ·by_cases h2:j=k
   ·rw [if_neg h1,if_pos h2] at he
    have:=h _ _ (by omega) (by omega) he; omega
   ·rw [if_neg h1,if_neg h2] at he
    exact h _ _ (by omega) (by omega) he
 ·rw [mem_iff_getD,mem_iff_getD]
  constructor
  ·rintro ⟨i,hi,rfl⟩
   rw [hl] at hi
   rw [remK_at hk hi]
   by_cases h1:i=k
   ·rw [if_pos h1]
    refine ⟨⟨_,by omega,rfl⟩,fun he => ?_⟩
    have:=h _ _ (by omega) hk he; omega
   ·rw [if_neg h1]
    refine ⟨⟨_,by omega,rfl⟩,fun he => ?_⟩
    exact h1 (h _ _ (by omega) hk he)
  ·rintro ⟨⟨i,hi,rfl⟩,hne⟩
   by_cases h1:i=op.length - 1
   ·refine ⟨k,?_,?_⟩
    ·rw [hl]
     have:k≠i:=fun e => hne (by rw [e])
     omega
    ·have:k≠i:=fun e => hne (by rw [e])
     rw [remK_at hk (by omega),if_pos rfl,h1]
   ·refine ⟨i,by rw [hl]; omega,?_⟩
    have:i≠k:=fun e => hne (by rw [e])
    rw [remK_at hk (by omega),if_neg this]
theorem Nd.app {op:List Int} {v:Int} (h:Nd op) (hv:v ∉ op):Nd (op ++ [v]):=by
 have e1:∀ j,j < op.length → (op ++ [v]).getD j 0=op.getD j 0:=fun j hj => by simp [List.getD_eq_getElem?_getD,List.getElem?_append_left hj]
 have e2:(op ++ [v]).getD op.length 0=v:=by simp [List.getD_eq_getElem?_getD]
 intro i j hi hj he
 simp only [List.length_append,List.length_singleton] at hi hj
 by_cases h1:i < op.length
 ·by_cases h2:j < op.length
  ·rw [e1 i h1,e1 j h2] at he; exact h i j h1 h2 he
  ·obtain rfl:j=op.length:=by omega
   rw [e1 i h1,e2] at he
   exact absurd (mem_iff_getD.2 ⟨i,h1,he⟩) hv
 ·obtain rfl:i=op.length:=by omega
  by_cases h2:j < op.length
  ·rw [e1 j h2,e2] at he
   exact absurd (mem_iff_getD.2 ⟨j,h2,he.symm⟩) hv
  ·omega
theorem Nd.len:∀ (n:Nat) (op:List Int),Nd op → (∀ v ∈ op,0≤v∧v < (n:Int))→op.length≤n
 | 0,op,h,hv => by
   cases op with
   | nil => simp
   | cons a l => have:=hv a (by simp); omega
 | n+1,op,h,hv => by
   by_cases hm:(n:Int) ∈ op
   ·obtain ⟨k,hk,hkn⟩:=mem_iff_getD.1 hm
    obtain ⟨q1,q2⟩:=h.rem hk
    have:=Nd.len n (remK op k) q1 (fun v hv' => by
     obtain ⟨q3,q4⟩:=(q2 v).1 hv'
     have:=hv v q3
     rw [hkn] at q4; omega)
    rw [remK_len] at this; omega
   ·have:=Nd.len n op h (fun v hv' => by
     have:=hv v hv'
     have:v ≠ (n:Int):=fun e => hm (e ▸ hv')
     omega)
    omega
section
variable {G:DG} {tm ct:List Int} {dn:List Bool}
structure Row (G:DG) (tm:List Int) (dn:List Bool) (op:List Int):Prop where
 nd:Nd op
 mem:∀ v,v ∈ op↔∃ e:Nat,v = (e:Int)∧e < G.n∧0≤T tm e∧D dn e=false
theorem Row.len {op:List Int} (h:Row G tm dn op):op.length≤G.n:=h.nd.len G.n op (fun v hv => by
 obtain ⟨e,rfl,he,_⟩:=(h.mem v).1 hv; omega)
theorem Row.in_ {op:List Int} (h:Row G tm dn op) {i:Nat} (hi:i < op.length):∃ e:Nat,op.getD i 0 = (e:Int)∧e < G.n∧0≤T tm e∧D dn e=false :=
 (h.mem _).1 (mem_iff_getD.2 ⟨i,hi,rfl⟩)
theorem Row.take {op:List Int} (h:Row G tm dn op) (hl:dn.length=G.n) {k x:Nat} (hk:k < op.length) (hx:op.getD k 0 = (x:Int)):Row G tm (dn.set x true) (remK op k) where
 nd:=(h.nd.rem hk).1
 mem:=fun v => by
  rw [(h.nd.rem hk).2,h.mem,hx]
  constructor
  ·rintro ⟨⟨e,rfl,he,hf,hd⟩,hne⟩
   refine ⟨e,rfl,he,hf,?_⟩
   show (dn.set x true).getD e false=false
   rw [getD_set_other (fun e' => hne (by rw [e']))]; exact hd
  ·rintro ⟨e,rfl,he,hf,hd⟩
   have hd':(dn.set x true).getD e false=false:=hd
   rw [getD_set] at hd'
   split at hd'
   ·cases hd'
   ·rename_i hn
    refine ⟨⟨e,rfl,he,hf,hd'⟩,fun e' => hn ⟨by omega,by rw [hl]; omega⟩⟩
theorem Row.new {op:List Int} (h:Row G tm dn op) (hl:tm.length=G.n) {e:Nat} {a:Int} (he:e < G.n) (hf:T tm e < 0) (hd:D dn e=false) (ha:0≤a):Row G (tm.set e a) dn (op ++ [(e:Int)]) where
 nd:=h.nd.app fun hm => by
  obtain ⟨e',h1,h2,h3,h4⟩:=(h.mem _).1 hm
  obtain rfl:e=e':=by omega
  omega
 mem:=fun v => by
  rw [List.mem_append,h.mem,List.mem_singleton]
  constructor
  ·rintro (⟨f,rfl,h1,h2,h3⟩ | rfl)
   ·refine ⟨f,rfl,h1,?_,h3⟩
    show 0 ≤ (tm.set e a).getD f 0
    rw [getD_set]; split
    ·exact ha
    ·exact h2
   ·refine ⟨e,rfl,he,?_,hd⟩
    show 0 ≤ (tm.set e a).getD e 0
    rw [getD_set_same (by rw [hl]; exact he)]; exact ha
  ·rintro ⟨f,rfl,h1,h2,h3⟩
   have h2':0 ≤ (tm.set e a).getD f 0:=h2
   rw [getD_set] at h2'
   split at h2'
   ·rename_i hn; exact .inr (by rw [hn.1])
   ·exact .inl ⟨f,rfl,h1,h2',h3⟩
theorem Row.less {op:List Int} (h:Row G tm dn op) (hl:tm.length=G.n) {e:Nat} {a:Int} (he:e < G.n) (hf:0≤T tm e) (ha:0≤a):Row G (tm.set e a) dn op where
 nd:=h.nd
 mem:=fun v => by
  rw [h.mem]
  have:∀ f,0≤T (tm.set e a) f↔0≤T tm f:=fun f => by
   show 0 ≤ (tm.set e a).getD f 0↔_
   rw [getD_set]; split
   ·rename_i hn; rw [← hn.1]; exact ⟨fun _ => hf,fun _ => ha⟩
   ·exact Iff.rfl
  constructor
  ·rintro ⟨f,h0,h1,h2,h3⟩; exact ⟨f,h0,h1,(this f).2 h2,h3⟩
  ·rintro ⟨f,h0,h1,h2,h3⟩; exact ⟨f,h0,h1,(this f).1 h2,h3⟩
structure Heap (G:DG) (tm ct:List Int) (dn:List Bool) (xs:List It):Prop where
 hp:HP xs
 ok:∀ j,j < xs.length→∃ e:Nat,(X xs j).2.2 = (e:Int)∧e < G.n∧0≤T tm e∧Le (T tm e) (T ct e) (X xs j).1 (X xs j).2.1
 all:∀ e,e < G.n→0≤T tm e→D dn e=false→Has xs (T tm e,T ct e,(e:Int))
end
end Go.Vm
