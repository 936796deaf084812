/- The row that is sorted, as what the sort's functions stand over. -/
import Derived.Test.YtajigednlopmjaaVmGh
import Derived.Lib.ReflectliteSwap
import Derived.Sort.AssemblyPlain
set_option linter.unusedVariables false
set_option linter.unusedSimpArgs false
namespace Go.Vm
open Go Go.Extern Go.Lib
def setL (L:List Value) (o:Nat) (vs:List Value):List Value:=L.take o ++ vs ++ L.drop (o+vs.length)
theorem setL_nil (L:List Value) (o:Nat):setL L o []=L:=by simp [setL]
theorem setL_cons {L:List Value} {o:Nat} {v:Value} {r:List Value} (h:o < L.length):setL L o (v :: r)=setL (L.set o v) (o+1) r:=by
 have e1:List.take (o+1) (L.set o v)=List.take o L ++ [v]:=by
  rw [List.take_add_one,List.getElem?_set_self (by simpa using h),List.take_set_of_le (Nat.le_refl _)]
  rfl
 have e2:List.drop (o+1+r.length) (L.set o v)=List.drop (o + (r.length+1)) L:=by
  rw [List.drop_set_of_lt (by omega)]
  congr 1
  omega
 unfold setL
 rw [e1,e2,List.length_cons,List.append_assoc (List.take o L) [v] r]
 simp
theorem heap_setCells (b:Nat) (t:TypeId):∀ (vs:List Value) (o:Nat) (w:World) (L:List Value),w.heap[b]?=some (.cells L.toArray t (0,0))→o+vs.length≤L.length →
 (w.setCells b o vs).heap[b]?=some (.cells (setL L o vs).toArray t (0,0)) ∧ (∀ i,i≠b → (w.setCells b o vs).heap[i]?=w.heap[i]?) ∧ (w.setCells b o vs).heap.size=w.heap.size ∧ (w.setCells b o vs).os=w.os ∧ (w.setCells b o vs).tape=w.tape ∧ (w.setCells b o vs).output=w.output
 | [],o,w,L,h,hl => ⟨by rw [setL_nil]; exact h,fun _ _ => rfl,rfl,rfl,rfl,rfl⟩
 | v :: r,o,w,L,h,hl => by
   have h1:=heap_setCell_same w b o L.toArray t v h
   have h2:(w.setCell ⟨b,o,none⟩ v).heap[b]?=some (.cells (L.set o v).toArray t (0,0)):=by
    rw [h1]
    congr 2
    apply Array.toList_inj.1
    simp
   simp only [List.length_cons] at hl
   obtain ⟨q1,q2,q3,q4,q5,q6⟩:=heap_setCells b t r (o+1) (w.setCell ⟨b,o,none⟩ v) (L.set o v) h2 (by simp; omega)
   refine ⟨by rw [setL_cons (by omega)]; exact q1,fun i hi => ?_,?_,q4,q5,q6⟩
   ·show ((w.setCell ⟨b,o,none⟩ v).setCells b (o+1) r).heap[i]?=_
    rw [q2 i hi,heap_setCell_other _ _ _ _ hi]
   ·show ((w.setCell ⟨b,o,none⟩ v).setCells b (o+1) r).heap.size=_
    rw [q3]; simp [World.setCell]
theorem setL_flat {sz:Nat} {rest:List Value}:∀ (LL:List (List Value)) (i:Nat) (v:List Value),(∀ l ∈ LL,l.length=sz)→i < LL.length→v.length=sz→setL (LL.flatten ++ rest) (i*sz) v = (LL.set i v).flatten ++ rest
 | [],i,v,h,hi,hv => by simp at hi
 | l :: LL,0,v,h,hi,hv => by
   have hl:=h l List.mem_cons_self
   simp only [setL,Nat.zero_mul,List.take_zero,List.nil_append,List.flatten_cons,List.append_assoc,Nat.zero_add,List.set_cons_zero]
   rw [List.drop_append_of_le_length (by omega),List.drop_eq_nil_of_le (by omega)]
   simp
 | l :: LL,i+1,v,h,hi,hv => by
   have hl:=h l List.mem_cons_self
   have ih:=setL_flat (sz:=sz) (rest:=rest) LL i v (fun x hx => h x (List.mem_cons_of_mem _ hx)) (by simpa using hi) hv
   simp only [List.flatten_cons,List.append_assoc,List.set_cons_succ]
   rw [← ih]
   unfold setL
   have e1:(i+1)*sz=l.length+i*sz:=by rw [Nat.add_mul,Nat.one_mul,hl]; omega
   rw [e1,List.take_append,List.take_of_length_le (by omega),Nat.add_sub_cancel_left,Nat.add_assoc,List.drop_append,List.drop_eq_nil_of_le (by omega),Nat.add_sub_cancel_left]
   simp
def rowC (cells:Nat→List Value) (X:Array Nat):List Value:=(X.toList.map cells).flatten
theorem swp_list {X:Array Nat} {i j:Nat} (hi:i < X.size) (hj:j < X.size):(Go.Sort.swp X i j).toList = (X.toList.set i X[j]!).set j X[i]! := by
 unfold Go.Sort.swp
 simp
theorem swp_perm {X:Array Nat} {i j:Nat} (hi:i < X.size) (hj:j < X.size):(Go.Sort.swp X i j).toList.Perm X.toList:=by
 have h:=(Go.Sort.swp_permIn X 0 X.size i j (Nat.zero_le _) hi (Nat.zero_le _) hj (Nat.le_refl _)).2.2
 have e1:(Go.Sort.swp X i j).extract 0 X.size=Go.Sort.swp X i j:=by
  rw [← Go.Sort.size_swp X i j]; simp
 rw [e1] at h
 simpa using h
theorem rowC_swp {cells:Nat→List Value} {X:Array Nat} {sz i j:Nat} {rest:List Value} (hc:∀ q,(cells q).length=sz) (hi:i < X.size) (hj:j < X.size) :
 setL (setL (rowC cells X ++ rest) (i*sz) (cells X[j]!)) (j*sz) (cells X[i]!)=rowC cells (Go.Sort.swp X i j) ++ rest:=by
 unfold rowC
 rw [setL_flat (sz:=sz) _ i _ (fun l hl => by obtain ⟨q,_,rfl⟩:=List.mem_map.1 hl; exact hc q) (by simpa using hi) (hc _),setL_flat (sz:=sz) _ j _ (fun l hl => by
  rcases List.mem_or_eq_of_mem_set hl with h | rfl
  ·obtain ⟨q,_,rfl⟩:=List.mem_map.1 h; exact hc q
  ·exact hc _) (by simpa using hj) (hc _),swp_list hi hj,List.map_set,List.map_set]
theorem rowC_len {cells:Nat→List Value} {sz:Nat} (hc:∀ q,(cells q).length=sz) (X:Array Nat):(rowC cells X).length=X.size*sz:=by
 unfold rowC
 rw [List.length_flatten,List.map_map]
 have:(List.length ∘ cells)=fun _ => sz:=funext fun q => hc q
 rw [this,List.map_const',List.sum_replicate_nat]
 simp
theorem rowC_get {cells:Nat→List Value} {sz:Nat} (hc:∀ q,(cells q).length=sz) {rest:List Value}:∀ {l:List Nat} {i u:Nat} {v:Value} {q:Nat},l[i]?=some q → (cells q)[u]?=some v → ((l.map cells).flatten ++ rest)[i*sz+u]?=some v
 | [],i,u,v,q,h,_ => by simp at h
 | x :: l,0,u,v,q,h,hv => by
   simp only [List.getElem?_cons_zero,Option.some.injEq] at h
   subst h
   have hu:=(List.getElem?_eq_some_iff.1 hv).1
   simp only [List.map_cons,List.flatten_cons,Nat.zero_mul,Nat.zero_add,List.append_assoc]
   rw [List.getElem?_append_left hu,hv]
 | x :: l,i+1,u,v,q,h,hv => by
   simp only [List.getElem?_cons_succ] at h
   have ih:=rowC_get hc (rest:=rest) h hv
   simp only [List.map_cons,List.flatten_cons,List.append_assoc]
   rw [List.getElem?_append_right (by rw [hc,Nat.add_mul]; omega),hc,show (i+1)*sz+u - sz=i*sz+u by rw [Nat.add_mul]; omega]
   exact ih
def soFam (w1:World) (B:Option Nat) (te:TypeId) (cells:Nat→List Value) (rest:List Value) (n:Nat) (lt:Nat→Nat→Bool):Fam where
 J X w f:=(∀ i,f i↔i < w1.heap.size)∧X.toList.Perm (List.range n) ∧ (∀ i,i < w1.heap.size→B≠some i→w.heap[i]?=w1.heap[i]?)∧∀ b,B=some b→b < w1.heap.size∧w.heap[b]?=some (.cells (rowC cells X ++ rest).toArray te (0,0))
 lt:=lt
 low:=by
  rintro X w f ⟨h1,_,h2,h3⟩ i hi
  have hi:=(h1 i).1 hi
  by_cases hb:B=some i
  ·exact (Array.getElem?_eq_some_iff.1 (h3 i hb).2).1
  ·have:=h2 i hi hb
   rw [Array.getElem?_eq_getElem hi] at this
   exact (Array.getElem?_eq_some_iff.1 this).1
 stay:=by
  rintro X w w' f hs ⟨h1,h0,h2,h3⟩
  refine ⟨h1,h0,fun i hi hb => ?_,fun b hb => ⟨(h3 b hb).1,?_⟩⟩
  ·rw [hs i ((h1 i).2 hi)]; exact h2 i hi hb
  ·rw [hs b ((h1 b).2 (h3 b hb).1)]; exact (h3 b hb).2
theorem perm_size {X:Array Nat} {n:Nat} (h:X.toList.Perm (List.range n)):X.size=n:=by
 have:=h.length_eq
 simpa using this
theorem so_swap {P:Program} {f:Nat} {gS:Bool} (hx:∀ args W,(callFunc f args).run P W = ((ReflectliteSwapper.swap gS args).run P W).andThen fun v w' => .ok (.value v) w')
 {e:TypeId} {ie:TypeInfo} (hie:P.info? e=some ie) {w1:World} {b c te n sz:Nat} {cells:Nat→List Value} {rest:List Value} {lt:Nat→Nat→Bool} (hsz:ie.size=sz) (hc:∀ q,(cells q).length=sz) (h1:∀ q,∀ v ∈ cells q,v.oneCell'=true)
 (hk:(∀ w,(isAgg e).run P w=.ok true w) ∨ (sz=1∧∀ w,(isAgg e).run P w=.ok false w)) {X:Array Nat} {i j:Int} (hX:inX X i j) :
 GSwap P (.func (.func f) #[] #[.slice (some ⟨b,0,none⟩) n c,typeHandle P e]) (soFam w1 (some b) te cells rest n lt) X i j (swpF X i j):=by
 refine ⟨f,_,rfl,?_⟩
 rintro w ff ⟨j1,j2,j3,j4⟩
 obtain ⟨hbs,hrow⟩:=j4 b rfl
 have hn:=perm_size j2
 obtain ⟨⟨i0,i1⟩,i2,i3⟩:=hX
 obtain ⟨p,rfl⟩:∃ p:Nat,i = (p:Int):=⟨i.toNat,by omega⟩
 obtain ⟨q,rfl⟩:∃ q:Nat,j = (q:Int):=⟨j.toNat,by omega⟩
 have hp:p < X.size:=by omega
 have hq:q < X.size:=by omega
 have hlen:(rowC cells X ++ rest).length=X.size*sz+rest.length:=by rw [List.length_append,rowC_len hc]
 have cell:∀ (x u:Nat) (v:Value),x < X.size → (cells X[x]!)[u]?=some v→w.cell? ⟨b,0+x*sz+u,none⟩=some v:=by
  intro x u v hx' hv
  have h:=rowC_get hc (rest:=rest) (l:=X.toList) (i:=x) (u:=u) (q:=X[x]!) (by simp [hx']) hv
  unfold World.cell?
  rw [hrow]
  simpa [rowC] using h
 have fz:∀ o,w.frozen? ⟨b,o,none⟩=false:=fun o => frozen_of_row w b o _ te hrow
 have b1:p*sz+sz≤X.size*sz:=by rw [← Nat.succ_mul]; exact Nat.mul_le_mul_right _ hp
 have b2:q*sz+sz≤X.size*sz:=by rw [← Nat.succ_mul]; exact Nat.mul_le_mul_right _ hq
 obtain ⟨q1,q2,q3,q4,q5,q6⟩:=heap_setCells b te (cells X[q]!) (p*sz) w (rowC cells X ++ rest) hrow (by rw [hc,hlen]; omega)
 have hlen2:(setL (rowC cells X ++ rest) (p*sz) (cells X[q]!)).length = (rowC cells X ++ rest).length:=by
  unfold setL
  simp only [List.length_append,List.length_take,List.length_drop,hc]
  rw [List.length_append] at hlen
  omega
 obtain ⟨r1,r2,r3,r4,r5,r6⟩:=heap_setCells b te (cells X[p]!) (q*sz) _ _ q1 (by rw [hc,hlen2,hlen]; omega)
 have hrun:(ReflectliteSwapper.swap gS #[.int .i64 (p:Int),.int .i64 (q:Int),.slice (some ⟨b,0,none⟩) n c,typeHandle P e]).run P w
  = .ok (.tuple #[]) ((w.setCells b (p*sz) (cells X[q]!)).setCells b (q*sz) (cells X[p]!)):=by
  rcases hk with hk | ⟨hs1,hk⟩
  ·have:=run_swap_cells (P:=P) gS e ie hie hk b 0 n c p q (by omega) (by omega) (cells X[p]!) (cells X[q]!) (by rw [hc,hsz]) (by rw [hc,hsz]) (h1 _) (h1 _) w
    (fun u v hv => by rw [hsz]; exact cell p u v hp hv) (fun u v hv => by rw [hsz]; exact cell q u v hq hv) (fun u _ => fz _) (fun u _ => fz _)
   rw [this,hsz,Nat.zero_add,Nat.zero_add]
  ·subst hs1
   obtain ⟨x,hx1⟩:∃ x,cells X[p]! = [x]:=List.length_eq_one_iff.1 (hc _)
   obtain ⟨y,hy1⟩:∃ y,cells X[q]! = [y]:=List.length_eq_one_iff.1 (hc _)
   have cx:=cell p 0 x hp (by rw [hx1]; rfl)
   have cy:=cell q 0 y hq (by rw [hy1]; rfl)
   have:=run_swap_one (P:=P) gS e ie hie hsz hk b 0 n c p q (by omega) (by omega) x y (h1 X[p]! x (by rw [hx1]; simp)) (h1 X[q]! y (by rw [hy1]; simp)) w (by simpa using cx) (by simpa using cy) (fz _) (fz _)
   rw [this,hx1,hy1]
   simp [World.setCells]
 refine ⟨_,ff,by rw [hx,show (#[Value.int .i64 (p:Int),Value.int .i64 (q:Int)] ++ #[Value.slice (some ⟨b,0,none⟩) n c,typeHandle P e])=#[.int .i64 p,.int .i64 q,.slice (some ⟨b,0,none⟩) n c,typeHandle P e] from rfl,hrun]; rfl,⟨j1,?_,?_,?_⟩,fun i hi => .inl hi,?_⟩
 ·exact (swp_perm hp hq).trans j2
 ·intro i hi hb
  have hib:i≠b:=fun e => hb (by rw [e])
  rw [r2 i hib,q2 i hib]
  exact j3 i hi hb
 ·rintro b' hb'
  cases hb'
  refine ⟨hbs,?_⟩
  rw [r1,rowC_swp hc hp hq]
  rfl
 ·refine ⟨by rw [r4,q4],by rw [r5,q5],by rw [r6,q6],by rw [r3,q3]; exact Nat.le_refl _,fun i hi hu => ?_⟩
  have hib:i≠b:=fun e => hu ((j1 i).2 (by rw [e]; exact hbs))
  rw [r2 i hib,q2 i hib]
theorem rrep_split {α:Type} {R:α→List Value→Fp→Prop} {z:List Value}:∀ {xs:List α} {inner:List Value} {fr:Fp},RRep R xs inner fr→∃ (c:Nat→List Value) (f:Nat→Fp),inner = ((List.range xs.length).map c).flatten ∧ (∀ (q:Nat) (x:α),xs[q]?=some x→R x (c q) (f q)) ∧
 (∀ q,xs.length≤q→c q=z) ∧ (∀ i,fr i↔∃ q,q < xs.length∧f q i)∧∀ p q i,p < xs.length→q < xs.length→f p i→f q i→p=q
 | [],inner,fr,h => ⟨fun _ => z,fun _ => fun _ => False,by obtain ⟨rfl,_⟩:=h; rfl,fun q x hq => by simp at hq,fun _ _ => rfl,fun i => ⟨fun hi => absurd hi (h.2 i),fun ⟨q,hq,_⟩ => by simp at hq⟩,fun p q i hp => by simp at hp⟩
 | x :: xs,inner,fr,h => by
   obtain ⟨c1,c2,f1,f2,rfl,he,hd,h1,h2⟩:=h
   obtain ⟨c,f,q1,q2,q3,q4,q5⟩:=rrep_split (z:=z) h2
   refine ⟨fun q => match q with | 0 => c1 | q+1 => c q,fun q => match q with | 0 => f1 | q+1 => f q,?_,?_,?_,?_,?_⟩
   ·rw [List.length_cons,List.range_succ_eq_map,List.map_cons,List.flatten_cons,List.map_map,q1]
    rfl
   ·intro q y hq
    cases q with
    | zero => simp only [List.getElem?_cons_zero,Option.some.injEq] at hq; subst hq; exact h1
    | succ q => exact q2 q y (by simpa using hq)
   ·intro q hq
    cases q with
    | zero => simp at hq
    | succ q => exact q3 q (by simpa using hq)
   ·intro i
    constructor
    ·intro hi
     rcases (he i).1 hi with h' | h'
     ·exact ⟨0,by simp,h'⟩
     ·obtain ⟨q,hq,hf⟩:=(q4 i).1 h'
      exact ⟨q+1,by simpa using hq,hf⟩
    ·rintro ⟨q,hq,hf⟩
     cases q with
     | zero => exact (he i).2 (.inl hf)
     | succ q => exact (he i).2 (.inr ((q4 i).2 ⟨q,by simpa using hq,hf⟩))
   ·intro p q i hp hq hfp hfq
    cases p with
    | zero =>
      cases q with
      | zero => rfl
      | succ q => exact absurd ((q4 i).2 ⟨q,by simpa using hq,hfq⟩) (hd i hfp)
    | succ p =>
      cases q with
      | zero => exact absurd ((q4 i).2 ⟨p,by simpa using hp,hfp⟩) (hd i hfq)
      | succ q => rw [q5 p q i (by simpa using hp) (by simpa using hq) hfp hfq]
theorem rrep_join {α:Type} {R:α→List Value→Fp→Prop} {xs:List α} {d:α} {c:Nat→List Value} {f:Nat→Fp} (h1:∀ (q:Nat) (x:α),xs[q]?=some x→R x (c q) (f q)) (h2:∀ p q i,p < xs.length→q < xs.length→f p i→f q i→p=q) :
 ∀ {l:List Nat},l.Nodup → (∀ q ∈ l,q < xs.length)→RRep R (l.map fun q => xs.getD q d) ((l.map c).flatten) (fun i => ∃ q ∈ l,f q i)
 | [],_,_ => ⟨rfl,fun i ⟨q,hq,_⟩ => absurd hq List.not_mem_nil⟩
 | q :: l,hn,hl => by
   obtain ⟨n1,n2⟩:=List.nodup_cons.1 hn
   have hq:=hl q List.mem_cons_self
   refine ⟨c q,(l.map c).flatten,f q,fun i => ∃ p ∈ l,f p i,rfl,fun i => ⟨?_,?_⟩,?_,h1 q _ (by show xs[q]?=some (xs.getD q d); rw [List.getD_eq_getElem?_getD,List.getElem?_eq_getElem hq]; rfl),rrep_join h1 h2 n2 (fun p hp => hl p (List.mem_cons_of_mem _ hp))⟩
   ·rintro ⟨p,hp,hf⟩
    rcases List.mem_cons.1 hp with rfl | hp
    ·exact .inl hf
    ·exact .inr ⟨p,hp,hf⟩
   ·rintro (hf | ⟨p,hp,hf⟩)
    ·exact ⟨q,List.mem_cons_self,hf⟩
    ·exact ⟨p,List.mem_cons_of_mem _ hp,hf⟩
   ·rintro i hf ⟨p,hp,hf2⟩
    have:=h2 q p i hq (hl p (List.mem_cons_of_mem _ hp)) hf hf2
    exact n1 (this ▸ hp)
def getX {α:Type} (d:α) (xs:List α) (X:Array Nat):List α:=X.toList.map fun q => xs.getD q d
structure SoRow (Z:Fp) (w1:World) (te:TypeId) (e:Sh) (t:TypeId) (xs:List e.den) (vk:Value) (Fk:Fp) (B:Option Nat) (A:Option Addr) (cp:Nat) (c:Nat→List Value) (rest:List Value):Prop where
 cell:∃ g,vk=.pointer (some ⟨g,0,none⟩)∧w1.heap[g]?=some (.cells #[.slice A xs.length cp] t (0,0))∧B≠some g
 sz:∀ q,(c q).length=e.size
 one:∀ q,∀ v ∈ c q,v.oneCell'=true
 nil:B=none→xs.length=0
 blk:∀ b,B=some b→A=some ⟨b,0,none⟩∧Fk b∧w1.heap[b]?=some (.cells (rowC c (Array.range xs.length) ++ rest).toArray te (0,0))
 rep:∀ (X:Array Nat) (w:World),X.toList.Perm (List.range xs.length) → (∀ i,i < w1.heap.size→B≠some i→w.heap[i]?=w1.heap[i]?) → (∀ b,B=some b→w.heap[b]?=some (.cells (rowC c X ++ rest).toArray te (0,0)))→VRep Z w (.pt true t (.sl true te e)) (some (getX e.dflt xs X)) vk Fk
section
variable {P:Program} {T:Tbl} {Z:Fp} {F:Nat→Fp} {w0:World} {Wr Zi:Fp} {N:Fr} {S S' S1:SS} {a:Act} {w1:World}
theorem so_row (h:RelX Z F w0 Wr Zi N S a w1) {k t te:Nat} {e:Sh} {xs:List e.den} (hg:S.get k=some (.val (.pt true t (.sl true te e)) (some xs))):∃ vk B A cp c rest,a.tmps[k]?=some vk∧SoRow Z w1 te e t xs vk (F k) B A cp c rest:=by
 obtain ⟨vk,hvk,cs0,⟨v,inner0,fr0,rfl,⟨sv,inner,fr,rfl,hrr,hown,hef,hdf⟩,g,hv,hcell,heg,hng⟩,hval⟩:=h.rep k _ (SS.get_mem hg)
 obtain rfl:v=vk:=by simpa [ValOf] using hval
 subst hv
 obtain ⟨c,f,c1,c2,c3,c4,c5⟩:=rrep_split (z:=e.zeros) hrr
 have hlen:∀ q,(c q).length=e.size:=fun q => by
  by_cases hq:q < xs.length
  ·exact CRep.length (c2 q _ (List.getElem?_eq_getElem hq))
  ·rw [c3 q (by omega)]; exact CRep.length (Sh.zeros_rep Z w1 e)
 have hone:∀ q,∀ v ∈ c q,v.oneCell'=true:=fun q => by
  by_cases hq:q < xs.length
  ·exact CRep.one (c2 q _ (List.getElem?_eq_getElem hq))
  ·rw [c3 q (by omega)]; exact CRep.one (Sh.zeros_rep Z w1 e)
 have hZb:∀ i,F k i→¬ Z i:=fun i => h.nz k i
 have hgl:=h.lt k g ((heg g).2 (.inl rfl))
 have nodup:∀ X:Array Nat,X.toList.Perm (List.range xs.length)→X.toList.Nodup∧∀ q ∈ X.toList,q < xs.length:=fun X hX => ⟨hX.nodup_iff.2 List.nodup_range,fun q hq => List.mem_range.1 (hX.mem_iff.1 hq)⟩
 have frX:∀ X:Array Nat,X.toList.Perm (List.range xs.length)→∀ i,(∃ q ∈ X.toList,f q i)↔fr i:=fun X hX i => by
  rw [c4 i]
  constructor
  ·rintro ⟨q,hq,hf⟩; exact ⟨q,List.mem_range.1 (hX.mem_iff.1 hq),hf⟩
  ·rintro ⟨q,hq,hf⟩; exact ⟨q,hX.mem_iff.2 (List.mem_range.2 hq),hf⟩
 have elem:∀ (w:World) (B:Option Nat),(∀ b,B=some b→F k b∧¬ fr b) → (∀ i,i < w1.heap.size→B≠some i→w.heap[i]?=w1.heap[i]?)→∀ (q:Nat) (x:e.den),xs[q]?=some x→CRep Z w e x (c q) (f q):=by
  intro w B hB hw q x hx
  refine CRep.same (fun _ => id) (fun i hi => hw i (h.zlt i hi) (fun e => ?_)) (fun i hi => ?_) (c2 q x hx)
  ·exact hZb i (hB i e).1 hi
  ·have hfr:fr i:=(c4 i).2 ⟨q,(List.getElem?_eq_some_iff.1 hx).1,hi⟩
   have hFk:F k i:=(heg i).2 (.inr ((hef i).2 (.inr hfr)))
   exact hw i (h.lt k i hFk) (fun e => (hB i e).2 hfr)
 rcases hown with ⟨hl,⟨rfl,h0⟩ | ⟨b,cap,cur,rfl,_,hb,hncap,hcap,hcs,htk⟩⟩
 ·have hx0:xs.length=0:=h0
  refine ⟨.pointer (some ⟨g,0,none⟩),none,none,0,c,[],hvk,⟨⟨g,rfl,by rw [hx0]; exact hcell,by simp⟩,hlen,hone,fun _ => hx0,(fun b hb => by cases hb),?_⟩⟩
  intro X w hX hw _
  have hXn:X.toList=[]:=by
   have:=hX.length_eq
   rw [hx0] at this
   simpa using this
  have hw':∀ i,i < w1.heap.size→w.heap[i]?=w1.heap[i]?:=fun i hi => hw i hi (by simp)
  have hfr:∀ i,¬ fr i:=fun i hi => by
   obtain ⟨q,hq,_⟩:=(c4 i).1 hi
   omega
  refine ⟨_,⟨_,_,fr0,rfl,⟨_,[],fr,rfl,?_,⟨by simp [getX,hXn],.inl ⟨rfl,by simp [getX,hXn]⟩⟩,hef,hdf⟩,g,rfl,by rw [hw' g hgl]; exact hcell,heg,hng⟩,hval⟩
  unfold getX
  rw [hXn]
  exact ⟨rfl,hfr⟩
 ·have hbf:fr0 b:=(hef b).2 (.inl rfl)
  have hFb:F k b:=(heg b).2 (.inr hbf)
  have hgb:g≠b:=fun e => hng (by rw [e]; exact hbf)
  have hfrb:¬ fr b:=fun hh => hdf b rfl hh
  have hcur:cur.toList=inner ++ cur.toList.drop (xs.length*e.size):=by rw [← htk,List.take_append_drop]
  have hrc:rowC c (Array.range xs.length)=inner:=by rw [c1]; unfold rowC; simp
  refine ⟨.pointer (some ⟨g,0,none⟩),some b,some ⟨b,0,none⟩,cap,c,cur.toList.drop (xs.length*e.size),hvk,⟨⟨g,rfl,hcell,fun e => hgb (by simpa using e.symm)⟩,hlen,hone,(fun e => by cases e),?_,?_⟩⟩
  ·rintro b' e
   cases e
   refine ⟨rfl,hFb,?_⟩
   rw [hrc,← hcur]
   simpa using hb
  ·intro X w hX hw hwb
   have hXs:=perm_size hX
   obtain ⟨nd,ml⟩:=nodup X hX
   have hel:=elem w (some b) (fun b' e => by cases e; exact ⟨hFb,hfrb⟩) hw
   have hj:=rrep_join (d:=e.dflt) hel c5 nd ml
   have hext:(fun i => ∃ q ∈ X.toList,f q i)=fr:=funext fun i => propext (frX X hX i)
   rw [hext] at hj
   have hlx:(getX e.dflt xs X).length=xs.length:=by unfold getX; simp [hXs]
   have hrl:(rowC c X).length=xs.length*e.size:=by rw [rowC_len hlen,hXs]
   refine ⟨_,⟨_,_,fr0,rfl,⟨_,(X.toList.map c).flatten,fr,rfl,hj,⟨?_,.inr ⟨b,cap,(rowC c X ++ cur.toList.drop (xs.length*e.size)).toArray,by rw [hlx],Nat.zero_le _,hwb b rfl,by rw [hlx]; exact hncap,hcap,?_,?_⟩⟩,hef,hdf⟩,g,rfl,by rw [hw g hgl (fun e => hgb (by simpa using e.symm))]; exact hcell,heg,hng⟩,hval⟩
   ·rw [hlx]; exact hrl
   ·have h1:cur.toList.length=cap*e.size:=by simpa using hcs
    have h2:xs.length*e.size≤cap*e.size:=Nat.mul_le_mul_right _ hncap
    simp only [List.size_toArray,List.length_append,List.length_drop]
    omega
   ·rw [hlx]
    have:(rowC c X) = (X.toList.map c).flatten:=rfl
    simp only []
    rw [List.take_append_of_le_length (by omega),← this,List.take_of_length_le (by omega)]
end
section
variable {P:Program} {T:Tbl} {Z:Fp} {F:Nat→Fp} {w0:World} {Wr Zi:Fp} {N:Fr} {S S' S1:SS} {a:Act} {w1:World}
theorem so_size {B:Option Nat} {te:TypeId} {c:Nat→List Value} {rest:List Value} {n:Nat} {lt:Nat→Nat→Bool} {X:Array Nat} {w:World} {f:Fp} (h:(soFam w1 B te c rest n lt).J X w f):w1.heap.size≤w.heap.size:=by
 rcases Nat.eq_zero_or_pos w1.heap.size with h0 | h0
 ·omega
 ·have:=(soFam w1 B te c rest n lt).low X w f h (w1.heap.size - 1) ((h.1 _).2 (by omega))
  omega
theorem so_turn (h:RelX Z F w0 Wr Zi N S a w1) {k t te:Nat} {e:Sh} {xs:List e.den} {vk:Value} {B:Option Nat} {A:Option Addr} {cp:Nat} {c:Nat→List Value} {rest:List Value} (hvk:a.tmps[k]?=some vk) (hr:SoRow Z w1 te e t xs vk (F k) B A cp c rest) {lt:Nat→Nat→Bool}
 {X:Array Nat} {w:World} {f:Fp} (hJ:(soFam w1 B te c rest xs.length lt).J X w f) (hos:w.os=w1.os) (htp:w.tape=w1.tape) (hout:w.output=w1.output) :
 RelX Z F w0 Wr Zi N (S.put k (.val (.pt true t (.sl true te e)) (some (getX e.dflt xs X)))) a w:=by
 obtain ⟨j1,j2,j3,j4⟩:=hJ
 have hrep:=hr.rep X w j2 j3 (fun b hb => (j4 b hb).2)
 have hgr:Grow (fun i => B=some i) w1 w:=⟨hos,htp,hout,so_size (lt:=lt) ⟨j1,j2,j3,j4⟩,fun i hi hn => j3 i hi hn⟩
 have h2:=h.turn (k:=k) (s:=.pt true t (.sl true te e)) (x:=some (getX e.dflt xs X)) (v:=vk) (w':=w) (f:=F k) (U:=fun i => B=some i) (Zn:=fun _ => False) hvk hgr (fun i hi => (hr.blk i hi).2.1) (fun i hi => hi.elim)
  (fun i hi => ⟨Nat.lt_of_lt_of_le (h.lt k i hi) hgr.size,.inl hi,id⟩) (VRep.same (fun i hi => .inl hi) (fun i _ => rfl) (fun i _ => rfl) hrep)
 have e1:(fun i => Z i∨False)=Z:=funext fun i => propext ⟨fun h => h.elim id False.elim,.inl⟩
 have e2:(fun t => if t=k then F k else F t)=F:=funext fun t => by
  by_cases ht:t=k
  ·rw [if_pos ht,ht]
  ·rw [if_neg ht]
 rw [e1,e2] at h2
 exact h2
theorem so_less (h:RelX Z F w0 Wr Zi N S a w1) {k t te:Nat} {e:Sh} {xs:List e.den} {vk:Value} {B:Option Nat} {A:Option Addr} {cp:Nat} {c:Nat→List Value} {rest:List Value} (hvk:a.tmps[k]?=some vk) (hr:SoRow Z w1 te e t xs vk (F k) B A cp c rest) {lt:Nat→Nat→Bool}
 {ops : List Operand} {g : Nat} (hfn : ∃ fn, P.funcs[g]? = some fn ∧ (fn.name == "runtime.NumGoroutine") = false ∧ fn.body.isSome = true)
 (hcl:∀ X:Array Nat,X.toList.Perm (List.range xs.length)→∃ caps cs,capsO T (S.put k (.val (.pt true t (.sl true te e)) (some (getX e.dflt xs X)))) ops=some caps∧capsV (S.put k (.val (.pt true t (.sl true te e)) (some (getX e.dflt xs X)))) caps=some cs ∧
  ∀ i j:Nat,i < X.size→j < X.size→PCall P g (⟨.int .i64,(i:Int)⟩ :: ⟨.int .i64,(j:Int)⟩ :: cs) [⟨.bool,lt X[i]! X[j]!⟩]) :
 ∀ (X:Array Nat) (i j:Int),inX X i j→GLess P (.func (.func g) #[] (ops.map a.eval).toArray) (soFam w1 B te c rest xs.length lt) X i j (lessF (soFam w1 B te c rest xs.length lt) X i j):=by
 intro X i j hX
 refine ⟨g,_,rfl,hfn,?_⟩
 intro w f hJ
 obtain ⟨⟨i0,i1⟩,i2,i3⟩:=hX
 obtain ⟨p,rfl⟩:∃ p:Nat,i = (p:Int):=⟨i.toNat,by omega⟩
 obtain ⟨q,rfl⟩:∃ q:Nat,j = (q:Int):=⟨j.toNat,by omega⟩
 obtain ⟨caps,cs,hco,hcv,hpc⟩:=hcl X hJ.2.1
 have hJ2:(soFam w1 B te c rest xs.length lt).J X { w1 with heap:=w.heap } f:=hJ
 have h2:=so_turn (w:={ w1 with heap:=w.heap }) h hvk hr hJ2 rfl rfl rfl
 obtain ⟨hl,hrp⟩:=capsO_rep h2 hco
 have hv:=capsV_rep h2 hcv (vs:=ops.map a.eval) (by rw [List.length_map,hl]) hrp
 have hv2:VReps (fun i => i < w1.heap.size) w cs (ops.map a.eval) (fun _ => False):=VReps.same (Z:=fun i => Z i∨∃ s,F s i) (Z':=fun i => i < w1.heap.size) (w:={ w1 with heap:=w.heap }) (w':=w) (fun i hi => by
  rcases hi with hi | ⟨s,hi⟩
  ·exact h.zlt i hi
  ·exact h.lt s i hi) (fun i _ => rfl) (fun i hi => hi.elim) hv
 obtain ⟨_,hcall⟩:=hpc p q (by omega) (by omega)
 have hargs:VReps (fun i => i < w1.heap.size) w (⟨.int .i64,(p:Int)⟩ :: ⟨.int .i64,(q:Int)⟩ :: cs) (.int .i64 (p:Int) :: .int .i64 (q:Int) :: ops.map a.eval) (fun _ => False) :=
  vreps_cons ⟨_,⟨rfl,fun _ => id⟩,rfl⟩ (vreps_cons ⟨_,⟨rfl,fun _ => id⟩,rfl⟩ hv2)
 have hsz:=so_size hJ
 have hc:=hcall _ w _ (fun i hi => Nat.lt_of_lt_of_le hi hsz) hargs
 have harr:(#[Value.int .i64 (p:Int),Value.int .i64 (q:Int)] ++ (ops.map a.eval).toArray) = (Value.int .i64 (p:Int) :: Value.int .i64 (q:Int) :: ops.map a.eval).toArray:=by
  apply Array.toList_inj.1; simp
 rw [harr]
 refine hc.mono ?_
 rintro e1 w' ⟨vs,Fr,Zn,rfl,_,hvs,_,hgr⟩
 obtain ⟨v,r,_,_,rfl,_,_,hv1,rfl,_⟩:=hvs
 obtain ⟨cs1,⟨hc1,_⟩,hval⟩:=hv1
 simp only [ValOf] at hval
 subst hval
 refine ⟨?_,hgr⟩
 have:v=.bool (lt X[p]! X[q]!):=by simpa using hc1
 rw [this]
 rfl
end
end Go.Vm
