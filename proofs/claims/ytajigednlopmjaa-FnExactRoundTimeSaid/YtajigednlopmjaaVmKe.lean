/- A loop over a map's keys, and a sort of a row inside a box. -/
import Derived.Test.YtajigednlopmjaaVmSr
import Derived.LoopN
import Derived.Maps.RangeRun
set_option linter.unusedVariables false
set_option linter.unusedSimpArgs false
namespace Go.Vm
open Go
open Go.ChangeMaps (setBlock)
open Go.Sort (SWO)
def flatK:Sh→Bool
 | .int _ => true
 | .bool => true
 | .str => true
 | .unit => true
 | .pair a b => flatK a && flatK b
 | .st f => flatK f
 | _ => false
theorem CRep.flat {Z Z':Fp} {w w':World}:∀ {s:Sh} {x:s.den} {cs:List Value} {f:Fp},flatK s=true→CRep Z w s x cs f→CRep Z' w' s x cs f
 | .int k,x,cs,f,_,h => h
 | .bool,x,cs,f,_,h => h
 | .str,x,cs,f,_,h => h
 | .unit,x,cs,f,_,h => h
 | .pair a b,x,cs,f,hk,h => by
   simp only [flatK,Bool.and_eq_true] at hk
   obtain ⟨c1,c2,f1,f2,e,h1,h2,h3,h4⟩:=h
   exact ⟨c1,c2,f1,f2,e,h1,h2,CRep.flat hk.1 h3,CRep.flat hk.2 h4⟩
 | .st s,x,cs,f,hk,h => CRep.flat (s:=s) hk h
 | .any,x,cs,f,hk,h => by cases hk
 | .raw,x,cs,f,hk,h => by cases hk
 | .gh _,x,cs,f,hk,h => by cases hk
 | .sl _ _ _,x,cs,f,hk,h => by cases hk
 | .pt _ _ _,x,cs,f,hk,h => by cases hk
 | .mp _ _ _,x,cs,f,hk,h => by cases hk
 | .fn _ _,x,cs,f,hk,h => by cases hk
def KeyOk (ks:Sh) (x:ks.den) (e:MapEntry):Prop:=∀ Z w,∃ cs,CRep Z w ks x cs (fun _ => False)∧ValOf ks e.key cs
def MKeys (ks:Sh) (xs:List ks.den) (es:List MapEntry):Prop:=xs.length=es.length∧∀ i e,es[i]?=some e→KeyOk ks (xs.getD i ks.dflt) e
theorem mkeys_of {Z:Fp} {w:World} {β:Type} {RV:β→List Value→Fp→Prop} {ks vs:Sh} (hk:flatK ks=true):∀ {l:List (ks.den × β)} {es:List MapEntry},MRep (CRep Z w ks) RV ks vs l es→MKeys ks (l.map (·.1)) es
 | [],es,h => by
   obtain rfl:es=[]:=h
   exact ⟨rfl,fun i e he => by simp at he⟩
 | x :: l,es,h => by
   obtain ⟨e,es',rfl,⟨c1,h1,h2⟩,_,h5⟩:=h
   obtain ⟨k1,k2⟩:=mkeys_of hk h5
   refine ⟨by simpa using k1,fun i e' he => ?_⟩
   cases i with
   | zero =>
     obtain rfl:e=e':=by simpa using he
     exact fun Z' w' => ⟨c1,CRep.flat hk h1,h2⟩
   | succ i => exact k2 i e' (by simpa using he)
def HandO {α:Type} (es:List MapEntry) (xs:List α) (d:α) (X:Array Nat) (ys:List α):Prop :=
 ∃ I:List Nat,I.Nodup ∧ (∀ i ∈ I,i < es.length)∧X.toList=I.map (fun i => (es.map (·.born)).getD i 0)∧ys=I.map fun i => xs.getD i d
theorem HandO.nil {α:Type} (es:List MapEntry) (xs:List α) (d:α):HandO es xs d #[] []:=⟨[],List.nodup_nil,by simp,rfl,rfl⟩
theorem nodupO_len:∀ {n:Nat} {I:List Nat},I.Nodup → (∀ i ∈ I,i < n)→I.length≤n
 | 0,I,_,h => by
   cases I with
   | nil => simp
   | cons x r => exact absurd (h x List.mem_cons_self) (by omega)
 | n+1,I,hn,h => by
   have h1:=nodupO_len (n:=n) (hn.erase n) (fun i hi => by
    have:=(List.Nodup.mem_erase_iff hn).1 hi
    have:=h i this.2
    omega)
   have h2:I.length ≤ (I.erase n).length+1:=by
    rw [List.length_erase]
    split <;> omega
   omega
theorem born_at {es:List MapEntry} {i:Nat} {e:MapEntry} (h:es[i]?=some e):(es.map (·.born)).getD i 0=e.born:=by
 rw [List.getD_eq_getElem?_getD,List.getElem?_map,h]
 rfl
theorem HandO.push {α:Type} {es:Array MapEntry} {xs:List α} {d:α} {X:Array Nat} {ys:List α} (h:HandO es.toList xs d X ys) (hl:xs.length=es.size) {e:MapEntry} (he:e ∈ (leftOf es X).toList) :
 e ∈ es.toList∧ys.length < xs.length∧∃ i:Nat,es.toList[i]?=some e∧HandO es.toList xs d (X.push e.born) (ys ++ [xs.getD i d]):=by
 obtain ⟨I,h1,h2,h3,h4⟩:=h
 have hm:e ∈ es∧e.born ∉ X.toList:=by
  unfold leftOf at he
  simpa using he
 obtain ⟨i,hi⟩:=List.getElem?_of_mem (Array.mem_toList_iff.2 hm.1)
 have hil:i < es.toList.length:=(List.getElem?_eq_some_iff.1 hi).1
 have hiI:i ∉ I:=fun hmem => hm.2 (by rw [h3]; exact List.mem_map.2 ⟨i,hmem,born_at hi⟩)
 have hn:(I ++ [i]).Nodup:=by
  rw [List.nodup_append]
  exact ⟨h1,by simp,fun a ha b hb e => hiI (by have:b=i:=by simpa using hb
                                               rw [← this,← e]; exact ha)⟩
 have hlt:∀ j ∈ I ++ [i],j < es.toList.length:=fun j hj => by
  rcases List.mem_append.1 hj with hj | hj
  ·exact h2 j hj
  ·have:j=i:=by simpa using hj
   omega
 refine ⟨Array.mem_toList_iff.2 hm.1,?_,i,hi,I ++ [i],hn,hlt,?_,?_⟩
 ·have:=nodupO_len hn hlt
  rw [h4,hl]
  simp only [List.length_append,List.length_singleton,Array.length_toList] at this
  rw [List.length_map]
  omega
 ·rw [Array.toList_push,h3,List.map_append]
  simp only [List.map_cons,List.map_nil]
  rw [born_at hi]
 ·rw [h4,List.map_append]
  rfl
theorem HandO.full {α:Type} {es:Array MapEntry} {xs:List α} {d:α} {X:Array Nat} {ys:List α} (h:HandO es.toList xs d X ys) (hl:xs.length=es.size) (hb:(es.toList.map (·.born)).Nodup) (h0:(leftOf es X).size=0):ys.Perm xs:=by
 obtain ⟨I,h1,h2,h3,h4⟩:=h
 have hI:I.Perm (List.range es.size):=by
  rw [List.perm_ext_iff_of_nodup h1 List.nodup_range]
  intro i
  rw [List.mem_range]
  refine ⟨fun hi => by simpa using h2 i hi,fun hi => ?_⟩
  have hi':i < es.toList.length:=by simpa using hi
  have hge:es.toList[i]?=some es.toList[i]:=List.getElem?_eq_getElem hi'
  have hx:es.toList[i].born ∈ X.toList:=by
   apply Classical.byContradiction
   intro hn
   have:es.toList[i] ∈ (leftOf es X).toList:=by
    unfold leftOf
    simp only [Array.toList_filter,List.mem_filter]
    refine ⟨List.getElem_mem _,?_⟩
    simpa using hn
   have h0':leftOf es X=#[]:=by simpa using h0
   rw [h0'] at this
   simp at this
  rw [h3] at hx
  obtain ⟨j,hj,hjb⟩:=List.mem_map.1 hx
  have hjl:=h2 j hj
  have e1:(es.toList.map (·.born))[j]? = (es.toList.map (·.born))[i]?:=by
   rw [List.getElem?_map,List.getElem?_map,hge,List.getElem?_eq_getElem hjl]
   rw [born_at (List.getElem?_eq_getElem hjl)] at hjb
   simpa using hjb
  have:j=i:=(List.getElem?_inj (by simpa using hjl) hb).1 e1
  rw [← this]
  exact hj
 rw [h4]
 refine (hI.map _).trans ?_
 have:(List.range es.size).map (fun i => xs.getD i d)=xs:=by
  apply List.ext_getElem
  ·simp [hl]
  ·intro i a b
   simp [List.getD_eq_getElem?_getD,b]
 rw [this]
def itFam (bm r:Nat) (es:Array MapEntry) (clk:Nat):Fam where
 J X w f:=(∀ i,f i↔i=bm∨i=r)∧bm≠r∧w.heap[bm]?=some (.map es clk)∧w.heap[r]?=some (.mapIter (some bm) clk X clk)
 lt _ _:=false
 low X w f h i hi:=by
  rcases (h.1 i).1 hi with rfl | rfl
  ·exact (Array.getElem?_eq_some_iff.1 h.2.2.1).1
  ·exact (Array.getElem?_eq_some_iff.1 h.2.2.2).1
 stay X w w' f hs h:=⟨h.1,h.2.1,by rw [hs bm ((h.1 bm).2 (.inl rfl))]; exact h.2.2.1,by rw [hs r ((h.1 r).2 (.inr rfl))]; exact h.2.2.2⟩
def itV (bm r:Nat) (es:Array MapEntry) (clk:Nat) (X:Array Nat):(Sh.gh true).den:=(.pointer (some ⟨r,0,none⟩),itFam bm r es clk,X)
def ItIs (ks:Sh) (xs:List ks.den) (ys:List ks.den) (g:(Sh.gh true).den):Prop :=
 ∃ bm r es clk X,g=itV bm r es clk X∧MKeys ks xs es.toList∧Born es.toList clk∧HandO es.toList xs ks.dflt X ys
section
variable {P:Program} {T:Tbl} {w0:World} {Wr Zi:Fp} {N:Fr} {S S' S1:SS} {a:Act} {w:World} {Q:Exit→Act→World→Prop}
theorem wpL_val {ops:Array Oper} {o:Oper} {l:List Oper} {v:Value} {w':World} (hg:o.guard=none) (hr:(execOp a.eval o).run P w=.ok (.value v) w') (h:wpList P ops Q l (a.put o.dst v) w'):wpList P ops Q (o :: l) a w:=by
 refine wpList_step fun K hK => ?_
 rw [if_pos (by simp [Region.wanted,hg])]
 unfold Oper.wp
 rw [hr]
 exact hK _ _ h
theorem wpL_nil {ops:Array Oper} (h:Q .normal a w):wpList P ops Q [] a w:=h
theorem RelX.any3 {Z:Fp} {F:Nat→Fp} (h:RelX Z F w0 Wr Zi N S a w) {d:Nat} (v:Value) (hd:d < N.n) (hk:d ∉ N.keep):∃ F',RelX Z F' w0 Wr Zi N (S.put d anyS) (a.put (some d) v) w∧∀ s i,F' s i→F s i :=
 ⟨_,h.putR (d:=d) (sv:=anyS) (v:=v) (by rw [h.tsize]; exact hd) (fun hm => absurd hm hk) ⟨[.bool true],⟨⟨_,rfl,rfl⟩,fun _ => id⟩,trivial⟩ rfl rfl,fun s i hi => by
  by_cases e:s=d
  ·simp [e] at hi
  ·simpa [e] using hi⟩
def freeB (N:Fr) (d:Nat):Bool:=Nat.blt d N.n && !(N.keep.any (Nat.beq d))
theorem freeB_ok {d:Nat} (h:freeB N d=true):d < N.n∧d ∉ N.keep:=by
 simp only [freeB,Bool.and_eq_true,Nat.blt_eq] at h
 refine ⟨h.1,fun hm => ?_⟩
 have:N.keep.any (Nat.beq d)=true:=List.any_eq_true.2 ⟨d,hm,by simp⟩
 rw [this] at h
 exact absurd h.2 (by simp)
theorem wp_range (hT:TOk P T) (h:Rel w0 Wr Zi N S a w) {id:Nat} {ops:Array Oper} {rest:Code} {o0 o1:Oper} {t m d it:Nat} {kt et:Nat} {ks vs:Sh} {l:List (ks.den × vs.den)} (hops:ops.toList=[o0,o1])
 (e0:o0.op=.move (.tmp m)) (e1:o0.dst=some d) (e2:o0.guard=none) (e3:o1.op=.range t (.tmp d)) (e4:o1.dst=some it) (e5:o1.guard=none) (ht:mapT T t=some (kt,et))
 (hd:freeB N d=true) (hi:freeB N it=true) (hg:S.get m=some (.val (.mp true ks vs) (some l))) (hk:flatK ks=true)
 (hQ:∀ g a' w',ItIs ks (l.map (·.1)) [] g→Rel w0 Wr Zi N (((S.kill m).put d anyS).put it (.val (.gh true) g)) a' w'→rest.wp P Q a' w'):((Code.region id ops false).seq rest).wp P Q a w:=by
 obtain ⟨Z,F,hX⟩:=h
 obtain ⟨v,hv,hr,h1,hh⟩:=hX.take (SS.get_mem hg)
 obtain ⟨cs,⟨g,es,clk,rfl,hge,⟨hm,hbn⟩,hf⟩,hval⟩:=hr
 obtain rfl:v=.map (some g):=by simpa [ValOf] using hval.symm
 obtain ⟨hd1,hd2⟩:=freeB_ok hd
 obtain ⟨hi1,hi2⟩:=freeB_ok hi
 obtain ⟨F2,h2,hF2⟩:=h1.any3 (.map (some g)) hd1 hd2
 refine wp_seq (wp_region_list ?_)
 rw [hops]
 refine wpL_val e2 (v:=.map (some g)) (w':=w) (by simp [execOp,e0,eval_of hv]) ?_
 rw [e1]
 have hts:=h2.tsize
 have hev:(a.put (some d) (.map (some g))).eval (.tmp d)=.map (some g):=eval_of (put_same a d _ (by rw [hX.tsize]; exact hd1))
 refine wpL_val e5 (v:=.pointer (some ⟨w.heap.size,0,none⟩)) (w':=w.alloc (.mapIter (some g) clk #[] clk)) (by simp [execOp,e3,hev,run_range_map w t kt et g es clk (mapT_run hT ht) hge]) ?_
 rw [e4]
 have hgl:g < w.heap.size:=(Array.getElem?_eq_some_iff.1 hge).1
 have hfin:=h2.putG (d:=it) (sv:=.val (.gh true) (itV g w.heap.size es clk #[])) (v:=.pointer (some ⟨w.heap.size,0,none⟩)) (w':=w.alloc (.mapIter (some g) clk #[] clk)) (f:=fun i => i=g∨i=w.heap.size) (U:=fun _ => False) (by rw [hts]; exact hi1) (fun hm => absurd hm hi2) (Grow.alloc _ _) (fun i hi => hi.elim) (by
  rintro i (rfl | rfl)
  ·have hq:=hh i ((hf i).2 rfl)
   exact ⟨Nat.lt_of_lt_of_le hgl (Grow.alloc w _).size,.inr ⟨hq.2.1,fun s _ hs => hq.2.2.1 s (hF2 s i hs),hq.2.2.2⟩⟩
  ·exact ⟨(Array.getElem?_eq_some_iff.1 (alloc_new w _)).1,.inl (Nat.le_refl _)⟩) (by
  refine ⟨[_],⟨⟨rfl,rfl⟩,fun i => Iff.rfl,by omega,?_,alloc_new w _⟩,rfl⟩
  rw [alloc_old w _ g hgl]
  exact hge)
 exact wpL_nil (hQ (itV g w.heap.size es clk #[]) _ _ ⟨g,w.heap.size,es,clk,#[],rfl,mkeys_of hk hm,hbn,HandO.nil _ _ _⟩ ⟨Z,_,hfin⟩)
theorem wp_next (h:Rel w0 Wr Zi N S a w) {rid:Nat} {ops:Array Oper} {o0 o1:Oper} {it d0 d1:Nat} {ks:Sh} {xs ys:List ks.den} {g:(Sh.gh true).den} (hops:ops.toList=[o0,o1])
 (e0:o0.op=.next (.tmp it) false) (e1:o0.dst=some d0) (e2:o0.guard=none) (e3:o1.op=.extract (.tmp d0) 0) (e4:o1.dst=some d1) (e5:o1.guard=none)
 (hd:freeB N d0=true) (hi:freeB N d1=true) (hn:(Nat.beq d0 it || Nat.beq d1 it)=false) (hg:S.get it=some (.val (.gh true) g)) (hit:ItIs ks xs ys g)
 (h0:∀ a' w',ys.Perm xs→Rel w0 Wr Zi N ((S.put d0 anyS).put d1 (.val .bool false)) a' w'→Q .normal a' w')
 (h1:∀ bm r es clk (X:Array Nat) (e:MapEntry) (i:Nat) a' w',MKeys ks xs es.toList→Born es.toList clk→e ∈ es.toList→es.toList[i]?=some e→ys.length < xs.length→HandO es.toList xs ks.dflt (X.push e.born) (ys ++ [xs.getD i ks.dflt])→Rel w0 Wr Zi N (((S.put it (.val (.gh true) (itV bm r es clk (X.push e.born)))).put d0 anyS).put d1 (.val .bool true)) a' w'→Q .normal a' w') :
 (Code.region rid ops false).wp P Q a w:=by
 obtain ⟨Z,F,hX⟩:=h
 obtain ⟨bm,r,es,clk,X,rfl,hk,hb,hh⟩:=hit
 obtain ⟨v,hv,cs,⟨⟨rfl,_⟩,hJ⟩,hval⟩:=hX.rep it _ (SS.get_mem hg)
 obtain rfl:v=.pointer (some ⟨r,0,none⟩):=by simpa [ValOf,itV] using hval.symm
 obtain ⟨j1,j2,j3,j4⟩:=hJ
 obtain ⟨hd1,hd2⟩:=freeB_ok hd
 obtain ⟨hi1,hi2⟩:=freeB_ok hi
 simp only [Bool.or_eq_false_iff] at hn
 have hn0:d0≠it:=fun e => by simp [e] at hn
 refine wp_region_list ?_
 rw [hops]
 have bl:∀ {Z:Fp} {F:Nat→Fp} {S:SS} {a:Act} {w:World} {b:Bool},RelX Z F w0 Wr Zi N S a w→∃ F',RelX Z F' w0 Wr Zi N (S.put d1 (.val .bool b)) (a.put (some d1) (.bool b)) w:=fun {Z F S a w b} h =>
  ⟨_,h.putR (d:=d1) (sv:=.val .bool b) (v:=.bool b) (by rw [h.tsize]; exact hi1) (fun hm => absurd hm hi2) ⟨[.bool b],⟨rfl,fun _ => id⟩,rfl⟩ rfl rfl⟩
 rcases run_next_at (P:=P) w o0.type r bm clk clk X es clk j4 j3 hb.1 (Nat.le_refl _) with ⟨hz,hrun⟩ | ⟨e,he,w1,hw1,hrun⟩
 ·refine wpL_val e2 (v:=.tuple #[.bool false]) (w':=w) (by simp [execOp,e0,eval_of hv,hrun]) ?_
  rw [e1]
  obtain ⟨F2,h2,_⟩:=hX.any3 (d:=d0) (.tuple #[.bool false]) hd1 hd2
  have hev:(a.put (some d0) (.tuple #[.bool false])).eval (.tmp d0)=.tuple #[.bool false]:=eval_of (put_same a d0 _ (by rw [hX.tsize]; exact hd1))
  refine wpL_val e5 (v:=.bool false) (w':=w) (by simp [execOp,e3,hev,Instr.extract]) ?_
  rw [e4]
  obtain ⟨F3,h3⟩:=bl (b:=false) h2
  exact wpL_nil (h0 _ _ (hh.full (by simpa using hk.1) hb.2 hz) ⟨Z,F3,h3⟩)
 ·obtain ⟨hem,hlen,i,hi',hh'⟩:=hh.push (by simpa using hk.1) he
  have hw1h:w1.heap=w.heap∧w1.os=w.os∧w1.tape=w.tape∧w1.output=w.output:=by rcases hw1 with rfl | rfl <;> exact ⟨rfl,rfl,rfl,rfl⟩
  refine wpL_val e2 (v:=.tuple #[.bool true,e.key,e.val]) (w':=setBlock w1 r (.mapIter (some bm) clk (X.push e.born) clk)) (by simp [execOp,e0,eval_of hv,hrun]) ?_
  rw [e1]
  have hrl:r < w.heap.size:=(Array.getElem?_eq_some_iff.1 j4).1
  have hsame:(setBlock w1 r (.mapIter (some bm) clk (X.push e.born) clk)).heap[r]?=some (.mapIter (some bm) clk (X.push e.born) clk):=by
   simp [setBlock,hw1h.1,hrl]
  have hoth:∀ i,i≠r → (setBlock w1 r (.mapIter (some bm) clk (X.push e.born) clk)).heap[i]?=w.heap[i]?:=fun i hi => by
   simp only [setBlock,hw1h.1]
   rw [Array.getElem?_setIfInBounds_ne (fun e => hi e.symm)]
  have hgr:Grow (fun i => i=r) w (setBlock w1 r (.mapIter (some bm) clk (X.push e.born) clk)):=⟨hw1h.2.1,hw1h.2.2.1,hw1h.2.2.2,by simp [setBlock,hw1h.1],fun i _ hn => hoth i hn⟩
  have hfr:F it r:=(j1 r).2 (.inr rfl)
  have hsz:∀ i,i < w.heap.size→i < (setBlock w1 r (.mapIter (some bm) clk (X.push e.born) clk)).heap.size:=fun i hi => Nat.lt_of_lt_of_le hi hgr.size
  have ht:=hX.turn (k:=it) (s:=.gh true) (x:=itV bm r es clk (X.push e.born)) (v:=.pointer (some ⟨r,0,none⟩)) (f:=F it) (U:=fun i => i=r) (Zn:=fun _ => False) hv hgr (fun i hi => by rw [hi]; exact hfr) (fun i hi => hi.elim)
   (fun i hi => ⟨hsz i (hX.lt it i hi),.inl hi,id⟩) ⟨[_],⟨⟨rfl,rfl⟩,j1,j2,by rw [hoth bm j2]; exact j3,hsame⟩,rfl⟩
  obtain ⟨F2,h2,_⟩:=ht.any3 (d:=d0) (.tuple #[.bool true,e.key,e.val]) hd1 hd2
  have hev:(a.put (some d0) (.tuple #[.bool true,e.key,e.val])).eval (.tmp d0)=.tuple #[.bool true,e.key,e.val]:=eval_of (put_same a d0 _ (by rw [hX.tsize]; exact hd1))
  refine wpL_val e5 (v:=.bool true) (w':=setBlock w1 r (.mapIter (some bm) clk (X.push e.born) clk)) (by simp [execOp,e3,hev,Instr.extract]) ?_
  rw [e4]
  obtain ⟨F3,h3⟩:=bl (b:=true) h2
  exact wpL_nil (h1 bm r es clk X e i _ _ hk hb hem hi' hlen hh' ⟨_,F3,h3⟩)
theorem wpl_entry (h:Rel w0 Wr Zi N S a w) {ops:Array Oper} {l2:List Oper} {o0 o1:Oper} {it d0 d1:Nat} {ks:Sh} {x:ks.den} {bm r clk:Nat} {es:Array MapEntry} {X:Array Nat} {e:MapEntry}
 (e0:o0.op=.entry (.tmp it)) (e1:o0.dst=some d0) (e2:o0.guard=none) (e3:o1.op=.extract (.tmp d0) 0) (e4:o1.dst=some d1) (e5:o1.guard=none)
 (hd:freeB N d0=true) (hi:freeB N d1=true) (hg:S.get it=some (.val (.gh true) (itV bm r es clk (X.push e.born)))) (hem:e ∈ es.toList) (hb:Born es.toList clk) (hk:KeyOk ks x e)
 (hQ:∀ a' w',Rel w0 Wr Zi N ((S.put d0 anyS).put d1 (.val ks x)) a' w'→wpList P ops Q l2 a' w'):wpList P ops Q (o0 :: o1 :: l2) a w:=by
 obtain ⟨Z,F,hX⟩:=h
 obtain ⟨v,hv,cs,⟨⟨rfl,_⟩,hJ⟩,hval⟩:=hX.rep it _ (SS.get_mem hg)
 obtain rfl:v=.pointer (some ⟨r,0,none⟩):=by simpa [ValOf,itV] using hval.symm
 obtain ⟨j1,j2,j3,j4⟩:=hJ
 obtain ⟨hd1,hd2⟩:=freeB_ok hd
 obtain ⟨hi1,hi2⟩:=freeB_ok hi
 refine wpL_val e2 (v:=.tuple #[e.key,e.val]) (w':=w) (by simp [execOp,e0,eval_of hv,run_entry_at w r bm clk X es clk e j4 j3 hem hb.2]) ?_
 rw [e1]
 obtain ⟨F2,h2,_⟩:=hX.any3 (d:=d0) (.tuple #[e.key,e.val]) hd1 hd2
 have hev:(a.put (some d0) (.tuple #[e.key,e.val])).eval (.tmp d0)=.tuple #[e.key,e.val]:=eval_of (put_same a d0 _ (by rw [hX.tsize]; exact hd1))
 refine wpL_val e5 (v:=e.key) (w':=w) (by simp [execOp,e3,hev,Instr.extract]) ?_
 rw [e4]
 exact hQ _ _ ⟨Z,_,h2.putR (d:=d1) (sv:=.val ks x) (v:=e.key) (by rw [h2.tsize]; exact hi1) (fun hm => absurd hm hi2) (hk Z w) rfl rfl⟩
end
section
variable {P:Program} {T:Tbl} {w0:World} {Wr Zi:Fp} {N:Fr} {S S' S1:SS} {a:Act} {w:World} {Q:Exit→Act→World→Prop}
theorem wp_keys_loop (hT:TOk P T) {bo bi r10 r11:Nat} {R12:Code} {ops10 ops11:Array Oper} {n0 n1 e0 e1:Oper} {l2:List Oper} {it d0 d1 c0 c1:Nat} {ks:Sh} {xs:List ks.den} {g:(Sh.gh true).den} {orc:Nat→List TV}
 (St:List ks.den → (Sh.gh true).den→SS) (Sb:List ks.den→ks.den → (Sh.gh true).den→SS) (h:Rel w0 Wr Zi N (St [] g) a w) (hit:ItIs ks xs [] g)
 (hops10:ops10.toList=[n0,n1]) (e00:n0.op=.next (.tmp it) false) (e01:n0.dst=some d0) (e02:n0.guard=none) (e03:n1.op=.extract (.tmp d0) 0) (e04:n1.dst=some d1) (e05:n1.guard=none)
 (hops11:ops11.toList=e0 :: e1 :: l2) (e10:e0.op=.entry (.tmp it)) (e11:e0.dst=some c0) (e12:e0.guard=none) (e13:e1.op=.extract (.tmp c0) 0) (e14:e1.dst=some c1) (e15:e1.guard=none)
 (hfr:(freeB N d0 && freeB N d1 && freeB N c0 && freeB N c1 && !(Nat.beq d0 it || Nat.beq d1 it))=true)
 (hg:∀ ys g,(St ys g).get it=some (.val (.gh true) g)) (hput:∀ ys g g',(St ys g).put it (.val (.gh true) g')=St ys g')
 (hb0:∀ ys g b,boolAt (((St ys g).put d0 anyS).put d1 (.val .bool b)) d1=some b) (hg2:∀ ys g,(((St ys g).put d0 anyS).put d1 (.val .bool true)).get it=some (.val (.gh true) g))
 (hmid:∀ ys x g,steps T P N orc ops11 l2 (((((St ys g).put d0 anyS).put d1 (.val .bool true)).put c0 anyS).put c1 (.val ks x))=some (Sb ys x g,[]))
 (hbody:∀ (Q':Exit→Act→World→Prop) ys x g a' w',ys.length < xs.length → (∀ a w,Rel w0 Wr Zi N (St (ys ++ [x]) g) a w→Q' .normal a w)→Rel w0 Wr Zi N (Sb ys x g) a' w'→R12.wp P Q' a' w')
 (hend:∀ ys g a' w',ys.Perm xs→Rel w0 Wr Zi N (((St ys g).put d0 anyS).put d1 (.val .bool false)) a' w'→Q .normal a' w') :
 (Code.block bo (.loop (.seq (.region r10 ops10 false) (.seq (.cond (.tmp d1) .skip (.exit bo)) (.block bi (.seq (.region r11 ops11 false) R12)))))).wp P Q a w:=by
 simp only [Bool.and_eq_true,Bool.not_eq_true'] at hfr
 obtain ⟨⟨⟨⟨f0,f1⟩,f2⟩,f3⟩,f4⟩:=hfr
 refine wp_block (wp_loop_rounds (xs.length+1) ?_)
 have key:∀ (n:Nat) (ys:List ks.den) (g:(Sh.gh true).den) (a:Act) (w:World),ys.length+n=xs.length→ItIs ks xs ys g→Rel w0 Wr Zi N (St ys g) a w →
  Code.rounds P (.seq (.region r10 ops10 false) (.seq (.cond (.tmp d1) .skip (.exit bo)) (.block bi (.seq (.region r11 ops11 false) R12)))) (Exit.inBlock bo Q) (n+1) a w:=by
  intro n
  induction n with
  | zero =>
    intro ys g a w hn hit h
    rw [rounds_succ]
    refine wp_seq (wp_next h hops10 e00 e01 e02 e03 e04 e05 f0 f1 f4 (hg ys g) hit ?_ ?_)
    ·intro a' w' hp h'
     refine wp_seq (wp_if h' (hb0 ys g false) (fun e => by cases e) (fun _ => wp_exit ?_))
     show (if bo=bo then Q .normal a' w' else _)
     rw [if_pos rfl]
     exact hend ys g a' w' hp h'
    ·intro bm r es clk X e i a' w' _ _ _ _ hlt
     omega
  | succ n ih =>
    intro ys g a w hn hit h
    rw [rounds_succ]
    refine wp_seq (wp_next h hops10 e00 e01 e02 e03 e04 e05 f0 f1 f4 (hg ys g) hit ?_ ?_)
    ·intro a' w' hp h'
     refine wp_seq (wp_if h' (hb0 ys g false) (fun e => by cases e) (fun _ => wp_exit ?_))
     show (if bo=bo then Q .normal a' w' else _)
     rw [if_pos rfl]
     exact hend ys g a' w' hp h'
    ·intro bm r es clk X e i a' w' hk hb hem hi hlt hh h'
     rw [hput] at h'
     refine wp_seq (wp_if h' (hb0 ys _ true) (fun _ => wp_skip ?_) (fun e => by cases e))
     refine wp_block (wp_seq (wp_region_list ?_))
     rw [hops11]
     refine wpl_entry h' e10 e11 e12 e13 e14 e15 f2 f3 (hg2 ys _) hem hb (hk.2 i e hi) ?_
     intro a2 w2 h2
     refine steps_ok hT h2 (hmid ys _ _) AllP.nil ?_
     intro a3 w3 h3
     refine hbody _ ys _ _ a3 w3 hlt ?_ h3
     intro a4 w4 h4
     refine ih _ _ a4 w4 ?_ ⟨bm,r,es,clk,_,rfl,hk,hb,hh⟩ h4
     simp only [List.length_append,List.length_singleton]
     omega
 exact key xs.length [] g a w (by simp) hit h
end
structure SoRow3 (Z:Fp) (w1:World) (te:TypeId) (e:Sh) {tb:Nat} {sb:Sh} (nx:List e.den → (Sh.pt true tb sb).den) (xs:List e.den) (vk v:Value) (Fk:Fp) (B:Option Nat) (A:Option Addr) (cp:Nat) (c:Nat→List Value) (rest:List Value):Prop where
 v_eq:v=.slice A xs.length cp
 sz:∀ q,(c q).length=e.size
 one:∀ q,∀ v ∈ c q,v.oneCell'=true
 nil:B=none→xs.length=0
 blk:∀ b,B=some b→A=some ⟨b,0,none⟩∧Fk b∧w1.heap[b]?=some (.cells (rowC c (Array.range xs.length) ++ rest).toArray te (0,0))
 rep:∀ (X:Array Nat) (w:World),X.toList.Perm (List.range xs.length) → (∀ i,i < w1.heap.size→B≠some i→w.heap[i]?=w1.heap[i]?) → (∀ b,B=some b→w.heap[b]?=some (.cells (rowC c X ++ rest).toArray te (0,0)))→VRep Z w (.pt true tb sb) (nx (getX e.dflt xs X)) vk Fk
section
variable {P:Program} {T:Tbl} {Z:Fp} {F:Nat→Fp} {w0:World} {Wr Zi:Fp} {N:Fr} {S S' S1:SS} {a:Act} {w1:World}
theorem so_row3 (h:RelX Z F w0 Wr Zi N S a w1) {k q te tb:Nat} {sb e:Sh} {x0:(Sh.pt true tb sb).den} {p:Path} {xs:List e.den} (hg:S.get k=some (.val (.pt true tb sb) x0)) (hq:S.get q=some (.copy k p)) (hp:p≠[]) (hat:getAt (.pt true tb sb) x0 p=some ⟨.sl true te e,xs⟩)
 {nx:List e.den → (Sh.pt true tb sb).den} (hu:∀ ys:List e.den,upd (.pt true tb sb) x0 p ⟨.sl true te e,ys⟩=some ⟨.pt true tb sb,nx ys⟩) :
 ∃ vk v B A cp c rest,a.tmps[k]?=some vk∧a.tmps[q]?=some v∧SoRow3 Z w1 te e nx xs vk v (F k) B A cp c rest:=by
 obtain ⟨v,hv,_,s,x,vk,hhome,hcase⟩:=h.rep q _ (SS.get_mem hq)
 have his:=home_is h hhome hg
 cases his
 have hroot:IsRoot (.pt true tb sb):=trivial
 have hrep:=home_rep h hhome
 have hcr:=root_cells hroot hrep
 rcases hcase with ⟨hp0,_⟩ | ⟨g0,o0,s',x',cs0,_,_,hok,hat',hloc,hcl,hcells,hvo⟩
 ·exact absurd hp0 hp
 rw [hat] at hat'
 cases hat'
 obtain ⟨g,t',pre',cs',post',f',R⟩:=rfocus p (.pt true tb sb) x0 vk (F k) ⟨.sl true te e,xs⟩ hcr hp trivial hok hat
 have hgo:g0=g∧o0=pre'.length:=by
  have:=R.at_
  rw [hloc] at this
  simpa using this
 obtain ⟨rfl,rfl⟩:=hgo
 obtain ⟨sv,inner,fr,hcs',hrr,hown,hef,hdf⟩:=R.rep
 subst hcs'
 have hvsv:v=sv:=by
  simp only [ValOf] at hvo
  subst hvo
  have h1:=hcells 0 v rfl
  have h2:=cells_mid R.heap 0 (by simp)
  rw [h2] at h1
  simpa using h1.symm
 subst hvsv
 replace hrr:RRep (CRep Z w1 e) xs inner fr:=hrr
 replace hown:w1.ownsRow 0 te e.size v xs.length inner:=hown
 obtain ⟨c,f,c1,c2,c3,c4,c5⟩:=rrep_split (z:=e.zeros) hrr
 have hlen:∀ q,(c q).length=e.size:=fun q => by
  by_cases hq:q < xs.length
  ·exact CRep.length (c2 q _ (List.getElem?_eq_getElem hq))
  ·rw [c3 q (by omega)]; exact CRep.length (Sh.zeros_rep Z w1 e)
 have hone:∀ q,∀ v ∈ c q,v.oneCell'=true:=fun q => by
  by_cases hq:q < xs.length
  ·exact CRep.one (c2 q _ (List.getElem?_eq_getElem hq))
  ·rw [c3 q (by omega)]; exact CRep.one (Sh.zeros_rep Z w1 e)
 have hZb:∀ i,F k i→¬ Z i:=fun i => h.nz k i
 have nodup:∀ X:Array Nat,X.toList.Perm (List.range xs.length)→X.toList.Nodup∧∀ q ∈ X.toList,q < xs.length:=fun X hX => ⟨hX.nodup_iff.2 List.nodup_range,fun q hq => List.mem_range.1 (hX.mem_iff.1 hq)⟩
 have frX:∀ X:Array Nat,X.toList.Perm (List.range xs.length)→∀ i,(∃ q ∈ X.toList,f q i)↔fr i:=fun X hX i => by
  rw [c4 i]
  constructor
  ·rintro ⟨q,hq,hf⟩; exact ⟨q,List.mem_range.1 (hX.mem_iff.1 hq),hf⟩
  ·rintro ⟨q,hq,hf⟩; exact ⟨q,hX.mem_iff.2 (List.mem_range.2 hq),hf⟩
 have elem:∀ (w:World) (B:Option Nat),(∀ b,B=some b→F k b∧¬ fr b) → (∀ i,i < w1.heap.size→B≠some i→w.heap[i]?=w1.heap[i]?)→∀ (q:Nat) (x:e.den),xs[q]?=some x→CRep Z w e x (c q) (f q):=by
  intro w B hB hw q x hx
  refine CRep.same (fun _ => id) (fun i hi => hw i (h.zlt i hi) (fun e => ?_)) (fun i hi => ?_) (c2 q x hx)
  ·exact hZb i (hB i e).1 hi
  ·have hfr:fr i:=(c4 i).2 ⟨q,(List.getElem?_eq_some_iff.1 hx).1,hi⟩
   have hFk:F k i:=R.sub i ((hef i).2 (.inr hfr))
   exact hw i (h.lt k i hFk) (fun e => (hB i e).2 hfr)
 have back:∀ (w:World) (X:Array Nat) (B:Option Nat),(∀ b,B=some b→f' b) → (∀ i,i < w1.heap.size→B≠some i→w.heap[i]?=w1.heap[i]?)→CRep Z w (.sl true te e) (getX e.dflt xs X) [v] f'→VRep Z w (.pt true tb sb) (nx (getX e.dflt xs X)) vk (F k):=by
  intro w X B hB hw hnew
  have hne:∀ i,¬ f' i→B≠some i:=fun i hi e => hi (hB i e)
  obtain ⟨f3,h3,h4⟩:=R.put Z w ⟨.sl true te e,getX e.dflt xs X⟩ [v] f' ⟨.pt true tb sb,nx (getX e.dflt xs X)⟩ (hu _) hnew rfl (fun _ => id)
   (fun i hi => hw i (h.zlt i hi) (fun e => hZb i (R.sub i (hB i e)) hi)) (fun i hi hn _ => hw i (h.lt k i hi) (hne i hn))
   (by rw [hw g0 (h.lt k g0 R.in_) (hne g0 R.out)]; exact R.heap) (fun i hi _ => hi) R.out
  have e3:f3=F k:=funext fun i => propext ⟨fun hi => ((h4 i).1 hi).elim (fun q => q.1) (R.sub i),fun hi => (h4 i).2 (by
   by_cases hf:f' i
   ·exact .inr hf
   ·exact .inl ⟨hi,hf⟩)⟩
  rw [e3] at h3
  exact ⟨_,h3,rfl⟩
 rcases hown with ⟨hl,⟨rfl,h0⟩ | ⟨b,cap,cur,rfl,_,hb,hncap,hcap,hcs,htk⟩⟩
 ·have hx0:xs.length=0:=h0
  refine ⟨vk,_,none,none,0,c,[],hhome.tmp,hv,⟨by rw [hx0],hlen,hone,fun _ => hx0,(fun b hb => by cases hb),?_⟩⟩
  intro X w hX hw _
  have hXn:X.toList=[]:=by
   have:=hX.length_eq
   rw [hx0] at this
   simpa using this
  have hfr:∀ i,¬ fr i:=fun i hi => by
   obtain ⟨q,hq,_⟩:=(c4 i).1 hi
   omega
  refine back w X none (fun b hb => by cases hb) hw ⟨_,[],fr,rfl,?_,⟨by simp [getX,hXn],.inl ⟨rfl,by simp [getX,hXn]⟩⟩,hef,hdf⟩
  unfold getX
  rw [hXn]
  exact ⟨rfl,hfr⟩
 ·have hbf:f' b:=(hef b).2 (.inl rfl)
  have hFb:F k b:=R.sub b hbf
  have hfrb:¬ fr b:=fun hh => hdf b rfl hh
  have hcur:cur.toList=inner ++ cur.toList.drop (xs.length*e.size):=by rw [← htk,List.take_append_drop]
  have hrc:rowC c (Array.range xs.length)=inner:=by rw [c1]; unfold rowC; simp
  refine ⟨vk,_,some b,some ⟨b,0,none⟩,cap,c,cur.toList.drop (xs.length*e.size),hhome.tmp,hv,⟨rfl,hlen,hone,(fun e => by cases e),?_,?_⟩⟩
  ·rintro b' e
   cases e
   refine ⟨rfl,hFb,?_⟩
   rw [hrc,← hcur]
   simpa using hb
  ·intro X w hX hw hwb
   have hXs:=perm_size hX
   obtain ⟨nd,ml⟩:=nodup X hX
   have hel:=elem w (some b) (fun b' e => by cases e; exact ⟨hFb,hfrb⟩) hw
   have hj:=rrep_join (d:=e.dflt) hel c5 nd ml
   have hext:(fun i => ∃ q ∈ X.toList,f q i)=fr:=funext fun i => propext (frX X hX i)
   rw [hext] at hj
   have hlx:(getX e.dflt xs X).length=xs.length:=by unfold getX; simp [hXs]
   have hrl:(rowC c X).length=xs.length*e.size:=by rw [rowC_len hlen,hXs]
   refine back w X (some b) (fun b' e => by cases e; exact hbf) hw ⟨_,(X.toList.map c).flatten,fr,rfl,hj,⟨?_,.inr ⟨b,cap,(rowC c X ++ cur.toList.drop (xs.length*e.size)).toArray,by rw [hlx],Nat.zero_le _,hwb b rfl,by rw [hlx]; exact hncap,hcap,?_,?_⟩⟩,hef,hdf⟩
   ·rw [hlx]; exact hrl
   ·have h1:cur.toList.length=cap*e.size:=by simpa using hcs
    have h2:xs.length*e.size≤cap*e.size:=Nat.mul_le_mul_right _ hncap
    simp only [List.size_toArray,List.length_append,List.length_drop]
    omega
   ·rw [hlx]
    have:(rowC c X) = (X.toList.map c).flatten:=rfl
    simp only []
    rw [List.take_append_of_le_length (by omega),← this,List.take_of_length_le (by omega)]
theorem so_turn3 (h:RelX Z F w0 Wr Zi N S a w1) {k te tb:Nat} {sb e:Sh} {nx:List e.den → (Sh.pt true tb sb).den} {xs:List e.den} {vk v:Value} {B:Option Nat} {A:Option Addr} {cp:Nat} {c:Nat→List Value} {rest:List Value} (hvk:a.tmps[k]?=some vk) (hr:SoRow3 Z w1 te e nx xs vk v (F k) B A cp c rest) {lt:Nat→Nat→Bool}
 {X:Array Nat} {w:World} {f:Fp} (hJ:(soFam w1 B te c rest xs.length lt).J X w f) (hos:w.os=w1.os) (htp:w.tape=w1.tape) (hout:w.output=w1.output) :
 RelX Z F w0 Wr Zi N (S.put k (.val (.pt true tb sb) (nx (getX e.dflt xs X)))) a w:=by
 obtain ⟨j1,j2,j3,j4⟩:=hJ
 have hrep:=hr.rep X w j2 j3 (fun b hb => (j4 b hb).2)
 have hgr:Grow (fun i => B=some i) w1 w:=⟨hos,htp,hout,so_size (lt:=lt) ⟨j1,j2,j3,j4⟩,fun i hi hn => j3 i hi hn⟩
 have h2:=h.turn (k:=k) (s:=.pt true tb sb) (x:=nx (getX e.dflt xs X)) (v:=vk) (w':=w) (f:=F k) (U:=fun i => B=some i) (Zn:=fun _ => False) hvk hgr (fun i hi => (hr.blk i hi).2.1) (fun i hi => hi.elim)
  (fun i hi => ⟨Nat.lt_of_lt_of_le (h.lt k i hi) hgr.size,.inl hi,id⟩) (VRep.same (fun i hi => .inl hi) (fun i _ => rfl) (fun i _ => rfl) hrep)
 have e1:(fun i => Z i∨False)=Z:=funext fun i => propext ⟨fun h => h.elim id False.elim,.inl⟩
 have e2:(fun t => if t=k then F k else F t)=F:=funext fun t => by
  by_cases ht:t=k
  ·rw [if_pos ht,ht]
  ·rw [if_neg ht]
 rw [e1,e2] at h2
 exact h2
theorem so_less3 (h:RelX Z F w0 Wr Zi N S a w1) {k te tb:Nat} {sb e:Sh} {nx:List e.den → (Sh.pt true tb sb).den} {xs:List e.den} {vk v:Value} {B:Option Nat} {A:Option Addr} {cp:Nat} {c:Nat→List Value} {rest:List Value} (hvk:a.tmps[k]?=some vk) (hr:SoRow3 Z w1 te e nx xs vk v (F k) B A cp c rest) {lt:Nat→Nat→Bool}
 {ops : List Operand} {g : Nat} (hfn : ∃ fn, P.funcs[g]? = some fn ∧ (fn.name == "runtime.NumGoroutine") = false ∧ fn.body.isSome = true)
 (hcl:∀ X:Array Nat,X.toList.Perm (List.range xs.length)→∃ caps cs,capsO T (S.put k (.val (.pt true tb sb) (nx (getX e.dflt xs X)))) ops=some caps∧capsV (S.put k (.val (.pt true tb sb) (nx (getX e.dflt xs X)))) caps=some cs ∧
  ∀ i j:Nat,i < X.size→j < X.size→PCall P g (⟨.int .i64,(i:Int)⟩ :: ⟨.int .i64,(j:Int)⟩ :: cs) [⟨.bool,lt X[i]! X[j]!⟩]) :
 ∀ (X:Array Nat) (i j:Int),inX X i j→GLess P (.func (.func g) #[] (ops.map a.eval).toArray) (soFam w1 B te c rest xs.length lt) X i j (lessF (soFam w1 B te c rest xs.length lt) X i j):=by
 intro X i j hX
 refine ⟨g,_,rfl,hfn,?_⟩
 intro w f hJ
 obtain ⟨⟨i0,i1⟩,i2,i3⟩:=hX
 obtain ⟨p,rfl⟩:∃ p:Nat,i = (p:Int):=⟨i.toNat,by omega⟩
 obtain ⟨q,rfl⟩:∃ q:Nat,j = (q:Int):=⟨j.toNat,by omega⟩
 obtain ⟨caps,cs,hco,hcv,hpc⟩:=hcl X hJ.2.1
 have hJ2:(soFam w1 B te c rest xs.length lt).J X { w1 with heap:=w.heap } f:=hJ
 have h2:=so_turn3 (w:={ w1 with heap:=w.heap }) h hvk hr hJ2 rfl rfl rfl
 obtain ⟨hl,hrp⟩:=capsO_rep h2 hco
 have hv:=capsV_rep h2 hcv (vs:=ops.map a.eval) (by rw [List.length_map,hl]) hrp
 have hv2:VReps (fun i => i < w1.heap.size) w cs (ops.map a.eval) (fun _ => False):=VReps.same (Z:=fun i => Z i∨∃ s,F s i) (Z':=fun i => i < w1.heap.size) (w:={ w1 with heap:=w.heap }) (w':=w) (fun i hi => by
  rcases hi with hi | ⟨s,hi⟩
  ·exact h.zlt i hi
  ·exact h.lt s i hi) (fun i _ => rfl) (fun i hi => hi.elim) hv
 obtain ⟨_,hcall⟩:=hpc p q (by omega) (by omega)
 have hargs:VReps (fun i => i < w1.heap.size) w (⟨.int .i64,(p:Int)⟩ :: ⟨.int .i64,(q:Int)⟩ :: cs) (.int .i64 (p:Int) :: .int .i64 (q:Int) :: ops.map a.eval) (fun _ => False) :=
  vreps_cons ⟨_,⟨rfl,fun _ => id⟩,rfl⟩ (vreps_cons ⟨_,⟨rfl,fun _ => id⟩,rfl⟩ hv2)
 have hsz:=so_size hJ
 have hc:=hcall _ w _ (fun i hi => Nat.lt_of_lt_of_le hi hsz) hargs
 have harr:(#[Value.int .i64 (p:Int),Value.int .i64 (q:Int)] ++ (ops.map a.eval).toArray) = (Value.int .i64 (p:Int) :: Value.int .i64 (q:Int) :: ops.map a.eval).toArray:=by
  apply Array.toList_inj.1; simp
 rw [harr]
 refine hc.mono ?_
 rintro e1 w' ⟨vs,Fr,Zn,rfl,_,hvs,_,hgr⟩
 obtain ⟨v,r,_,_,rfl,_,_,hv1,rfl,_⟩:=hvs
 obtain ⟨cs1,⟨hc1,_⟩,hval⟩:=hv1
 simp only [ValOf] at hval
 subst hval
 refine ⟨?_,hgr⟩
 have:v=.bool (lt X[p]! X[q]!):=by simpa using hc1
 rw [this]
 rfl
end
def LinOk {α:Type} (d:α) (f:List α→Int→Int→Option Bool):Prop:=LessOk d f∧∀ a b,ofLess f a b=false→ofLess f b a=false→a=b
theorem sortR_same {α:Type} {d:α} {L:α→α→Bool} (hL:SWO L) (hlin:∀ a b,L a b=false→L b a=false→a=b) {xs ys:List α} (hp:ys.Perm xs):sortR pdqR d L ys=sortR pdqR d L xs:=by
 obtain ⟨p1,o1⟩:=sortR_ok (d:=d) hL ys
 obtain ⟨p2,o2⟩:=sortR_ok (d:=d) hL xs
 exact List.Perm.eq_of_pairwise (le:=fun a b => L b a=false) (fun a b _ _ h1 h2 => hlin a b h2 h1) o1 o2 ((p1.trans hp).trans p2.symm)
section
variable {P:Program} {T:Tbl} {w0:World} {Wr Zi:Fp} {N:Fr} {S S' S1:SS} {a:Act} {w:World} {Q:Exit→Act→World→Prop}
theorem wp_sort3_seq (hT:TOk P T) {id:Nat} {ops:Array Oper} {rest:Code} {o0 o1 o2 o3 o4:Oper} {fs t te k b1 d1 d2 d3 g tb:Nat} {sb e:Sh} {p:Path} {orc:Nat→List TV} {ct:List Prop}
 (hs:SortC P fs t te e.size pdqR) {cap:Array Operand} {tys:Array TypeId} {cl:List Nat} {xs ys:List e.den} {x0:(Sh.pt true tb sb).den} (nx:List e.den → (Sh.pt true tb sb).den) (h:Rel w0 Wr Zi N S a w) (hops:ops.toList=[o0,o1,o2,o3,o4])
 (hpre:steps T P N orc ops [o0,o1] S=some (S1,ct)) (hct:AllP ct) (e3:o2.op=.makeInterface t (.tmp b1)) (e4:o2.dst=some d1) (e5:o2.guard=none) (e6:o3.op=.makeFunc (.func g) #[] cap) (e7:o3.dst=some d2) (e8:o3.guard=none)
 (e9:o4.op=.call { callee:=.value (.func fs),args:=#[.tmp d1,.tmp d2],argTypes:=tys }) (e10:o4.dst=some d3) (e11:o4.guard=none) (hcap:cap.toList=cl.map Operand.tmp)
 (hb:sortB N k [d1,d2,d3] cl=true) (hdd:Nat.beq d1 d2=false)
 (hg:S1.get k=some (.val (.pt true tb sb) x0)) (hq:S1.get b1=some (.copy k p)) (hp:p≠[]) (hat:getAt (.pt true tb sb) x0 p=some ⟨.sl true te e,ys⟩) (hu:∀ ys:List e.den,upd (.pt true tb sb) x0 p ⟨.sl true te e,ys⟩=some ⟨.pt true tb sb,nx ys⟩)
 (hcon:P.concrete t=true) (hlen:ys.length < 2305843009213693952)
 (hfs : ∃ fn, P.funcs[fs]? = some fn ∧ (fn.name == "runtime.NumGoroutine") = false ∧ fn.body.isSome = true) (hfn : ∃ fn, P.funcs[g]? = some fn ∧ (fn.name == "runtime.NumGoroutine") = false ∧ fn.body.isSome = true)
 {f:List e.den→Int→Int→Option Bool} (hL:LinOk e.dflt f) (hperm:ys.Perm xs)
 (hcl:∀ zs:List e.den,∃ caps cs,capsO T (S1.put k (.val (.pt true tb sb) (nx zs))) cap.toList=some caps∧capsV (S1.put k (.val (.pt true tb sb) (nx zs))) caps=some cs ∧
  ∀ (i j:Int) (r:Bool),f zs i j=some r→PCall P g (⟨.int .i64,i⟩ :: ⟨.int .i64,j⟩ :: cs) [⟨.bool,r⟩])
 (hrest:∀ a' w',Rel w0 Wr Zi N ((((S1.put k (.val (.pt true tb sb) (nx (sortR pdqR e.dflt (ofLess f) xs)))).put d1 anyS).put d2 anyS).put d3 anyS) a' w'→rest.wp P Q a' w'):((Code.region id ops false).seq rest).wp P Q a w:=by
 rw [← sortR_same hL.1.1 hL.2 hperm] at hrest
 have hbb:=fun d hd => List.all_eq_true.1 hb d hd
 simp only [Bool.and_eq_true] at hbb
 have hlt:∀ d ∈ [d1,d2,d3],d < N.n∧d ∉ N.keep∧d≠k∧∀ s ∈ cl,s≠d:=fun d hd => by
  obtain ⟨⟨⟨q1,q2⟩,q3⟩,q4⟩:=hbb d hd
  refine ⟨by simpa [Nat.blt_eq] using q1,fun hm => ?_,beq_ne q3,fun s hs => beq_ne (List.all_eq_true.1 q4 s hs)⟩
  have:N.keep.any (Nat.beq d)=true:=List.any_eq_true.2 ⟨d,hm,by simp⟩
  rw [this] at q2
  cases q2
 obtain ⟨l1,k1,n1,c1⟩:=hlt d1 (by simp)
 obtain ⟨l2,k2,n2,c2⟩:=hlt d2 (by simp)
 obtain ⟨l3,k3,n3,c3⟩:=hlt d3 (by simp)
 have n12:d1≠d2:=fun e => by simp [e] at hdd
 refine wp_seq (wp_region_list ?_)
 rw [hops]
 refine steps_then (l:=[o0,o1]) hT h hpre hct ?_
 rintro a w ⟨Z,F,hX⟩
 obtain ⟨vk,v,B,A,cp,c,rst,hvk,hvq,hr⟩:=so_row3 hX hg hq hp hat hu
 obtain rfl:=hr.v_eq
 have hts:=hX.tsize
 refine wpL_val e5 (v:=.iface t (.slice A ys.length cp)) (w':=w) (by simp [execOp,e3,eval_of hvq,run_makeInterface _ t _ hcon]) ?_
 rw [e4]
 have hsame:∀ s,s≠d1 → (a.put (some d1) (.iface t (.slice A ys.length cp))).eval (.tmp s)=a.eval (.tmp s):=fun s h1 => by
  rw [eval_tmp,eval_tmp,Array.getD_eq_getD_getElem?,Array.getD_eq_getD_getElem?,put_other _ _ _ _ h1]
 have hvals:cap.map (a.put (some d1) (.iface t (.slice A ys.length cp))).eval = (cap.toList.map a.eval).toArray:=by
  apply Array.toList_inj.1
  simp only [Array.toList_map]
  rw [hcap,List.map_map,List.map_map]
  exact List.map_congr_left fun s hs => hsame s (c1 s hs)
 refine wpL_val e8 (v:=.func (.func g) #[] (cap.toList.map a.eval).toArray) (w':=w) (by simp [execOp,e6,Instr.makeFunc,hvals]) ?_
 rw [e7]
 refine wpList_step fun K hK => ?_
 rw [if_pos (by simp [Region.wanted,e11])]
 unfold Oper.wp
 obtain ⟨a2,ha2⟩:∃ a2,a2 = (a.put (some d1) (.iface t (.slice A ys.length cp))).put (some d2) (.func (.func g) #[] (cap.toList.map a.eval).toArray):=⟨_,rfl⟩
 rw [← ha2]
 have g1:a2.eval (.tmp d1)=.iface t (.slice A ys.length cp):=by
  rw [ha2,eval_of]
  rw [put_other _ _ _ _ n12,put_same _ _ _ (by simp [hts,l1])]
 have g2:a2.eval (.tmp d2)=.func (.func g) #[] (cap.toList.map a.eval).toArray:=by
  rw [ha2,eval_of]
  rw [put_same _ _ _ (by simp [Act.put,hts,l2])]
 obtain ⟨fn,hfn1,hfn2,hfn3⟩:=hfs
 have hr3:(execOp a2.eval o4).run P w=.ok (.enter fs #[.iface t (.slice A ys.length cp),.func (.func g) #[] (cap.toList.map a.eval).toArray]) w:=by
  have hname' : ¬ fn.name = "runtime.NumGoroutine" := by simpa using hfn2
  have hbody':¬ fn.body=none:=by intro e; rw [e] at hfn3; cases hfn3
  have hev:a2.eval (.func fs)=.func (.func fs) #[] #[]:=rfl
  simp [execOp,e9,resolve,hev,g1,g2,Deferred.ofValue,invoke,callFunc,hfn1,hname',hbody']
 rw [hr3,Oper.upon_enter]
 have hlt:SWO (fun p q => ofLess f (ys.getD p e.dflt) (ys.getD q e.dflt)):=⟨fun x => hL.1.1.irrefl _,fun x y z => hL.1.1.trans _ _ _,fun x y z => hL.1.1.ntrans _ _ _⟩
 have hless:=so_less3 (P:=P) (T:=T) (lt:=fun p q => ofLess f (ys.getD p e.dflt) (ys.getD q e.dflt)) hX hvk hr (ops:=cap.toList) hfn (fun X hXp => by
  have hxl:(getX e.dflt ys X).length=ys.length:=by unfold getX; simp [perm_size hXp]
  obtain ⟨caps,cs,q1,q2,q3⟩:=hcl (getX e.dflt ys X)
  refine ⟨caps,cs,q1,q2,fun i j hi hj => ?_⟩
  have hsz:=perm_size hXp
  have hget:∀ i,i < X.size → (getX e.dflt ys X).getD i e.dflt=ys.getD X[i]! e.dflt:=fun i hi => by
   unfold getX
   simp [List.getD_eq_getElem?_getD,hi]
  have:=q3 i j _ (hL.1.2 (getX e.dflt ys X) i j (by omega) (by omega))
  rw [hget i hi,hget j hj] at this
  exact this)
 have hc:=hs w B A ys.length cp c rst _ g _ hlen (fun b hb' => ⟨(hr.blk b hb').1,hX.lt k b (hr.blk b hb').2.1,(hr.blk b hb').2.2⟩) hr.nil hr.sz hr.one hlt hless
 refine hc.mono ?_
 rintro e' w' ⟨rfl,f',hJ,hgr⟩
 refine hK _ _ (hrest _ _ ?_)
 rw [e10]
 have h1:=so_turn3 hX hvk hr hJ hgr.os hgr.tape hgr.output
 obtain ⟨F2,h3⟩:=h1.any (.iface t (.slice A ys.length cp)) l1 k1
 obtain ⟨F3,h4⟩:=h3.any (.func (.func g) #[] (cap.toList.map a.eval).toArray) l2 k2
 obtain ⟨F4,h5⟩:=h4.any (.tuple #[]) l3 k3
 rw [ha2]
 exact ⟨_,_,h5⟩
end
end Go.Vm
