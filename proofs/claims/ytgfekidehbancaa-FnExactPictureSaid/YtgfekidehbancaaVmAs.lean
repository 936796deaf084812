/- Appending a string's bytes to a row that is owned. -/
import Derived.Test.YtgfekidehbancaaVmZm
import Derived.Lib.AppendStr
set_option linter.unusedVariables false
set_option linter.unusedSimpArgs false
namespace Go.Vm
open Go
def strNums (s:ByteArray):List Int:=s.data.toList.map fun b => (b.toNat:Int)
theorem strNums_cells (s:ByteArray):(strNums s).map (Value.int .u8)=Lib.strCells s:=by
 unfold strNums Lib.strCells
 rw [List.map_map]
 rfl
theorem strNums_len (s:ByteArray):(strNums s).length=s.size:=by
 unfold strNums
 rw [List.length_map,Array.length_toList]
 rfl
abbrev u8:Sh:=.int .u8
theorem u8_rep {Z:Fp} {w:World}:∀ xs:List Int,RRep (CRep Z w u8) xs (xs.map (Value.int .u8)) (fun _ => False)
 | [] => ⟨rfl,fun _ => id⟩
 | x :: xs => ⟨[.int .u8 x],xs.map (Value.int .u8),fun _ => False,fun _ => False,rfl,fun i => ⟨.inl,fun h => h.elim id id⟩,fun i h => h.elim,⟨rfl,fun i => id⟩,u8_rep xs⟩
section
variable {P:Program} {Z:Fp} {w:World}
theorem u8_own {t:Nat} {xs:List Int} {v:Value} {f:Fp} (h:CRep Z w (.sl true t u8) xs [v] f):ownsR w 0 t 1 v xs.length (xs.map (Value.int .u8))∧∀ i,f i↔v.ownBlock=some i:=by
 obtain ⟨v',inner,fx,hvv,hrr,ho,hfe,hfd⟩:=h
 obtain rfl:v=v':=by simpa using hvv
 have hin:=bytes_inner hrr
 subst hin
 have hfx:∀ i,¬ fx i:=RRep.none_ (fun x cs f hx => CRep.noOwn rfl hx) hrr
 exact ⟨ho,fun i => (hfe i).trans ⟨fun h => h.elim id (fun h => absurd h (hfx i)),.inl⟩⟩
theorem u8_mk {t:Nat} {xs:List Int} {v:Value} (h:ownsR w 0 t 1 v xs.length (xs.map (Value.int .u8))):CRep Z w (.sl true t u8) xs [v] (fun i => v.ownBlock=some i) :=
 ⟨v,_,fun _ => False,rfl,u8_rep xs,h,fun i => ⟨.inl,fun h => h.elim id False.elim⟩,fun i _ h => h⟩
theorem appS_run {t u te:Nat} {info:TypeInfo} (hd:P.underlying t=some (.slice te)) (hu:P.underlying u=some .string) (hinfo:P.info? te=some info) (hz:info.zero=some (.int .u8 0)) (hsz:info.size=1) (hby:info.bytes=1)
 {xs:List Int} {s:ByteArray} {vx:Value} {f:Fp} (hx:CRep Z w (.sl true te u8) xs [vx] f) (hb:xs.length+s.size≤140737488355328) (ty:Nat) :
 ∃ v' w' f',(Builtin.append_ #[t,u] ty #[vx,.string s]).run P w=.ok v' w'∧CRep Z w' (.sl true te u8) (xs ++ strNums s) [v'] f'∧Grow (fun i => vx.ownBlock=some i) w w' ∧
   (∀ i,f' i→i < w'.heap.size ∧ (w.heap.size≤i∨f i))∧CRep Z w' (.sl true te u8) xs [vx] f:=by
 obtain ⟨ho,hf⟩:=u8_own hx
 have hlen:((xs ++ strNums s).map (Value.int .u8)).length = (xs ++ strNums s).length*1:=by simp
 have hll:(xs ++ strNums s).length=xs.length+s.size:=by rw [List.length_append,strNums_len]
 have hcat:(xs ++ strNums s).map (Value.int .u8)=xs.map (Value.int .u8) ++ Lib.strCells s:=by rw [List.map_append,strNums_cells]
 have old:∀ w1:World,(∀ i,vx.ownBlock=some i→w1.heap[i]?=w.heap[i]?)→CRep Z w1 (.sl true te u8) xs [vx] f:=fun w1 h1 => by
  have e:f=fun i => vx.ownBlock=some i:=funext fun i => propext (hf i)
  rw [e]
  exact u8_mk (owns_same ho h1)
 have fresh:∀ (cap:Nat) (cur:Array Value),xs.length+s.size≤cap→cap≤maxLen→cur.size=cap→cur.toList.take (xs.length+s.size)=xs.map (Value.int .u8) ++ Lib.strCells s →
  ∀ w1:World,w1=w.drew.alloc (.cells cur te)→∃ f',CRep Z w1 (.sl true te u8) (xs ++ strNums s) [.slice (some ⟨w.heap.size,0,none⟩) (xs.length+s.size) cap] f'∧Grow (fun i => vx.ownBlock=some i) w w1 ∧ (∀ i,f' i→i < w1.heap.size ∧ (w.heap.size≤i∨f i))∧CRep Z w1 (.sl true te u8) xs [vx] f:=by
  intro cap cur h1 h2 h3 h4 w1 hw
  have hsame:∀ i,i < w.heap.size→w1.heap[i]?=w.heap[i]?:=fun i hi => by rw [hw]; exact heap_alloc_old w.drew _ hi
  have hnew:w1.heap[w.heap.size]?=some (.cells cur te (0,0)):=by rw [hw]; exact heap_alloc_new w.drew _
  have hsize:w1.heap.size=w.heap.size+1:=by rw [hw]; simp
  refine ⟨_,u8_mk ⟨hlen,.inr ⟨w.heap.size,cap,cur,by rw [hll],Nat.zero_le _,⟨(0,0),hnew,.inl rfl⟩,by rw [hll]; exact h1,h2,by rw [h3,Nat.mul_one],by rw [hll,Nat.mul_one,hcat]; exact h4⟩⟩,⟨by rw [hw]; rfl,by rw [hw]; rfl,by rw [hw]; rfl,by omega,fun i hi _ => hsame i hi⟩,?_,old w1 (fun i hi => hsame i (owns_lt ho i hi))⟩
  intro i hi
  have:w.heap.size=i:=by simpa [Value.ownBlock] using hi
  exact ⟨by omega,.inl (by omega)⟩
 have hmax:xs.length+s.size≤maxLen:=by unfold maxLen; omega
 rcases ho.2 with ⟨rfl,hn0⟩ | ⟨g,cap,cur,rfl,_,hg,hnc,hcm,hcs,htake⟩
 ·have hx0:xs=[]:=List.eq_nil_of_length_eq_zero hn0
  subst hx0
  by_cases hm:s.size=0
  ·have hs0:strNums s=[]:=List.eq_nil_of_length_eq_zero (by rw [strNums_len]; exact hm)
   refine ⟨.slice none 0 0,w,f,?_,by rw [hs0]; exact hx,Grow.refl _ _,fun i hi => ⟨CRep.lt hx i hi,.inr hi⟩,hx⟩
   have hf1:=Lib.run_firstCells_string (P:=P) w 1 s
   rw [hm] at hf1
   simp [Builtin.append_,run_underlying hd,run_underlying hu,sizeOf,typeInfo,hinfo,hsz,Builtin.lenOf,hm,hf1]
  ·have hr:=run_append_nil_string (P:=P) w t u ty te info (.int .u8 0) hd hu hinfo hz s (by omega) (by omega) (by rw [hby]; omega)
   have e1:(s.data.map fun b => Value.int .u8 b.toNat) = (Lib.strCells s).toArray:=by
    apply Array.ext'
    simp [Lib.strCells]
   rw [e1] at hr
   have hge:=grownCap_ge w s.size 0 te
   obtain ⟨f',k1,k2,k3,k4⟩:=fresh (grownCap w s.size 0 te) ((Lib.strCells s).toArray ++ Builtin.zeroCells (Value.int .u8 0).cells (grownCap w s.size 0 te - s.size)) (by simpa using hge) (grownCap_le_maxLen w s.size 0 te (by simpa using hmax)) (by
    have hz1:(Value.int IntKind.u8 0).cells.size=1:=rfl
    simp only [Array.size_append,List.size_toArray,size_zeroCells,hz1,Lib.strCells_length]
    omega) (by
    have hl:=Lib.strCells_length s
    simp only [Array.toList_append,List.length_nil,Nat.zero_add,List.map_nil,List.nil_append]
    rw [← hl]
    exact List.take_left) _ rfl
   simp only [List.length_nil,Nat.zero_add] at k1
   exact ⟨_,_,f',hr,k1,k2,k3,k4⟩
 ·have hcs':cur.size=cap:=by simpa using hcs
  have ht':cur.toList.take xs.length=xs.map (Value.int .u8):=by simpa using htake
  by_cases hroom:xs.length+s.size≤cap
  ·obtain ⟨fz,hg,hq⟩:=hg
   have hr:(Builtin.append_ #[t,u] ty #[.slice (some ⟨g,0,none⟩) xs.length cap,.string s]).run P w=.ok (.slice (some ⟨g,0,none⟩) (xs.length+s.size) cap) (w.setRow g (cur.toList.take xs.length ++ Lib.strCells s ++ cur.toList.drop (xs.length+s.size)).toArray):=by
    have hfc:=Lib.run_firstCells_string (P:=P) w 1 s
    have hst:=storeQ P g xs.length te fz (Lib.strCells s) 0 cur w hg hq (by rw [Lib.strCells_length]; omega) (Lib.strCells_oneCell s)
    simp only [Nat.add_zero,Lib.strCells_length] at hst
    simp [Builtin.append_,run_underlying hd,run_underlying hu,sizeOf,typeInfo,hinfo,hsz,Builtin.lenOf,hroom,hfc,Addr.add_lit,hst]
   have hsame:∀ (cs:Array Value) (i:Nat),i≠g → (w.setRow g cs).heap[i]?=w.heap[i]?:=fun cs i hi => setRow_other w g i cs hi
   have hlt:g < w.heap.size:=(Array.getElem?_eq_some_iff.1 hg).1
   have hsz2:(cur.toList.take xs.length ++ Lib.strCells s ++ cur.toList.drop (xs.length+s.size)).length=cap:=by
    simp only [List.length_append,List.length_take,List.length_drop,Array.length_toList,Lib.strCells_length]
    omega
   have hv:CRep Z (w.setRow g (cur.toList.take xs.length ++ Lib.strCells s ++ cur.toList.drop (xs.length+s.size)).toArray) (.sl true te u8) (xs ++ strNums s) [.slice (some ⟨g,0,none⟩) (xs.length+s.size) cap] (fun i => (Value.slice (some ⟨g,0,none⟩) (xs.length+s.size) cap).ownBlock=some i):=by
    refine u8_mk ⟨hlen,.inr ⟨g,cap,_,by rw [hll],Nat.zero_le _,⟨fz,setRow_heap w g cur _ te _ hg,hq.cast (hcs'.trans (by rw [List.size_toArray,hsz2]))⟩,by rw [hll]; exact hroom,hcm,by rw [List.size_toArray,hsz2,Nat.mul_one],?_⟩⟩
    rw [hll,Nat.mul_one,hcat,ht']
    have hl:(xs.map (Value.int .u8) ++ Lib.strCells s).length=xs.length+s.size:=by rw [List.length_append,List.length_map,Lib.strCells_length]
    rw [← hl]
    exact List.take_left
   refine ⟨_,_,_,hr,hv,⟨rfl,rfl,rfl,by simp,fun i _ hi => hsame _ i (fun e => hi (by rw [e]; rfl))⟩,?_,?_⟩
   ·intro i hi
    have:g=i:=by simpa [Value.ownBlock] using hi
    subst this
    exact ⟨by simpa using hlt,.inr ((hf g).2 rfl)⟩
   ·have e:f=fun i => (Value.slice (some ⟨g,0,none⟩) xs.length cap).ownBlock=some i:=funext fun i => propext (hf i)
    rw [e]
    refine u8_mk ⟨ho.1,.inr ⟨g,cap,_,rfl,Nat.zero_le _,⟨fz,setRow_heap w g cur _ te _ hg,hq.cast (hcs'.trans (by rw [List.size_toArray,hsz2]))⟩,hnc,hcm,by rw [List.size_toArray,hsz2,Nat.mul_one],?_⟩⟩
    simp only [List.toList_toArray,List.append_assoc,Nat.mul_one,ht']
    rw [List.take_append_of_le_length (by simp)]
    rw [List.take_of_length_le (by simp)]
  ·have holds:∀ j v,(xs.map (Value.int .u8))[j]?=some v→w.cell? ((⟨g,0,none⟩:Addr).add j)=some v:=ho.cells (g:=g) rfl
   have hr:=Lib.run_append_grow_string (P:=P) w t u ty te info (.int .u8 0) hd hu hinfo hz ⟨g,0,none⟩ xs.length cap (xs.map (Value.int .u8)) (by rw [hsz]; simp) holds s (by omega) (by omega) (by rw [hby]; exact growslice_fits (by omega) (by omega))
   have hge:=grownCap_ge w (xs.length+s.size) cap te
   obtain ⟨f',k1,k2,k3,k4⟩:=fresh (grownCap w (xs.length+s.size) cap te) ((xs.map (Value.int .u8)).toArray ++ (Lib.strCells s).toArray ++ Builtin.zeroCells (Value.int .u8 0).cells (grownCap w (xs.length+s.size) cap te - (xs.length+s.size))) hge (grownCap_le_maxLen w _ cap te hmax) (by
    have hz1:(Value.int IntKind.u8 0).cells.size=1:=rfl
    simp only [Array.size_append,List.size_toArray,size_zeroCells,hz1,Lib.strCells_length,List.length_map]
    omega) (by
    have hl:(xs.map (Value.int .u8) ++ Lib.strCells s).length=xs.length+s.size:=by rw [List.length_append,List.length_map,Lib.strCells_length]
    simp only [Array.toList_append,List.append_assoc]
    rw [← List.append_assoc,← hl]
    exact List.take_left) _ rfl
   exact ⟨_,_,f',hr,k1,k2,k3,k4⟩
end
end Go.Vm
