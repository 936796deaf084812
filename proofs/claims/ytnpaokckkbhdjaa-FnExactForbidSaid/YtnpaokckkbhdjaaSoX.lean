/- SoA, SoB, SoC, SoD, SoE -/
import Derived.Test.YtnpaokckkbhdjaaR7s
import Derived.Sort.AssemblyPlain
import Derived.Test.YtnpaokckkbhdjaaLawA
import Derived.Sort.LotD4
import Derived.Sort.LotD5
import Derived.Laws.Bits64
import Derived.Laws.Bits64b
import Derived.Sort.Walk13a
set_option linter.unusedVariables false
set_option linter.unusedSimpArgs false
open Go Go.Vm Go.Proofs
namespace Go.Proofs.Ytnpaokckkbhdjaa.S
section
open Go.Sort (swp insInner insOuter insertionSort siftDown heapBuild heapPop heapSort reverseLoop reverseRange)
theorem less_nat (fam:Fam) (X:Array Nat) (p q:Nat):lessF fam X (p:Int) (q:Int)=fam.lt X[p]! X[q]! := rfl
theorem swp_nat (X:Array Nat) (p q:Nat):swpF X (p:Int) (q:Int)=swp X p q:=rfl
theorem inX_nat {X:Array Nat} {p q:Nat}:inX X (p:Int) (q:Int)↔p < X.size∧q < X.size:=by
 unfold inX; omega
theorem wr {n:Int} {m:Nat} (h:n = (m:Int)) (hm:m≤9223372036854775807):IntKind.i64.wrap n = (m:Int):=by
 rw [h]; exact wrap_in (by omega) (by omega)
section
variable (fam:Fam) (k:Nat)
theorem insInner_size (a:Nat):∀ (j:Nat) (d:Array Nat),(insInner fam.lt a j d).size=d.size
 | 0,d => rfl
 | j+1,d => by
   rw [insInner]
   split
   ·rw [insInner_size a j,Go.Sort.size_swp]
   ·rfl
theorem l100_eq (a:Nat) (v:Int) (q:((Array Nat) × Int)→Option (Array Nat)):∀ (j m:Nat) (X:Array Nat),j < X.size→X.size < 4611686018427387904→j+1≤m →
 f186.l100 k (a:Int) fam v q m (X,(j:Int))=q (insInner fam.lt a j X,IntKind.i64.wrap (v+1))
 | 0,m,X,hj,hX,hm => by
   obtain ⟨m,rfl⟩:∃ n,m=n+1:=⟨m - 1,by omega⟩
   rw [f186.l100]
   have:decide (((0:Nat):Int) > (a:Int))=false:=by simp
   rw [this]
   simp [insInner]
 | j+1,m,X,hj,hX,hm => by
   obtain ⟨m,rfl⟩:∃ n,m=n+1:=⟨m - 1,by omega⟩
   rw [f186.l100]
   have e1:IntKind.i64.wrap (((j+1:Nat):Int) - 1) = (j:Int):=wr (by omega) (by omega)
   rw [e1,if_pos (fun _ => inX_nat.2 ⟨hj,by omega⟩),if_pos (inX_nat.2 ⟨hj,by omega⟩),less_nat,swp_nat,insInner]
   by_cases h1:j+1 > a
   ·have:decide (((j+1:Nat):Int) > (a:Int))=true:=by simp; omega
    rw [this]
    simp only [cond_true,h1,decide_true,Bool.true_and]
    by_cases h2:fam.lt X[j+1]! X[j]! = true
    ·rw [if_pos h2,if_pos h2,l100_eq a v q j m _ (by rw [Go.Sort.size_swp]; omega) (by rw [Go.Sort.size_swp]; omega) (by omega)]
    ·rw [if_neg h2,if_neg h2]
   ·have:decide (((j+1:Nat):Int) > (a:Int))=false:=by simp; omega
    rw [this]
    simp [h1]
theorem l186_eq (a b:Nat):∀ (n i m:Nat) (X:Array Nat),b - i=n→b≤X.size→X.size < 4611686018427387904→X.size+1≤k→n+1≤m →
 f186.l1 k (b:Int) (a:Int) fam m (X,(i:Int))=some (insOuter fam.lt a b i X)
 | 0,i,m,X,hn,hb,hX,hk,hm => by
   obtain ⟨m,rfl⟩:∃ n,m=n+1:=⟨m - 1,by omega⟩
   rw [f186.l1,insOuter]
   have:decide ((i:Int) < (b:Int))=false:=by simp; omega
   rw [this,if_neg (by simp),if_neg (by omega)]
 | n+1,i,m,X,hn,hb,hX,hk,hm => by
   obtain ⟨m,rfl⟩:∃ n,m=n+1:=⟨m - 1,by omega⟩
   rw [f186.l1,insOuter]
   have:decide ((i:Int) < (b:Int))=true:=by simp; omega
   rw [this,if_pos rfl,if_pos (by omega),l100_eq fam k a _ _ i k X (by omega) hX (by omega)]
   rw [wr (m:=i+1) (by omega) (by omega),l186_eq a b n (i+1) m _ (by omega) (by rw [insInner_size]; exact hb) (by rw [insInner_size]; exact hX) (by rw [insInner_size]; exact hk) (by omega)]
theorem f186_eq {a b:Nat} {X:Array Nat} (hab:a≤b) (hb:b≤X.size) (hX:X.size < 4611686018427387904) (hk:X.size+1≤k):f186 k fam X (a:Int) (b:Int)=some (insertionSort fam.lt X a b):=by
 unfold f186 insertionSort
 rw [wr (m:=a+1) (by omega) (by omega)]
 exact l186_eq fam k a b _ (a+1) k X rfl hb hX hk (by omega)
theorem siftDown_size (hi first:Nat):∀ (n root:Nat) (d:Array Nat),hi - root≤n → (siftDown fam.lt hi first root d).size=d.size
 | 0,root,d,hn => by
   rw [siftDown,dif_pos (by omega)]
 | n+1,root,d,hn => by
   rw [siftDown]
   split
   ·rfl
   ·split
    ·split
     ·rfl
     ·split
      ·rw [siftDown_size hi first n _ _ (by omega),Go.Sort.size_swp]
      ·rfl
    ·split
     ·rfl
     ·rw [siftDown_size hi first n _ _ (by omega),Go.Sort.size_swp]
theorem l212_eq (hi first:Nat):∀ (n root m:Nat) (X:Array Nat),hi - root≤n→first+hi≤X.size→X.size < 2305843009213693952→root≤X.size→n+1≤m →
 f212.l1 k (hi:Int) (first:Int) fam m (X,(root:Int))=some (siftDown fam.lt hi first root X):=by
 intro n
 induction n with
 | zero =>
   intro root m X hn hs hX hr hm
   obtain ⟨m,rfl⟩:∃ n,m=n+1:=⟨m - 1,by omega⟩
   rw [f212.l1,siftDown,dif_pos (by omega)]
   have e1:IntKind.i64.wrap ((2:Int) * (root:Int)) = ((2*root:Nat):Int):=wr (by omega) (by omega)
   have e2:IntKind.i64.wrap (((2*root:Nat):Int)+1) = ((2*root+1:Nat):Int):=wr (by omega) (by omega)
   rw [e1,e2]
   have:decide (((2*root+1:Nat):Int) ≥ (hi:Int))=true:=by simp; omega
   rw [this,if_pos rfl]
 | succ n ih =>
   intro root m X hn hs hX hr hm
   obtain ⟨m,rfl⟩:∃ n,m=n+1:=⟨m - 1,by omega⟩
   rw [f212.l1,siftDown]
   have e1:IntKind.i64.wrap ((2:Int) * (root:Int)) = ((2*root:Nat):Int):=wr (by omega) (by omega)
   have e2:IntKind.i64.wrap (((2*root:Nat):Int)+1) = ((2*root+1:Nat):Int):=wr (by omega) (by omega)
   have e3:IntKind.i64.wrap (((2*root+1:Nat):Int)+1) = ((2*root+2:Nat):Int):=wr (by omega) (by omega)
   rw [e1,e2,e3]
   by_cases h0:2*root+1 ≥ hi
   ·have:decide (((2*root+1:Nat):Int) ≥ (hi:Int))=true:=by simp; omega
    rw [this,if_pos rfl,dif_pos h0]
   ·have:decide (((2*root+1:Nat):Int) ≥ (hi:Int))=false:=by simp; omega
    rw [this,if_neg (by simp),dif_neg h0]
    have e4:IntKind.i64.wrap ((first:Int) + ((2*root+1:Nat):Int)) = ((first + (2*root+1):Nat):Int):=wr (by omega) (by omega)
    have e5:IntKind.i64.wrap (((first + (2*root+1):Nat):Int)+1) = ((first + (2*root+1)+1:Nat):Int):=wr (by omega) (by omega)
    rw [e4,e5,if_pos (fun hd => inX_nat.2 ⟨by omega,by have:=of_decide_eq_true hd; omega⟩),less_nat]
    have key:∀ c:Nat,c=2*root+1∨c=2*root+2→c < hi→f212.j21 k X (first:Int) (root:Int) fam (f212.l1 k (hi:Int) (first:Int) fam m) (c:Int)=if (!fam.lt X[first+root]! X[first+c]!)=true then some X else some (siftDown fam.lt hi first c (swp X (first+root) (first+c))):=by
     intro c hc hch
     unfold f212.j21
     have e6:IntKind.i64.wrap ((first:Int) + (root:Int)) = ((first+root:Nat):Int):=wr (by omega) (by omega)
     have e7:IntKind.i64.wrap ((first:Int) + (c:Int)) = ((first+c:Nat):Int):=wr (by omega) (by omega)
     simp only [e6,e7]
     rw [if_pos (inX_nat.2 ⟨by omega,by omega⟩),if_pos (inX_nat.2 ⟨by omega,by omega⟩),less_nat,swp_nat,ih c m _ (by omega) (by rw [Go.Sort.size_swp]; exact hs) (by rw [Go.Sort.size_swp]; exact hX) (by rw [Go.Sort.size_swp]; omega) (by omega)]
    by_cases h1:2*root+1+1 < hi
    ·have:decide (((2*root+2:Nat):Int) < (hi:Int))=true:=by simp; omega
     rw [this]
     simp only [cond_true,h1,decide_true,Bool.true_and]
     by_cases h2:fam.lt X[first + (2*root+1)]! X[first + (2*root+1)+1]! = true
     ·rw [if_pos h2,if_pos h2,key (2*root+2) (.inr rfl) (by omega)]
      split
      ·rfl
      ·rw [dif_pos trivial]
     ·rw [if_neg h2,if_neg h2,key (2*root+1) (.inl rfl) (by omega)]
      split <;> rfl
    ·have:decide (((2*root+2:Nat):Int) < (hi:Int))=false:=by simp; omega
     rw [this]
     simp only [cond_false,h1,decide_false,Bool.false_and,Bool.false_eq_true,if_false]
     rw [key (2*root+1) (.inl rfl) (by omega)]
     split <;> rfl
theorem f212_eq {lo hi first:Nat} {X:Array Nat} (hs:first+hi≤X.size) (hX:X.size < 2305843009213693952) (hlo:lo≤X.size) (hk:X.size+1≤k):f212 k fam X (lo:Int) (hi:Int) (first:Int)=some (siftDown fam.lt hi first lo X):=by
 unfold f212
 exact l212_eq fam k hi first (hi - lo) lo k X (Nat.le_refl _) hs hX hlo (by omega)
theorem l43_eq (first:Nat):∀ (n m:Nat) (X:Array Nat),first+n≤X.size→X.size < 2305843009213693952→X.size+1≤k→n+1≤m →
 f187.l43 k (first:Int) fam m (X,(n:Int) - 1)=some (heapPop fam.lt first n X)
 | 0,m,X,hs,hX,hk,hm => by
   obtain ⟨m,rfl⟩:∃ n,m=n+1:=⟨m - 1,by omega⟩
   rw [f187.l43]
   have:decide ((((0:Nat):Int) - 1) ≥ (0:Int))=false:=by simp
   rw [this,if_neg (by simp),heapPop]
 | n+1,m,X,hs,hX,hk,hm => by
   obtain ⟨m,rfl⟩:∃ n,m=n+1:=⟨m - 1,by omega⟩
   rw [f187.l43]
   have e0:((n+1:Nat):Int) - 1 = (n:Int):=by omega
   rw [e0]
   have:decide ((n:Int) ≥ (0:Int))=true:=by simp
   have e1:IntKind.i64.wrap ((first:Int) + (n:Int)) = ((first+n:Nat):Int):=wr (by omega) (by omega)
   rw [this,if_pos rfl,e1,if_pos (inX_nat.2 ⟨by omega,by omega⟩),swp_nat,show (0:Int) = ((0:Nat):Int) from rfl,
    f212_eq fam k (by rw [Go.Sort.size_swp]; omega) (by rw [Go.Sort.size_swp]; exact hX) (Nat.zero_le _) (by rw [Go.Sort.size_swp]; exact hk),Option.bind_some,wrap_in (by omega) (by omega),heapPop]
   exact l43_eq first n m _ (by rw [siftDown_size fam _ _ _ _ _ (Nat.le_refl _),Go.Sort.size_swp]; omega) (by rw [siftDown_size fam _ _ _ _ _ (Nat.le_refl _),Go.Sort.size_swp]; exact hX) (by rw [siftDown_size fam _ _ _ _ _ (Nat.le_refl _),Go.Sort.size_swp]; exact hk) (by omega)
theorem l22_eq (a b:Nat) (hab:a≤b):∀ (n m:Nat) (X:Array Nat),b≤X.size→X.size < 2305843009213693952→X.size+1≤k→n≤X.size+1→n+1≤m →
 f187.l22 k fam (b:Int) (a:Int) m (X,(n:Int) - 1)=some (heapPop fam.lt a (b - a) (heapBuild fam.lt (b - a) a n X))
 | 0,m,X,hb,hX,hk,hn,hm => by
   obtain ⟨m,rfl⟩:∃ n,m=n+1:=⟨m - 1,by omega⟩
   rw [f187.l22]
   have:decide ((((0:Nat):Int) - 1) ≥ (0:Int))=false:=by simp
   have e1:IntKind.i64.wrap ((b:Int) - (a:Int)) = ((b - a:Nat):Int):=wr (by omega) (by omega)
   rw [this,if_neg (by simp),e1,wrap_in (by omega) (by omega),heapBuild]
   exact l43_eq fam k a (b - a) k X (by omega) hX hk (by omega)
 | n+1,m,X,hb,hX,hk,hn,hm => by
   obtain ⟨m,rfl⟩:∃ n,m=n+1:=⟨m - 1,by omega⟩
   rw [f187.l22]
   have e0:((n+1:Nat):Int) - 1 = (n:Int):=by omega
   rw [e0]
   have:decide ((n:Int) ≥ (0:Int))=true:=by simp
   have e1:IntKind.i64.wrap ((b:Int) - (a:Int)) = ((b - a:Nat):Int):=wr (by omega) (by omega)
   rw [this,if_pos rfl,e1,f212_eq fam k (by omega) hX (by omega) hk,Option.bind_some,wrap_in (by omega) (by omega),heapBuild]
   have hsz:=siftDown_size fam (b - a) a _ n X (Nat.le_refl _)
   exact l22_eq a b hab n m _ (by rw [hsz]; exact hb) (by rw [hsz]; exact hX) (by rw [hsz]; exact hk) (by rw [hsz]; omega) (by omega)
theorem f187_eq {a b:Nat} {X:Array Nat} (hab:a≤b) (hb:b≤X.size) (hX:X.size < 2305843009213693952) (hk:X.size+3≤k):f187 k fam X (a:Int) (b:Int)=some (heapSort fam.lt X a b):=by
 unfold f187 heapSort
 rw [if_pos (by decide)]
 have e1:IntKind.i64.wrap ((b:Int) - (a:Int)) = ((b - a:Nat):Int):=wr (by omega) (by omega)
 rw [e1,wrap_in (n:=((b - a:Nat):Int) - 1) (by omega) (by omega)]
 have e2:Int.tdiv (((b - a:Nat):Int) - 1) 2 = (((b - a - 1) / 2+1:Nat):Int) - 1:=by
  rcases Nat.eq_zero_or_pos (b - a) with h0 | h0
  ·rw [h0]; rfl
  ·have:((b - a:Nat):Int) - 1 = ((b - a - 1:Nat):Int):=by omega
   rw [this,Int.tdiv_eq_ediv_of_nonneg (by omega)]
   omega
 rw [e2,wrap_in (by omega) (by omega)]
 exact l22_eq fam k a b hab _ k X hb hX (by omega) (by omega) (by omega)
theorem l190_eq:∀ (n i j m:Nat) (X:Array Nat),j - i≤n→j < X.size∨j≤i→X.size < 2305843009213693952→n+1≤m→i≤X.size+1→j≤X.size →
 f190.l1 k m (X,(i:Int),(j:Int))=some (reverseLoop i j X):=by
 intro n
 induction n with
 | zero =>
   intro i j m X hn hj hX hm hi hj2
   obtain ⟨m,rfl⟩:∃ n,m=n+1:=⟨m - 1,by omega⟩
   rw [f190.l1,reverseLoop]
   have:decide ((i:Int) < (j:Int))=false:=by simp; omega
   rw [this,if_neg (by simp),if_neg (by omega)]
 | succ n ih =>
   intro i j m X hn hj hX hm hi hj2
   obtain ⟨m,rfl⟩:∃ n,m=n+1:=⟨m - 1,by omega⟩
   rw [f190.l1,reverseLoop]
   by_cases h:i < j
   ·have:decide ((i:Int) < (j:Int))=true:=by simp; omega
    rw [this,if_pos rfl,if_pos h,if_pos (inX_nat.2 ⟨by omega,by omega⟩),swp_nat,wr (m:=i+1) (by omega) (by omega),wr (m:=j - 1) (by omega) (by omega)]
    exact ih (i+1) (j - 1) m _ (by omega) (by rw [Go.Sort.size_swp]; omega) (by rw [Go.Sort.size_swp]; exact hX) (by omega) (by rw [Go.Sort.size_swp]; omega) (by rw [Go.Sort.size_swp]; omega)
   ·have:decide ((i:Int) < (j:Int))=false:=by simp; omega
    rw [this,if_neg (by simp),if_neg h]
theorem f190_eq {a b:Nat} {X:Array Nat} (hab:a < b) (hb:b≤X.size) (hX:X.size < 2305843009213693952) (hk:X.size+1≤k):f190 k fam X (a:Int) (b:Int)=some (reverseRange X a b):=by
 unfold f190 reverseRange
 rw [wr (m:=b - 1) (by omega) (by omega)]
 exact l190_eq k (b - 1 - a) a (b - 1) k X (Nat.le_refl _) (.inl (by omega)) hX (by omega) (by omega) (by omega)
end
end
section
open Go.Sort (swp scanUp scanDown partLoop partition partEqLoop partitionEqual scanSorted shiftDown shiftUp partialIns partialInsertionSort)
section
variable (fam:Fam) (k:Nat)
theorem scanUp_le (p:Nat→Bool) (d:Array Nat) (j:Nat):∀ (n i:Nat),j+1 - i≤n→i≤j+1→scanUp p d j i≤j+1
 | 0,i,hn,hi => by
   rw [scanUp]
   split
   ·rename_i h; simp only [Bool.and_eq_true,decide_eq_true_eq] at h; omega
   ·exact hi
 | n+1,i,hn,hi => by
   rw [scanUp]
   split
   ·rename_i h; simp only [Bool.and_eq_true,decide_eq_true_eq] at h; exact scanUp_le p d j n (i+1) (by omega) (by omega)
   ·exact hi
theorem l247_eq (a i:Nat) (q:((Array Nat) × Int × Int)→Option (Int × Bool × (Array Nat))) (X:Array Nat) (hi:1≤i) (ha:a < X.size) (hX:X.size < 2305843009213693952):∀ (j m:Nat),j < X.size→j+1≤m →
 f193.l247 k (i:Int) X (a:Int) fam q m (j:Int)=if i > scanDown (fun x => !fam.lt x X[a]!) X i j then some (((scanDown (fun x => !fam.lt x X[a]!) X i j:Nat):Int),false,swp X (scanDown (fun x => !fam.lt x X[a]!) X i j) a)
  else q (swp X i (scanDown (fun x => !fam.lt x X[a]!) X i j),((i+1:Nat):Int),((scanDown (fun x => !fam.lt x X[a]!) X i j - 1:Nat):Int))
 | 0,m,hj,hm => by
   obtain ⟨m,rfl⟩:∃ n,m=n+1:=⟨m - 1,by omega⟩
   rw [f193.l247,scanDown]
   have e1:decide ((i:Int) ≤ ((0:Nat):Int))=false:=by simp; omega
   have e2:decide ((i:Int) > ((0:Nat):Int))=true:=by simp; omega
   rw [e1,e2,if_pos (by simp)]
   simp only [cond_false,Bool.false_eq_true,if_false,if_true]
   rw [if_pos (inX_nat.2 ⟨by omega,ha⟩),if_pos (by omega),swp_nat]
 | j+1,m,hj,hm => by
   obtain ⟨m,rfl⟩:∃ n,m=n+1:=⟨m - 1,by omega⟩
   rw [f193.l247,scanDown]
   rw [if_pos (fun _ => inX_nat.2 ⟨hj,ha⟩),less_nat]
   by_cases h1:i≤j+1
   ·have e1:decide ((i:Int) ≤ ((j+1:Nat):Int))=true:=by simp; omega
    rw [e1]
    simp only [cond_true,h1,decide_true,Bool.true_and]
    by_cases h2:(!fam.lt X[j+1]! X[a]!)=true
    ·rw [if_pos h2,if_pos h2,wr (m:=j) (by omega) (by omega)]
     exact l247_eq a i q X hi ha hX j m (by omega) (by omega)
    ·rw [if_neg h2,if_neg h2]
     have e2:decide ((i:Int) > ((j+1:Nat):Int))=false:=by simp; omega
     have h3:¬ i > j+1:=by omega
     rw [e2,if_neg (by simp),if_pos (inX_nat.2 ⟨by omega,hj⟩),if_neg h3,swp_nat,wr (m:=i+1) (by omega) (by omega),wr (m:=j) (by omega) (by omega)]
     rfl
   ·have e1:decide ((i:Int) ≤ ((j+1:Nat):Int))=false:=by simp; omega
    have e2:decide ((i:Int) > ((j+1:Nat):Int))=true:=by simp; omega
    rw [e1,e2]
    simp only [cond_false,h1,decide_false,Bool.false_and,Bool.false_eq_true,if_false,if_true]
    rw [if_pos (inX_nat.2 ⟨hj,ha⟩),if_pos (by omega),swp_nat]
theorem l232_eq (a j:Nat) (q:((Array Nat) × Int × Int)→Option (Int × Bool × (Array Nat))) (X:Array Nat) (hj:j < X.size) (ha:a < X.size) (hX:X.size < 2305843009213693952):∀ (n i m:Nat),j+1 - i≤n→n+1≤m →
 f193.l232 k (j:Int) X (a:Int) fam q m (i:Int)=f193.l247 k ((scanUp (fun x => fam.lt x X[a]!) X j i:Nat):Int) X (a:Int) fam q k (j:Int)
 | 0,i,m,hn,hm => by
   obtain ⟨m,rfl⟩:∃ n,m=n+1:=⟨m - 1,by omega⟩
   rw [f193.l232,scanUp]
   have e1:decide ((i:Int) ≤ (j:Int))=false:=by simp; omega
   have h1:¬ i≤j:=by omega
   rw [e1,if_pos (by simp)]
   simp [h1]
 | n+1,i,m,hn,hm => by
   obtain ⟨m,rfl⟩:∃ n,m=n+1:=⟨m - 1,by omega⟩
   rw [f193.l232,scanUp]
   by_cases h1:i≤j
   ·have e1:decide ((i:Int) ≤ (j:Int))=true:=by simp; omega
    rw [if_pos (fun _ => inX_nat.2 ⟨by omega,ha⟩),less_nat,e1]
    simp only [cond_true,h1,decide_true,Bool.true_and]
    by_cases h2:fam.lt X[i]! X[a]! = true
    ·rw [if_pos h2,if_pos h2,wr (m:=i+1) (by omega) (by omega)]
     exact l232_eq a j q X hj ha hX n (i+1) m (by omega) (by omega)
    ·rw [if_neg h2,if_neg h2]
   ·have e1:decide ((i:Int) ≤ (j:Int))=false:=by simp; omega
    rw [e1,if_pos (by simp)]
    simp [h1]
theorem l145_eq (a:Nat):∀ (n i j m:Nat) (X:Array Nat),j+1 - i≤n→1≤i→j < X.size→a < X.size→X.size < 2305843009213693952→X.size+2≤k→n+1≤m →
 f193.l145 k (a:Int) fam m (X,(i:Int),(j:Int))=some (((partLoop fam.lt a i j X).1:Int),false,swp (partLoop fam.lt a i j X).2 (partLoop fam.lt a i j X).1 a):=by
 intro n
 induction n with
 | zero =>
   intro i j m X hn hi hj ha hX hk hm
   obtain ⟨m,rfl⟩:∃ n,m=n+1:=⟨m - 1,by omega⟩
   have hu:=Go.Sort.scanUp_ge (fun x => fam.lt x X[a]!) X j i
   have hd:=Go.Sort.scanDown_le (fun x => !fam.lt x X[a]!) X (scanUp (fun x => fam.lt x X[a]!) X j i) j
   rw [f193.l145,l232_eq fam k a j _ X hj ha hX (j+1 - i) i k (Nat.le_refl _) (by omega),l247_eq fam k a _ _ X (by omega) ha hX j k hj (by omega),Go.Sort.partLoop_eq]
   rw [if_pos (by omega),if_pos (by omega)]
 | succ n ih =>
   intro i j m X hn hi hj ha hX hk hm
   obtain ⟨m,rfl⟩:∃ n,m=n+1:=⟨m - 1,by omega⟩
   have hu:=Go.Sort.scanUp_ge (fun x => fam.lt x X[a]!) X j i
   have hd:=Go.Sort.scanDown_le (fun x => !fam.lt x X[a]!) X (scanUp (fun x => fam.lt x X[a]!) X j i) j
   rw [f193.l145,l232_eq fam k a j _ X hj ha hX (j+1 - i) i k (Nat.le_refl _) (by omega),l247_eq fam k a _ _ X (by omega) ha hX j k hj (by omega),Go.Sort.partLoop_eq]
   by_cases h:scanUp (fun x => fam.lt x X[a]!) X j i > scanDown (fun x => !fam.lt x X[a]!) X (scanUp (fun x => fam.lt x X[a]!) X j i) j
   ·rw [if_pos h,if_pos h]
   ·rw [if_neg h,if_neg h]
    exact ih _ _ m _ (by omega) (by omega) (by rw [Go.Sort.size_swp]; omega) (by rw [Go.Sort.size_swp]; exact ha) (by rw [Go.Sort.size_swp]; exact hX) (by rw [Go.Sort.size_swp]; exact hk) (by omega)
theorem l24_eq (a i p:Nat) (X:Array Nat) (hi:1≤i) (ha:a < X.size) (hX:X.size < 2305843009213693952) (hk:X.size+2≤k):∀ (j m:Nat),j < X.size→i≤j+1→j+1≤m→∀ (d:Array Nat),d=swp X a p →
 f193.l24 k (i:Int) X (a:Int) (p:Int) fam m (j:Int)=if i > scanDown (fun x => !fam.lt x d[a]!) d i j then some (((scanDown (fun x => !fam.lt x d[a]!) d i j:Nat):Int),true,swp d (scanDown (fun x => !fam.lt x d[a]!) d i j) a)
  else f193.l145 k (a:Int) fam k (swp d i (scanDown (fun x => !fam.lt x d[a]!) d i j),((i+1:Nat):Int),((scanDown (fun x => !fam.lt x d[a]!) d i j - 1:Nat):Int))
 | 0,m,hj,hij,hm,d,hd => by
   obtain ⟨m,rfl⟩:∃ n,m=n+1:=⟨m - 1,by omega⟩
   have hs:d.size=X.size:=by rw [hd,Go.Sort.size_swp]
   rw [f193.l24,scanDown,swp_nat,← hd]
   have e1:decide ((i:Int) ≤ ((0:Nat):Int))=false:=by simp; omega
   have e2:decide ((i:Int) > ((0:Nat):Int))=true:=by simp; omega
   rw [e1,e2,if_pos (by simp)]
   simp only [cond_false,Bool.false_eq_true,if_false,if_true]
   rw [if_pos (inX_nat.2 ⟨by omega,by omega⟩),if_pos (by omega),swp_nat]
 | j+1,m,hj,hij,hm,d,hd => by
   obtain ⟨m,rfl⟩:∃ n,m=n+1:=⟨m - 1,by omega⟩
   have hs:d.size=X.size:=by rw [hd,Go.Sort.size_swp]
   rw [f193.l24,scanDown,swp_nat,← hd]
   rw [if_pos (fun _ => inX_nat.2 ⟨by omega,by omega⟩),less_nat]
   by_cases h1:i≤j+1
   ·have e1:decide ((i:Int) ≤ ((j+1:Nat):Int))=true:=by simp; omega
    rw [e1]
    simp only [cond_true,h1,decide_true,Bool.true_and]
    by_cases h2:(!fam.lt d[j+1]! d[a]!)=true
    ·rw [if_pos h2,if_pos h2,wr (m:=j) (by omega) (by omega)]
     exact l24_eq a i p X hi ha hX hk j m (by omega) (by omega) (by omega) d hd
    ·rw [if_neg h2,if_neg h2]
     have e2:decide ((i:Int) > ((j+1:Nat):Int))=false:=by simp; omega
     have h3:¬ i > j+1:=by omega
     rw [e2,if_neg (by simp),if_pos (inX_nat.2 ⟨by omega,by omega⟩),if_neg h3,swp_nat,wr (m:=i+1) (by omega) (by omega),wr (m:=j) (by omega) (by omega)]
     rfl
   ·have e1:decide ((i:Int) ≤ ((j+1:Nat):Int))=false:=by simp; omega
    have e2:decide ((i:Int) > ((j+1:Nat):Int))=true:=by simp; omega
    rw [e1,e2]
    simp only [cond_false,h1,decide_false,Bool.false_and,Bool.false_eq_true,if_false,if_true]
    rw [if_pos (inX_nat.2 ⟨by omega,by omega⟩),if_pos (by omega),swp_nat]
theorem l9_eq (a b p:Nat) (X:Array Nat) (hb:b≤X.size) (hab:a < b) (hX:X.size < 2305843009213693952):∀ (n i m:Nat),b - i≤n→i≤b→n+1≤m→∀ (d:Array Nat),d=swp X a p →
 f193.l9 k (b:Int) X (a:Int) (p:Int) fam m (i:Int)=f193.l24 k ((scanUp (fun x => fam.lt x d[a]!) d (b - 1) i:Nat):Int) X (a:Int) (p:Int) fam k ((b - 1:Nat):Int)
 | 0,i,m,hn,hi,hm,d,hd => by
   obtain ⟨m,rfl⟩:∃ n,m=n+1:=⟨m - 1,by omega⟩
   rw [f193.l9,scanUp,wr (m:=b - 1) (by omega) (by omega)]
   have e1:decide ((i:Int) ≤ ((b - 1:Nat):Int))=false:=by simp; omega
   have h1:¬ i≤b - 1:=by omega
   rw [e1,if_pos (by simp)]
   simp [h1]
 | n+1,i,m,hn,hi,hm,d,hd => by
   obtain ⟨m,rfl⟩:∃ n,m=n+1:=⟨m - 1,by omega⟩
   have hs:d.size=X.size:=by rw [hd,Go.Sort.size_swp]
   rw [f193.l9,scanUp,wr (m:=b - 1) (by omega) (by omega),swp_nat,← hd]
   by_cases h1:i≤b - 1
   ·have e1:decide ((i:Int) ≤ ((b - 1:Nat):Int))=true:=by simp; omega
    rw [if_pos (fun _ => inX_nat.2 ⟨by omega,by omega⟩),less_nat,e1]
    simp only [cond_true,h1,decide_true,Bool.true_and]
    by_cases h2:fam.lt d[i]! d[a]! = true
    ·rw [if_pos h2,if_pos h2,wr (m:=i+1) (by omega) (by omega)]
     exact l9_eq a b p X hb hab hX n (i+1) m (by omega) (by omega) (by omega) d hd
    ·rw [if_neg h2,if_neg h2]
   ·have e1:decide ((i:Int) ≤ ((b - 1:Nat):Int))=false:=by simp; omega
    rw [e1,if_pos (by simp)]
    simp [h1]
theorem f193_eq {a b p:Nat} {X:Array Nat} (hap:a≤p) (hpb:p < b) (hb:b≤X.size) (hX:X.size < 2305843009213693952) (hk:X.size+2≤k) :
 f193 k fam X (a:Int) (b:Int) (p:Int)=some (((partition fam.lt X a b p).1:Int),(partition fam.lt X a b p).2.1,(partition fam.lt X a b p).2.2):=by
 unfold f193 partition
 have hs:(swp X a p).size=X.size:=Go.Sort.size_swp _ _ _
 have hu:=Go.Sort.scanUp_ge (fun x => fam.lt x (swp X a p)[a]!) (swp X a p) (b - 1) (a+1)
 have hu2:=scanUp_le (fun x => fam.lt x (swp X a p)[a]!) (swp X a p) (b - 1) _ (a+1) (Nat.le_refl _) (by omega)
 rw [if_pos (inX_nat.2 ⟨by omega,by omega⟩),wr (m:=a+1) (by omega) (by omega),l9_eq fam k a b p X hb (by omega) hX (b - (a+1)) (a+1) k (Nat.le_refl _) (by omega) (by omega) _ rfl,
  l24_eq fam k a _ p X (by omega) (by omega) hX hk (b - 1) k (by omega) (by omega) (by omega) _ rfl]
 have hd:=Go.Sort.scanDown_le (fun x => !fam.lt x (swp X a p)[a]!) (swp X a p) (scanUp (fun x => fam.lt x (swp X a p)[a]!) (swp X a p) (b - 1) (a+1)) (b - 1)
 simp only []
 by_cases h:scanUp (fun x => fam.lt x (swp X a p)[a]!) (swp X a p) (b - 1) (a+1) > scanDown (fun x => !fam.lt x (swp X a p)[a]!) (swp X a p) (scanUp (fun x => fam.lt x (swp X a p)[a]!) (swp X a p) (b - 1) (a+1)) (b - 1)
 ·rw [if_pos h,if_pos h]
 ·rw [if_neg h,if_neg h,l145_eq fam k a _ _ _ k _ (Nat.le_refl _) (by omega) (by rw [Go.Sort.size_swp,hs]; omega) (by rw [Go.Sort.size_swp,hs]; omega) (by rw [Go.Sort.size_swp,hs]; exact hX) (by rw [Go.Sort.size_swp,hs]; exact hk) (by omega)]
end
end
section
open Go.Sort (swp scanUp scanDown partEqLoop partitionEqual scanSorted shiftDown shiftUp partialIns partialInsertionSort fixDown fixUp order2 median medianAdjacent choosePivot rawPivot hintOf hintCode)
section
variable (fam:Fam) (k:Nat)
theorem l215_eq (a i:Nat) (q:((Array Nat) × Int × Int)→Option (Int × (Array Nat))) (X:Array Nat) (hi:1≤i) (ha:a < X.size) (hX:X.size < 2305843009213693952):∀ (j m:Nat),j < X.size→j+1≤m →
 f192.l215 k (i:Int) X (a:Int) fam q m (j:Int)=if i > scanDown (fun x => fam.lt X[a]! x) X i j then some ((i:Int),X)
  else q (swp X i (scanDown (fun x => fam.lt X[a]! x) X i j),((i+1:Nat):Int),((scanDown (fun x => fam.lt X[a]! x) X i j - 1:Nat):Int))
 | 0,m,hj,hm => by
   obtain ⟨m,rfl⟩:∃ n,m=n+1:=⟨m - 1,by omega⟩
   rw [f192.l215,scanDown]
   have e1:decide ((i:Int) ≤ ((0:Nat):Int))=false:=by simp; omega
   have e2:decide ((i:Int) > ((0:Nat):Int))=true:=by simp; omega
   rw [e1,e2,if_pos (by simp)]
   simp only [cond_false,Bool.false_eq_true,if_false,if_true]
   rw [if_pos (by omega)]
 | j+1,m,hj,hm => by
   obtain ⟨m,rfl⟩:∃ n,m=n+1:=⟨m - 1,by omega⟩
   rw [f192.l215,scanDown]
   rw [if_pos (fun _ => inX_nat.2 ⟨ha,hj⟩),less_nat]
   by_cases h1:i≤j+1
   ·have e1:decide ((i:Int) ≤ ((j+1:Nat):Int))=true:=by simp; omega
    rw [e1]
    simp only [cond_true,h1,decide_true,Bool.true_and]
    by_cases h2:fam.lt X[a]! X[j+1]! = true
    ·rw [if_pos h2,if_pos h2,wr (m:=j) (by omega) (by omega)]
     exact l215_eq a i q X hi ha hX j m (by omega) (by omega)
    ·rw [if_neg h2,if_neg h2]
     have e2:decide ((i:Int) > ((j+1:Nat):Int))=false:=by simp; omega
     have h3:¬ i > j+1:=by omega
     rw [e2,if_neg (by simp),if_pos (inX_nat.2 ⟨by omega,hj⟩),if_neg h3,swp_nat,wr (m:=i+1) (by omega) (by omega),wr (m:=j) (by omega) (by omega)]
     rfl
   ·have e1:decide ((i:Int) ≤ ((j+1:Nat):Int))=false:=by simp; omega
    have e2:decide ((i:Int) > ((j+1:Nat):Int))=true:=by simp; omega
    rw [e1,e2]
    simp only [cond_false,h1,decide_false,Bool.false_and,Bool.false_eq_true,if_false,if_true]
    rw [if_pos (by omega)]
theorem l200_eq (a j:Nat) (q:((Array Nat) × Int × Int)→Option (Int × (Array Nat))) (X:Array Nat) (hj:j < X.size) (ha:a < X.size) (hX:X.size < 2305843009213693952):∀ (n i m:Nat),j+1 - i≤n→n+1≤m →
 f192.l200 k (j:Int) X (a:Int) fam q m (i:Int)=f192.l215 k ((scanUp (fun x => !fam.lt X[a]! x) X j i:Nat):Int) X (a:Int) fam q k (j:Int)
 | 0,i,m,hn,hm => by
   obtain ⟨m,rfl⟩:∃ n,m=n+1:=⟨m - 1,by omega⟩
   rw [f192.l200,scanUp]
   have e1:decide ((i:Int) ≤ (j:Int))=false:=by simp; omega
   have h1:¬ i≤j:=by omega
   rw [e1,if_pos (by simp)]
   simp [h1]
 | n+1,i,m,hn,hm => by
   obtain ⟨m,rfl⟩:∃ n,m=n+1:=⟨m - 1,by omega⟩
   rw [f192.l200,scanUp]
   by_cases h1:i≤j
   ·have e1:decide ((i:Int) ≤ (j:Int))=true:=by simp; omega
    rw [if_pos (fun _ => inX_nat.2 ⟨ha,by omega⟩),less_nat,e1]
    simp only [cond_true,h1,decide_true,Bool.true_and]
    by_cases h2:(!fam.lt X[a]! X[i]!)=true
    ·rw [if_pos h2,if_pos h2,wr (m:=i+1) (by omega) (by omega)]
     exact l200_eq a j q X hj ha hX n (i+1) m (by omega) (by omega)
    ·rw [if_neg h2,if_neg h2]
   ·have e1:decide ((i:Int) ≤ (j:Int))=false:=by simp; omega
    rw [e1,if_pos (by simp)]
    simp [h1]
theorem l113_eq (a:Nat):∀ (n i j m:Nat) (X:Array Nat),j+1 - i≤n→1≤i→j < X.size→a < X.size→X.size < 2305843009213693952→X.size+2≤k→n+1≤m →
 f192.l113 k (a:Int) fam m (X,(i:Int),(j:Int))=some (((partEqLoop fam.lt a i j X).1:Int),(partEqLoop fam.lt a i j X).2):=by
 intro n
 induction n with
 | zero =>
   intro i j m X hn hi hj ha hX hk hm
   obtain ⟨m,rfl⟩:∃ n,m=n+1:=⟨m - 1,by omega⟩
   have hu:=Go.Sort.scanUp_ge (fun x => !fam.lt X[a]! x) X j i
   have hd:=Go.Sort.scanDown_le (fun x => fam.lt X[a]! x) X (scanUp (fun x => !fam.lt X[a]! x) X j i) j
   rw [f192.l113,l200_eq fam k a j _ X hj ha hX (j+1 - i) i k (Nat.le_refl _) (by omega),l215_eq fam k a _ _ X (by omega) ha hX j k hj (by omega),Go.Sort.partEqLoop_eq]
   rw [if_pos (by omega),if_pos (by omega)]
 | succ n ih =>
   intro i j m X hn hi hj ha hX hk hm
   obtain ⟨m,rfl⟩:∃ n,m=n+1:=⟨m - 1,by omega⟩
   have hu:=Go.Sort.scanUp_ge (fun x => !fam.lt X[a]! x) X j i
   have hd:=Go.Sort.scanDown_le (fun x => fam.lt X[a]! x) X (scanUp (fun x => !fam.lt X[a]! x) X j i) j
   rw [f192.l113,l200_eq fam k a j _ X hj ha hX (j+1 - i) i k (Nat.le_refl _) (by omega),l215_eq fam k a _ _ X (by omega) ha hX j k hj (by omega),Go.Sort.partEqLoop_eq]
   by_cases h:scanUp (fun x => !fam.lt X[a]! x) X j i > scanDown (fun x => fam.lt X[a]! x) X (scanUp (fun x => !fam.lt X[a]! x) X j i) j
   ·rw [if_pos h,if_pos h]
   ·rw [if_neg h,if_neg h]
    exact ih _ _ m _ (by omega) (by omega) (by rw [Go.Sort.size_swp]; omega) (by rw [Go.Sort.size_swp]; exact ha) (by rw [Go.Sort.size_swp]; exact hX) (by rw [Go.Sort.size_swp]; exact hk) (by omega)
theorem f192_eq {a b p:Nat} {X:Array Nat} (hap:a≤p) (hpb:p < b) (hb:b≤X.size) (hX:X.size < 2305843009213693952) (hk:X.size+2≤k) :
 f192 k fam X (a:Int) (b:Int) (p:Int)=some (((partitionEqual fam.lt X a b p).1:Int),(partitionEqual fam.lt X a b p).2):=by
 unfold f192 partitionEqual
 have hs:(swp X a p).size=X.size:=Go.Sort.size_swp _ _ _
 rw [if_pos (inX_nat.2 ⟨by omega,by omega⟩),wr (m:=a+1) (by omega) (by omega),wr (m:=b - 1) (by omega) (by omega)]
 exact l113_eq fam k a _ _ _ k _ (Nat.le_refl _) (by omega) (by rw [swp_nat,hs]; omega) (by rw [swp_nat,hs]; omega) (by rw [swp_nat,hs]; exact hX) (by rw [swp_nat,hs]; exact hk) (by omega)
theorem shiftDown_size:∀ (j:Nat) (d:Array Nat),(shiftDown fam.lt j d).size=d.size
 | 0,d => rfl
 | j+1,d => by
   rw [shiftDown]
   split
   ·rfl
   ·rw [shiftDown_size j,Go.Sort.size_swp]
theorem shiftUp_size (b:Nat):∀ (n j:Nat) (d:Array Nat),b - j≤n → (shiftUp fam.lt b j d).size=d.size
 | 0,j,d,hn => by rw [shiftUp,if_neg (by omega)]
 | n+1,j,d,hn => by
   rw [shiftUp]
   split
   ·split
    ·rfl
    ·rw [shiftUp_size b n (j+1) _ (by omega),Go.Sort.size_swp]
   ·rfl
theorem l1006_eq (q:(Array Nat)→Option (Bool × (Array Nat))):∀ (j m:Nat) (X:Array Nat),j < X.size→X.size < 2305843009213693952→j+1≤m→f191.l1006 k fam q m (X,(j:Int))=q (shiftDown fam.lt j X)
 | 0,m,X,hj,hX,hm => by
   obtain ⟨m,rfl⟩:∃ n,m=n+1:=⟨m - 1,by omega⟩
   rw [f191.l1006,shiftDown]
   have e1:decide (((0:Nat):Int) ≥ (1:Int))=false:=by simp
   rw [e1,if_neg (by simp)]
 | j+1,m,X,hj,hX,hm => by
   obtain ⟨m,rfl⟩:∃ n,m=n+1:=⟨m - 1,by omega⟩
   rw [f191.l1006,shiftDown]
   have e1:decide (((j+1:Nat):Int) ≥ (1:Int))=true:=by simp; omega
   rw [e1,if_pos rfl,wr (m:=j) (by omega) (by omega),if_pos (inX_nat.2 ⟨hj,by omega⟩),if_pos (inX_nat.2 ⟨hj,by omega⟩),less_nat,swp_nat]
   by_cases h2:(!fam.lt X[j+1]! X[j]!)=true
   ·rw [if_pos h2,if_pos h2]
   ·rw [if_neg h2,if_neg h2]
    exact l1006_eq q j m _ (by rw [Go.Sort.size_swp]; omega) (by rw [Go.Sort.size_swp]; exact hX) (by omega)
theorem l985_eq (b:Nat) (v:Int) (q:((Array Nat) × Int)→Option (Bool × (Array Nat))):∀ (n j m:Nat) (X:Array Nat),b - j≤n→1≤j→b≤X.size→X.size < 2305843009213693952→n+1≤m→f191.l985 k (b:Int) fam v q m (X,(j:Int))=q (shiftUp fam.lt b j X,v)
 | 0,j,m,X,hn,hj,hb,hX,hm => by
   obtain ⟨m,rfl⟩:∃ n,m=n+1:=⟨m - 1,by omega⟩
   rw [f191.l985,shiftUp]
   have e1:decide ((j:Int) < (b:Int))=false:=by simp; omega
   rw [e1,if_neg (by simp),if_neg (by omega)]
 | n+1,j,m,X,hn,hj,hb,hX,hm => by
   obtain ⟨m,rfl⟩:∃ n,m=n+1:=⟨m - 1,by omega⟩
   rw [f191.l985,shiftUp]
   by_cases h1:j < b
   ·have e1:decide ((j:Int) < (b:Int))=true:=by simp; omega
    rw [e1,if_pos rfl,if_pos h1,wr (n:=(j:Int) - 1) (m:=j - 1) (by omega) (by omega),if_pos (inX_nat.2 ⟨by omega,by omega⟩),if_pos (inX_nat.2 ⟨by omega,by omega⟩),less_nat,swp_nat]
    by_cases h2:(!fam.lt X[j]! X[j - 1]!)=true
    ·rw [if_pos h2,if_pos h2]
    ·rw [if_neg h2,if_neg h2,wr (m:=j+1) (by omega) (by omega)]
     exact l985_eq b v q n (j+1) m _ (by omega) (by omega) (by rw [Go.Sort.size_swp]; exact hb) (by rw [Go.Sort.size_swp]; exact hX) (by omega)
   ·have e1:decide ((j:Int) < (b:Int))=false:=by simp; omega
    rw [e1,if_neg (by simp),if_neg h1]
theorem scanSorted_rng (b:Nat) (d:Array Nat):∀ (n i:Nat),b - i≤n→i≤b→i≤scanSorted fam.lt d b i∧scanSorted fam.lt d b i≤b
 | 0,i,hn,hi => by
   rw [scanSorted]
   split
   ·rename_i h; simp only [Bool.and_eq_true,decide_eq_true_eq] at h; omega
   ·exact ⟨Nat.le_refl _,hi⟩
 | n+1,i,hn,hi => by
   rw [scanSorted]
   split
   ·rename_i h; simp only [Bool.and_eq_true,decide_eq_true_eq] at h
    have:=scanSorted_rng b d n (i+1) (by omega) (by omega)
    exact ⟨by omega,this.2⟩
   ·exact ⟨Nat.le_refl _,hi⟩
theorem j984_eq (a b i:Nat) (q:((Array Nat) × Int)→Option (Bool × (Array Nat))) (X:Array Nat) (hib:i≤b) (hb:b≤X.size) (hX:X.size < 2305843009213693952) (hk:X.size+2≤k) :
 f191.j984 k (b:Int) (i:Int) fam q X=q (fixUp fam.lt b i X,(i:Int)):=by
 unfold f191.j984 fixUp
 simp only []
 rw [wr (n:=(b:Int) - (i:Int)) (m:=b - i) (by omega) (by omega)]
 by_cases h:b - i ≥ 2
 ·have e1:decide (((b - i:Nat):Int) ≥ (2:Int))=true:=by simp; omega
  rw [e1,if_pos rfl,if_pos h,wr (m:=i+1) (by omega) (by omega)]
  exact l985_eq fam k b _ q (b - (i+1)) (i+1) k X (Nat.le_refl _) (by omega) hb hX (by omega)
 ·have e1:decide (((b - i:Nat):Int) ≥ (2:Int))=false:=by simp; omega
  rw [e1,if_neg (by simp),if_neg h]
theorem l955_eq (a b:Nat) (X:Array Nat) (q:((Array Nat) × Int)→Option (Bool × (Array Nat))) (hab:a≤b) (hb:b≤X.size) (hX:X.size < 2305843009213693952) (hk:X.size+2≤k):∀ (n i m:Nat),b - i≤n→1≤i→a≤i→i≤b→n+1≤m→∀ (i':Nat),i'=scanSorted fam.lt X b i →
 f191.l955 k (b:Int) X fam (a:Int) q m (i:Int)=if i'=b then some (true,X) else if b - a < 50 then some (false,X) else
  q (fixUp fam.lt b i' (fixDown fam.lt a i' (swp X i' (i' - 1))),(i':Int)):=by
 have fin:∀ (i:Nat),1≤i→a≤i→i≤b → (if ((i:Int) == (b:Int))=true then (some (true,X)) else (if (decide (((IntKind.i64.wrap ((b:Int) - (a:Int))):Int) < (50:Int)))=true then (some (false,X)) else (if (inX X (i:Int) (IntKind.i64.wrap ((i:Int) - (1:Int)))) then (if (decide (((IntKind.i64.wrap ((i:Int) - (a:Int))):Int) ≥ (2:Int)))=true then (f191.l1006 k fam (f191.j984 k (b:Int) (i:Int) fam (q)) k ((swpF X (i:Int) (IntKind.i64.wrap ((i:Int) - (1:Int)))),(IntKind.i64.wrap ((i:Int) - (1:Int))))) else (f191.j984 k (b:Int) (i:Int) fam (q) (swpF X (i:Int) (IntKind.i64.wrap ((i:Int) - (1:Int)))))) else none))) =
  if i=b then some (true,X) else if b - a < 50 then some (false,X) else q (fixUp fam.lt b i (fixDown fam.lt a i (swp X i (i - 1))),(i:Int)):=by
  intro i h1 ha hib
  rw [wr (n:=(b:Int) - (a:Int)) (m:=b - a) (by omega) (by omega),wr (n:=(i:Int) - (1:Int)) (m:=i - 1) (by omega) (by omega),wr (n:=(i:Int) - (a:Int)) (m:=i - a) (by omega) (by omega),swp_nat]
  by_cases h0:i=b
  ·rw [if_pos h0,if_pos (by simp [h0])]
  ·rw [if_neg h0,if_neg (by simp; omega)]
   by_cases h2:b - a < 50
   ·rw [if_pos h2,if_pos (by simp; omega)]
   ·rw [if_neg h2,if_neg (by simp; omega),if_pos (inX_nat.2 ⟨by omega,by omega⟩)]
    unfold fixDown
    have hs:(swp X i (i - 1)).size=X.size:=Go.Sort.size_swp _ _ _
    by_cases h3:i - a ≥ 2
    ·rw [if_pos (by simp; omega),if_pos h3,l1006_eq fam k _ (i - 1) k _ (by rw [hs]; omega) (by rw [hs]; exact hX) (by omega)]
     exact j984_eq fam k a b i q _ hib (by rw [shiftDown_size,hs]; exact hb) (by rw [shiftDown_size,hs]; exact hX) (by rw [shiftDown_size,hs]; exact hk)
    ·rw [if_neg (by simp; omega),if_neg h3]
     exact j984_eq fam k a b i q _ hib (by rw [hs]; exact hb) (by rw [hs]; exact hX) (by rw [hs]; exact hk)
 intro n
 induction n with
 | zero =>
   intro i m hn h1 ha hib hm i' hi'
   obtain ⟨m,rfl⟩:∃ n,m=n+1:=⟨m - 1,by omega⟩
   have hlt:¬ i < b:=by omega
   rw [scanSorted] at hi'
   simp only [hlt,decide_false,Bool.false_and,Bool.false_eq_true,if_false] at hi'
   subst hi'
   rw [f191.l955]
   have e1:decide ((i':Int) < (b:Int))=false:=by simp; omega
   rw [e1,if_pos (by simp)]
   simp only [cond_false,Bool.false_eq_true,if_false]
   exact fin i' h1 ha hib
 | succ n ih =>
   intro i m hn h1 ha hib hm i' hi'
   obtain ⟨m,rfl⟩:∃ n,m=n+1:=⟨m - 1,by omega⟩
   rw [scanSorted] at hi'
   rw [f191.l955]
   by_cases hlt:i < b
   ·have e1:decide ((i:Int) < (b:Int))=true:=by simp; omega
    have e2:IntKind.i64.wrap ((i:Int) - 1) = ((i - 1:Nat):Int):=wr (by omega) (by omega)
    have e3:lessF fam X (i:Int) (IntKind.i64.wrap ((i:Int) - 1))=fam.lt X[i]! X[i - 1]! := by rw [e2]; rfl
    rw [e1,e3,if_pos (fun _ => by rw [e2]; exact inX_nat.2 ⟨by omega,by omega⟩)]
    simp only [cond_true]
    by_cases h2:(!fam.lt X[i]! X[i - 1]!)=true
    ·rw [if_pos h2,wr (m:=i+1) (by omega) (by omega)]
     rw [if_pos (by simp only [hlt,decide_true,Bool.true_and]; exact h2)] at hi'
     exact ih (i+1) m (by omega) (by omega) (by omega) (by omega) (by omega) i' hi'
    ·rw [if_neg h2]
     rw [if_neg (by simp only [hlt,decide_true,Bool.true_and]; exact h2)] at hi'
     subst hi'
     exact fin i' h1 ha hib
   ·have e1:decide ((i:Int) < (b:Int))=false:=by simp; omega
    simp only [hlt,decide_false,Bool.false_and,Bool.false_eq_true,if_false] at hi'
    subst hi'
    rw [e1,if_pos (by simp)]
    simp only [cond_false,Bool.false_eq_true,if_false]
    exact fin i' h1 ha hib
theorem fix_size (a b i:Nat) (X:Array Nat):(fixUp fam.lt b i (fixDown fam.lt a i (swp X i (i - 1)))).size=X.size:=by
 have h1:(fixDown fam.lt a i (swp X i (i - 1))).size=X.size:=by
  unfold fixDown
  split
  ·rw [shiftDown_size,Go.Sort.size_swp]
  ·rw [Go.Sort.size_swp]
 unfold fixUp
 split
 ·rw [shiftUp_size fam b _ _ _ (Nat.le_refl _),h1]
 ·exact h1
theorem l515_eq (a b:Nat) (hab:a < b):∀ (s i m:Nat) (X:Array Nat),s≤5→b≤X.size→X.size < 2305843009213693952→X.size+2≤k→a < i→i≤b→s+1≤m →
 f191.l515 k (b:Int) fam (a:Int) m (X,(i:Int),((5 - s:Nat):Int))=some ((partialIns fam.lt a b s i X).2,(partialIns fam.lt a b s i X).1)
 | 0,i,m,X,hs,hb,hX,hk,hi,hib,hm => by
   obtain ⟨m,rfl⟩:∃ n,m=n+1:=⟨m - 1,by omega⟩
   rw [f191.l515,partialIns]
   have e1:decide (((5 - 0:Nat):Int) < (5:Int))=false:=by simp
   rw [e1,if_neg (by simp)]
 | s+1,i,m,X,hs,hb,hX,hk,hi,hib,hm => by
   obtain ⟨m,rfl⟩:∃ n,m=n+1:=⟨m - 1,by omega⟩
   rw [f191.l515,Go.Sort.partialIns_succ]
   have e1:decide (((5 - (s+1):Nat):Int) < (5:Int))=true:=by simp; omega
   obtain ⟨r1,r2⟩:=scanSorted_rng fam b X _ i (Nat.le_refl _) hib
   rw [e1,if_pos rfl,l955_eq fam k a b X _ (by omega) hb hX hk (b - i) i k (Nat.le_refl _) (by omega) (by omega) hib (by omega) _ rfl]
   split
   ·rfl
   ·split
    ·rfl
    ·rename_i h1 h2
     unfold f191.j946
     simp only []
     rw [wr (m:=5 - s) (by omega) (by omega)]
     have hsz:=fix_size fam a b (scanSorted fam.lt X b i) X
     exact l515_eq a b hab s _ m _ (by omega) (by rw [hsz]; exact hb) (by rw [hsz]; exact hX) (by rw [hsz]; exact hk) (by omega) r2 (by omega)
theorem f191_eq {a b:Nat} {X:Array Nat} (hab:a < b) (hb:b≤X.size) (hX:X.size < 2305843009213693952) (hk:X.size+8≤k) :
 f191 k fam X (a:Int) (b:Int)=some ((partialInsertionSort fam.lt X a b).2,(partialInsertionSort fam.lt X a b).1):=by
 unfold f191 partialInsertionSort
 rw [wr (m:=a+1) (by omega) (by omega)]
 exact l515_eq fam k a b hab 5 (a+1) k X (Nat.le_refl _) hb hX (by omega) (by omega) (by omega) (by omega)
theorem f224_eq {a b s:Nat} {X:Array Nat} (ha:a < X.size) (hb:b < X.size) (hs:s < 1000):f224 k fam X (a:Int) (b:Int) (s:Int)=some (((order2 fam.lt X a b s).1:Int),((order2 fam.lt X a b s).2.1:Int),((order2 fam.lt X a b s).2.2:Int)):=by
 unfold f224 order2
 rw [if_pos (inX_nat.2 ⟨hb,ha⟩),less_nat,wr (m:=s+1) (by omega) (by omega)]
 split <;> rfl
theorem f216_eq {a b c s:Nat} {X:Array Nat} (ha:a < X.size) (hb:b < X.size) (hc:c < X.size) (hs:s < 900):f216 k fam X (a:Int) (b:Int) (c:Int) (s:Int)=some (((median fam.lt X a b c s).1:Int),((median fam.lt X a b c s).2:Int)):=by
 unfold f216 median
 have m1:=Go.Sort.order2_mem fam.lt X a b s
 have c1:=Go.Sort.order2_count fam.lt X a b s
 rw [f224_eq fam k ha hb (by omega),Option.bind_some]
 have h1:(order2 fam.lt X a b s).1 < X.size:=by rcases m1 with h | h <;> rw [h.1] <;> assumption
 have h2:(order2 fam.lt X a b s).2.1 < X.size:=by rcases m1 with h | h <;> rw [h.2] <;> assumption
 have m2:=Go.Sort.order2_mem fam.lt X (order2 fam.lt X a b s).2.1 c (order2 fam.lt X a b s).2.2
 have c2:=Go.Sort.order2_count fam.lt X (order2 fam.lt X a b s).2.1 c (order2 fam.lt X a b s).2.2
 rw [f224_eq fam k h2 hc (by omega),Option.bind_some]
 have h3:(order2 fam.lt X (order2 fam.lt X a b s).2.1 c (order2 fam.lt X a b s).2.2).1 < X.size:=by rcases m2 with h | h <;> rw [h.1] <;> assumption
 rw [f224_eq fam k h1 h3 (by omega),Option.bind_some]
theorem f215_eq {a s:Nat} {X:Array Nat} (ha:1≤a) (hb:a+1 < X.size) (hs:s < 900) (hX:X.size < 2305843009213693952):f215 k fam X (a:Int) (s:Int)=some (((medianAdjacent fam.lt X a s).1:Int),((medianAdjacent fam.lt X a s).2:Int)):=by
 unfold f215 medianAdjacent
 rw [wr (n:=(a:Int) - 1) (m:=a - 1) (by omega) (by omega),wr (m:=a+1) (by omega) (by omega),f216_eq fam k (by omega) (by omega) hb hs,Option.bind_some]
set_option maxHeartbeats 4000000 in
theorem f189_eq {a b:Nat} {X:Array Nat} (hab:a < b) (hb:b≤X.size) (hX:X.size < 2305843009213693952) :
 f189 k fam X (a:Int) (b:Int)=some (((choosePivot fam.lt X a b).1:Int),hintCode (choosePivot fam.lt X a b).2):=by
 have fin:∀ r:Nat × Nat,f189.j22 k ((r.2:Int),(r.1:Int))=some ((r.1:Int),hintCode (hintOf r.2)):=by
  intro r
  unfold f189.j22 hintOf
  simp only []
  by_cases h0:r.2=0
  ·rw [if_pos (by simp [h0]),if_pos h0]; rfl
  ·rw [if_neg (by simp [h0]),if_neg h0]
   by_cases h1:r.2=12
   ·rw [if_pos (by simp [h1]),if_pos h1]; rfl
   ·rw [if_neg (by simp; omega),if_neg h1]; rfl
 rw [Go.Sort.choosePivot_eq]
 unfold f189 rawPivot
 rw [if_pos (by decide),if_pos (by decide),if_pos (by decide)]
 have e1:IntKind.i64.wrap ((b:Int) - (a:Int)) = ((b - a:Nat):Int):=wr (by omega) (by omega)
 have e2:IntKind.i64.wrap (Int.tdiv ((b - a:Nat):Int) 4) = (((b - a) / 4:Nat):Int):=by
  rw [Int.tdiv_eq_ediv_of_nonneg (by omega)]
  exact wr (by omega) (by omega)
 have e3:∀ c:Nat,c≤3→IntKind.i64.wrap ((a:Int)+IntKind.i64.wrap ((((b - a) / 4:Nat):Int) * (c:Int))) = ((a + (b - a) / 4*c:Nat):Int):=by
  intro c hc
  have h3:(b - a) / 4*c ≤ (b - a) / 4*3:=Nat.mul_le_mul_left _ hc
  have h4:(b - a) / 4*3≤b - a:=by omega
  rw [wr (n:=(((b - a) / 4:Nat):Int) * (c:Int)) (m:=(b - a) / 4*c) (by push_cast; rfl) (by omega)]
  exact wr (by omega) (by omega)
 rw [e1,e2]
 have q1:=e3 1 (by omega)
 have q2:=e3 2 (by omega)
 have q3:=e3 3 (by omega)
 simp only [show ((1:Nat):Int) = (1:Int) from rfl,show ((2:Nat):Int) = (2:Int) from rfl,show ((3:Nat):Int) = (3:Int) from rfl] at q1 q2 q3
 rw [q1,q2,q3]
 by_cases h8:b - a ≥ 8
 ·rw [if_pos (by simp; omega),if_pos h8]
  by_cases h50:b - a ≥ 50
  ·rw [if_pos (by simp; omega),if_pos h50,show (0:Int) = ((0:Nat):Int) from rfl]
   have r1:=Go.Sort.medianAdjacent_mem fam.lt X (a + (b - a) / 4*1) 0
   have s1:=Go.Sort.medianAdjacent_count fam.lt X (a + (b - a) / 4*1) 0
   rw [f215_eq fam k (by omega) (by omega) (by omega) hX,Option.bind_some]
   simp only []
   generalize medianAdjacent fam.lt X (a + (b - a) / 4*1) 0=p1 at *
   have r2:=Go.Sort.medianAdjacent_mem fam.lt X (a + (b - a) / 4*2) p1.2
   have s2:=Go.Sort.medianAdjacent_count fam.lt X (a + (b - a) / 4*2) p1.2
   rw [f215_eq fam k (by omega) (by omega) (by omega) hX,Option.bind_some]
   simp only []
   generalize medianAdjacent fam.lt X (a + (b - a) / 4*2) p1.2=p2 at *
   have r3:=Go.Sort.medianAdjacent_mem fam.lt X (a + (b - a) / 4*3) p2.2
   have s3:=Go.Sort.medianAdjacent_count fam.lt X (a + (b - a) / 4*3) p2.2
   rw [f215_eq fam k (by omega) (by omega) (by omega) hX,Option.bind_some]
   simp only []
   generalize medianAdjacent fam.lt X (a + (b - a) / 4*3) p2.2=p3 at *
   unfold f189.j33
   simp only []
   rw [f216_eq fam k (by omega) (by omega) (by omega) (by omega),Option.bind_some]
   exact fin _
  ·rw [if_neg (by simp; omega),if_neg h50,show (0:Int) = ((0:Nat):Int) from rfl]
   unfold f189.j33
   simp only []
   rw [f216_eq fam k (by omega) (by omega) (by omega) (by omega),Option.bind_some]
   exact fin _
 ·rw [if_neg (by simp; omega),if_neg h8]
  exact fin (a + (b - a) / 4*2,0)
end
end
section
open Go.Sort (swp bitsLen xorNext xorNextN breakStep breakPatterns bitsLen_le_iff)
section
variable (fam:Fam) (k:Nat)
theorem tab_eq:∀ e:Nat,e < 8→∀ n:Nat,n < 256→f185.j12 0 ((n:Int),((8*e:Nat):Int))=some ((bitsLen n+8*e:Nat):Int):=by
 have h:((List.range 8).all fun e => (List.range 256).all fun n => f185.j12 0 ((n:Int),((8*e:Nat):Int)) == some ((bitsLen n+8*e:Nat):Int))=true:=by kernel_rfl
 intro e he n hn
 have h1:=List.all_eq_true.1 (List.all_eq_true.1 h e (List.mem_range.2 he)) n (List.mem_range.2 hn)
 simpa using h1
theorem bits_shift {x s:Nat} (h:2 ^ s≤x):bitsLen (x / 2 ^ s)+s=bitsLen x:=by
 have key:∀ t,bitsLen (x / 2 ^ s)≤t↔bitsLen x≤t+s:=by
  intro t
  rw [bitsLen_le_iff,bitsLen_le_iff,Nat.pow_add,Nat.div_lt_iff_lt_mul (Nat.two_pow_pos s)]
 have h1:¬ bitsLen x≤s:=by
  rw [bitsLen_le_iff]; omega
 have a1:=(key (bitsLen (x / 2 ^ s))).1 (Nat.le_refl _)
 have a2:=(key (bitsLen x - s)).2 (by omega)
 omega
theorem fdiv_nat (x s:Nat) (h:s≤64):Int.fdiv (x:Int) (2 ^ (min (Int.toNat (s:Int)) IntKind.u64.bits)) = ((x / 2 ^ s:Nat):Int):=by
 have e:min (Int.toNat (s:Int)) IntKind.u64.bits=s:=by
  rw [Int.toNat_natCast]; exact Nat.min_eq_left h
 rw [e,Int.fdiv_eq_ediv_of_nonneg _ (by exact Int.pow_nonneg (by decide))]
 push_cast
 rfl
theorem j12_eq {x e:Nat} (hx:x < 256) (he:e < 8):f185.j12 k ((x:Int),((8*e:Nat):Int))=some ((bitsLen x+8*e:Nat):Int):=tab_eq e he x hx
theorem j8_eq {x e:Nat} (hx:x < 65536) (he:e < 7):f185.j8 k ((x:Int),((8*e:Nat):Int))=some ((bitsLen x+8*e:Nat):Int):=by
 unfold f185.j8
 simp only []
 by_cases h:x ≥ 256
 ·rw [if_pos (by simp; omega),if_pos (by decide)]
  have e1:=fdiv_nat x 8 (by omega)
  simp only [show ((8:Nat):Int) = (8:Int) from rfl] at e1
  rw [e1,wr (n:=((8*e:Nat):Int)+8) (m:=8 * (e+1)) (by omega) (by omega),j12_eq k (x:=x / 2 ^ 8) (by omega) (by omega)]
  have:=bits_shift (x:=x) (s:=8) (by omega)
  congr 2
  omega
 ·rw [if_neg (by simp; omega),j12_eq k (by omega) (by omega)]
theorem j4_eq {x e:Nat} (hx:x < 4294967296) (he:e < 5):f185.j4 k ((x:Int),((8*e:Nat):Int))=some ((bitsLen x+8*e:Nat):Int):=by
 unfold f185.j4
 simp only []
 by_cases h:x ≥ 65536
 ·rw [if_pos (by simp; omega),if_pos (by decide)]
  have e1:=fdiv_nat x 16 (by omega)
  simp only [show ((16:Nat):Int) = (16:Int) from rfl] at e1
  rw [e1,wr (n:=((8*e:Nat):Int)+16) (m:=8 * (e+2)) (by omega) (by omega),j8_eq k (x:=x / 2 ^ 16) (by omega) (by omega)]
  have:=bits_shift (x:=x) (s:=16) (by omega)
  congr 2
  omega
 ·rw [if_neg (by simp; omega),j8_eq k (by omega) (by omega)]
theorem f185_eq {x:Nat} (hx:x < 18446744073709551616):f185 k (x:Int)=some ((bitsLen x:Nat):Int):=by
 unfold f185
 by_cases h:x ≥ 4294967296
 ·rw [if_pos (by simp; omega),if_pos (by decide)]
  have e1:=fdiv_nat x 32 (by omega)
  simp only [show ((32:Nat):Int) = (32:Int) from rfl] at e1
  have e2:=j4_eq k (x:=x / 2 ^ 32) (e:=4) (by omega) (by omega)
  simp only [show ((8*4:Nat):Int) = (32:Int) from rfl] at e2
  rw [e1,e2]
  have:=bits_shift (x:=x) (s:=32) (by omega)
  congr 2
 ·have e2:=j4_eq k (x:=x) (e:=0) (by omega) (by omega)
  rw [if_neg (by simp; omega)]
  exact e2
theorem f141_eq {x:Nat} (hx:x < 18446744073709551616):f141 k (x:Int)=some ((bitsLen x:Nat):Int):=by
 unfold f141; rw [f185_eq k hx]; rfl
theorem f213_eq {x:Nat} (hx:x < 2305843009213693952):f213 k (x:Int)=some ((2 ^ bitsLen x:Nat):Int):=by
 have hb:bitsLen x≤61:=(bitsLen_le_iff x 61).2 (by omega)
 have hp:(2:Nat) ^ bitsLen x≤2 ^ 61:=Nat.pow_le_pow_right (by decide) hb
 unfold f213
 have e1:IntKind.u64.wrap (x:Int) = (x:Int):=by rw [IntKind.wrap_u64]; omega
 have e2:IntKind.u64.wrap ((bitsLen x:Nat):Int) = ((bitsLen x:Nat):Int):=by rw [IntKind.wrap_u64]; omega
 rw [e1,f141_eq k (by omega),Option.bind_some,e2,if_pos (by omega),Int.toNat_natCast,Nat.min_eq_left (show bitsLen x≤IntKind.u64.bits by show bitsLen x≤64; omega),Int.one_mul,
  show ((2:Int) ^ bitsLen x) = ((2 ^ bitsLen x:Nat):Int) by push_cast; rfl,IntKind.wrap_u64]
 congr 1
 generalize (2:Nat) ^ bitsLen x=p at hp
 omega
theorem f214_eq {x:Nat} (hx:x < 18446744073709551616):f214 k (x:Int)=some (((xorNextN x:Nat):Int),((xorNextN x:Nat):Int)):=by
 unfold f214
 rw [if_pos (by decide),if_pos (by decide),if_pos (by decide)]
 obtain ⟨A,hA⟩:∃ A,A=x ^^^ (x*8192 % 18446744073709551616):=⟨_,rfl⟩
 obtain ⟨B,hB⟩:∃ B,B=A ^^^ (A / 128):=⟨_,rfl⟩
 obtain ⟨C,hC⟩:∃ C,C=B ^^^ (B*131072 % 18446744073709551616):=⟨_,rfl⟩
 have lA:A < 18446744073709551616:=by
  have:x ^^^ (x*8192 % 18446744073709551616) < 2 ^ 64:=Nat.xor_lt_two_pow (by omega) (by omega)
  omega
 have lB:B < 18446744073709551616:=by
  have:A ^^^ (A / 128) < 2 ^ 64:=Nat.xor_lt_two_pow (by omega) (by omega)
  omega
 have hv:xorNextN x=C:=by unfold xorNextN; simp only []; rw [← hA,← hB,← hC]
 have p13:((2:Int) ^ (min (Int.toNat (13:Int)) IntKind.u64.bits))=8192:=by decide
 have p17:((2:Int) ^ (min (Int.toNat (17:Int)) IntKind.u64.bits))=131072:=by decide
 have e1:bits .xor .u64 (x:Int) (IntKind.u64.wrap ((x:Int)*8192)) = (A:Int):=by
  rw [IntKind.wrap_u64,show ((x:Int)*8192 % 18446744073709551616) = ((x*8192 % 18446744073709551616:Nat):Int) by omega,bits_xor_u64_nat _ _ hx (by omega),hA]
 have e2:bits .xor .u64 (A:Int) (((A / 2 ^ 7:Nat):Int)) = (B:Int):=by
  rw [bits_xor_u64_nat _ _ lA (by omega),hB]
 have e3:bits .xor .u64 (B:Int) (IntKind.u64.wrap ((B:Int)*131072)) = (C:Int):=by
  rw [IntKind.wrap_u64,show ((B:Int)*131072 % 18446744073709551616) = ((B*131072 % 18446744073709551616:Nat):Int) by omega,bits_xor_u64_nat _ _ lB (by omega),hC]
 have e4:=fdiv_nat A 7 (by omega)
 simp only [show ((7:Nat):Int) = (7:Int) from rfl] at e4
 rw [p13,p17,e1,e4,e2,e3,hv]
 rfl
theorem breakStep_size (a L M:Nat) (st:UInt64 × Array Nat) (i:Nat):(breakStep a L M st i).2.size=st.2.size:=by
 unfold breakStep; simp only []; rw [Go.Sort.size_swp]
theorem l2_step {a b L:Nat} (hL:b - a=L) (hab:a≤b) (h8:8≤L) {st:UInt64 × Array Nat} (hb:b≤st.2.size) (hX:st.2.size < 2305843009213693952) {i m:Nat} (hai:a≤i) (hi:i≤a+L / 4*2+1) :
 f188.l2 k (a:Int) (b:Int) ((2 ^ bitsLen L:Nat):Int) (m+1) (st.2,((st.1.toNat:Nat):Int),(i:Int)) =
  f188.l2 k (a:Int) (b:Int) ((2 ^ bitsLen L:Nat):Int) m ((breakStep a L (1 <<< bitsLen L) st i).2,(((breakStep a L (1 <<< bitsLen L) st i).1.toNat:Nat):Int),((i+1:Nat):Int)):=by
 have hr:st.1.toNat < 18446744073709551616:=UInt64.toNat_lt _
 have hM:=Go.Sort.two_pow_bitsLen_le (n:=L) (by omega)
 have hM1:0 < 2 ^ bitsLen L:=Nat.two_pow_pos _
 rw [f188.l2,if_pos (by decide)]
 have e1:IntKind.i64.wrap ((b:Int) - (a:Int)) = (L:Int):=wr (by omega) (by omega)
 have e2:IntKind.i64.wrap (Int.tdiv (L:Int) 4) = ((L / 4:Nat):Int):=by
  rw [Int.tdiv_eq_ediv_of_nonneg (by omega)]
  exact wr (by omega) (by omega)
 have e3:IntKind.i64.wrap (((L / 4:Nat):Int)*2) = ((L / 4*2:Nat):Int):=wr (by omega) (by omega)
 have e4:IntKind.i64.wrap ((a:Int) + ((L / 4*2:Nat):Int)) = ((a+L / 4*2:Nat):Int):=wr (by omega) (by omega)
 have e5:IntKind.i64.wrap (((a+L / 4*2:Nat):Int)+1) = ((a+L / 4*2+1:Nat):Int):=wr (by omega) (by omega)
 rw [e1,e2,e3,e4,e5,if_pos (by simp; omega),f214_eq k hr,Option.bind_some]
 have hx:=Go.Sort.xorNextN_lt st.1.toNat hr
 have e6:IntKind.u64.wrap (((2 ^ bitsLen L:Nat):Int) - 1) = ((2 ^ bitsLen L - 1:Nat):Int):=by
  rw [IntKind.wrap_u64]
  generalize (2:Nat) ^ bitsLen L=p at hM hM1 ⊢
  omega
 obtain ⟨O,hO⟩:∃ O,O=xorNextN st.1.toNat &&& (2 ^ bitsLen L - 1):=⟨_,rfl⟩
 have hOl:O≤2 ^ bitsLen L - 1:=by rw [hO]; exact Nat.and_le_right
 have e7:bits .and .u64 ((xorNextN st.1.toNat:Nat):Int) ((2 ^ bitsLen L - 1:Nat):Int) = (O:Int):=by
  rw [bits_and_u64_nat _ _ hx (by generalize (2:Nat) ^ bitsLen L=p at hM hM1 ⊢; omega),hO]
 have e8:IntKind.i64.wrap (O:Int) = (O:Int):=by
  generalize (2:Nat) ^ bitsLen L=p at hM hM1 hOl
  exact wrap_in (by omega) (by omega)
 simp only []
 rw [e6,e7,e8]
 have hst:(breakStep a L (1 <<< bitsLen L) st i) = (xorNext st.1,swp st.2 i (a + (if O ≥ L then O - L else O))):=by
  unfold breakStep
  simp only [Nat.one_shiftLeft,Go.Sort.xorNext_toNat,← hO]
 rw [hst]
 simp only [Go.Sort.xorNext_toNat]
 have fin:∀ u:Nat,u < L→f188.j44 k st.2 (i:Int) (a:Int) (((xorNextN st.1.toNat:Nat):Int),((xorNextN st.1.toNat:Nat):Int)) (f188.l2 k (a:Int) (b:Int) ((2 ^ bitsLen L:Nat):Int) m) (u:Int) =
  f188.l2 k (a:Int) (b:Int) ((2 ^ bitsLen L:Nat):Int) m (swp st.2 i (a+u),((xorNextN st.1.toNat:Nat):Int),((i+1:Nat):Int)):=by
  intro u hu
  unfold f188.j44
  simp only []
  rw [wr (n:=(a:Int) + (u:Int)) (m:=a+u) (by omega) (by omega),if_pos (inX_nat.2 ⟨by omega,by omega⟩),swp_nat,wr (n:=(i:Int)+1) (m:=i+1) (by omega) (by omega)]
 generalize (2:Nat) ^ bitsLen L=p at *
 by_cases h:O ≥ L
 ·rw [if_pos (by simp; omega),if_pos h,wr (n:=(O:Int) - (L:Int)) (m:=O - L) (by omega) (by omega)]
  exact fin _ (by omega)
 ·rw [if_neg (by simp; omega),if_neg h]
  exact fin _ (by omega)
theorem f188_eq {a b:Nat} {X:Array Nat} (hab:a≤b) (hb:b≤X.size) (hX:X.size < 2305843009213693952) (hk:5≤k):f188 k fam X (a:Int) (b:Int)=some (breakPatterns X a b):=by
 obtain ⟨L,hL⟩:∃ L,L=b - a:=⟨_,rfl⟩
 unfold f188 breakPatterns
 simp only []
 have e1:IntKind.i64.wrap ((b:Int) - (a:Int)) = (L:Int):=wr (by omega) (by omega)
 rw [e1,← hL]
 by_cases h8:L ≥ 8
 ·rw [if_pos (by simp; omega),if_pos h8,f213_eq k (by omega),Option.bind_some,if_pos (by decide)]
  have e2:IntKind.i64.wrap (Int.tdiv (L:Int) 4) = ((L / 4:Nat):Int):=by
   rw [Int.tdiv_eq_ediv_of_nonneg (by omega)]
   exact wr (by omega) (by omega)
  have e3:IntKind.i64.wrap (((L / 4:Nat):Int)*2) = ((L / 4*2:Nat):Int):=wr (by omega) (by omega)
  have e4:IntKind.i64.wrap ((a:Int) + ((L / 4*2:Nat):Int)) = ((a+L / 4*2:Nat):Int):=wr (by omega) (by omega)
  have e5:IntKind.i64.wrap (((a+L / 4*2:Nat):Int) - 1) = ((a+L / 4*2 - 1:Nat):Int):=wr (by omega) (by omega)
  have e6:IntKind.u64.wrap (L:Int) = (((UInt64.ofNat L).toNat:Nat):Int):=by
   rw [IntKind.wrap_u64]
   have:(UInt64.ofNat L).toNat=L:=by simp [UInt64.toNat_ofNat]; omega
   rw [this]; omega
  rw [e2,e3,e4,e5,e6]
  obtain ⟨k',rfl⟩:∃ n,k=n+4:=⟨k - 4,by omega⟩
  have s0:((UInt64.ofNat L,X):UInt64 × Array Nat).2.size=X.size:=rfl
  have h0:=l2_step (k'+4) (a:=a) (b:=b) (L:=L) hL.symm hab h8 (st:=(UInt64.ofNat L,X)) (by rw [s0]; exact hb) (by rw [s0]; exact hX) (i:=a+L / 4*2 - 1) (m:=k'+3) (by omega) (by omega)
  have s1:=breakStep_size a L (1 <<< bitsLen L) (UInt64.ofNat L,X) (a+L / 4*2 - 1)
  have h1:=l2_step (k'+4) (a:=a) (b:=b) (L:=L) hL.symm hab h8 (st:=breakStep a L (1 <<< bitsLen L) (UInt64.ofNat L,X) (a+L / 4*2 - 1)) (by rw [s1]; exact hb) (by rw [s1]; exact hX) (i:=a+L / 4*2 - 1+1) (m:=k'+2) (by omega) (by omega)
  have s2:=breakStep_size a L (1 <<< bitsLen L) (breakStep a L (1 <<< bitsLen L) (UInt64.ofNat L,X) (a+L / 4*2 - 1)) (a+L / 4*2 - 1+1)
  have h2:=l2_step (k'+4) (a:=a) (b:=b) (L:=L) hL.symm hab h8 (st:=breakStep a L (1 <<< bitsLen L) (breakStep a L (1 <<< bitsLen L) (UInt64.ofNat L,X) (a+L / 4*2 - 1)) (a+L / 4*2 - 1+1)) (by rw [s2,s1]; exact hb) (by rw [s2,s1]; exact hX) (i:=a+L / 4*2 - 1+2) (m:=k'+1) (by omega) (by omega)
  rw [h0,h1,h2,f188.l2,if_pos (by decide),e1,e2,e3,e4,wr (n:=((a+L / 4*2:Nat):Int)+1) (m:=a+L / 4*2+1) (by omega) (by omega),if_neg (by simp; omega)]
 ·rw [if_neg (by simp; omega),if_neg h8]
end
end
section
open Go.Sort (swp SWO Below PermIn SortedIn Hint hintCode pdq rd pdq_small pdq_heap pdq_done pdq_eq pdq_left pdq_right rd_facts rd_false rd_true rd_c rd_dec rd_not rd_pi_yes rd_pi_no rd_lim_le round_eq round_part pdq_sorts partition partitionEqual)
section
variable (fam:Fam)
def SelfOk (hS:Fam→Array Nat→Int→Int→Int→Option (Array Nat)) (fam:Fam) (n0 N:Nat):Prop :=
 ∀ (a b limit:Nat) (X:Array Nat),a≤b→b - a < n0→b≤X.size→X.size=N→limit < 4611686018427387904→Below fam.lt a b X→hS fam X (a:Int) (b:Int) (limit:Int)=some (pdq fam.lt X a b limit true true)
theorem hint_inc (h:Hint):((hintCode h:Int) == (1:Int))=decide (h=.increasing):=by cases h <;> rfl
theorem hint_dec (h:Hint):((hintCode h:Int) == (2:Int))=decide (h=.decreasing):=by cases h <;> rfl
theorem l142_eq (hS:SWO fam.lt) {self:Fam→Array Nat→Int→Int→Int→Option (Array Nat)} {n0 N k:Nat} (hself:SelfOk self fam n0 N) (hN:N < 2305843009213693952) (hk:N+20≤k):∀ (n m a b limit:Nat) (X:Array Nat) (wb wp:Bool),
 b - a≤n→n≤n0→a≤b→b≤X.size→X.size=N→limit < 4611686018427387904→Below fam.lt a b X→n+1≤m →
 f142.l1 k fam self m ((a:Int),(b:Int),(limit:Int),X,wb,wp)=some (pdq fam.lt X a b limit wb wp):=by
 intro n
 induction n with
 | zero =>
   intro m a b limit X wb wp hn hn0 hab hb hX hl hB hm
   obtain ⟨m,rfl⟩:∃ n,m=n+1:=⟨m - 1,by omega⟩
   rw [f142.l1,wr (n:=(b:Int) - (a:Int)) (m:=b - a) (by omega) (by omega),if_pos (by simp; omega),f186_eq fam k hab hb (by omega) (by omega),Option.bind_some,pdq_small (by omega)]
 | succ n ih =>
   intro m a b limit X wb wp hn hn0 hab hb hX hl hB hm
   obtain ⟨m,rfl⟩:∃ n,m=n+1:=⟨m - 1,by omega⟩
   rw [f142.l1,wr (n:=(b:Int) - (a:Int)) (m:=b - a) (by omega) (by omega)]
   by_cases h12:b - a≤12
   ·rw [if_pos (by simp; omega),f186_eq fam k hab hb (by omega) (by omega),Option.bind_some,pdq_small h12]
   ·rw [if_neg (by simp; omega)]
    by_cases h0:limit=0
    ·rw [if_pos (by simp [h0]),f187_eq fam k hab hb (by omega) (by omega),Option.bind_some,pdq_heap h12 h0]
    ·rw [if_neg (by simp; omega)]
     have hlt:a < b:=by omega
     obtain ⟨s1,B1,c1,s2,B2,pv,s3,B3⟩:=rd_facts (lt:=fam.lt) (d:=X) (a:=a) (b:=b) (limit:=limit) (wb:=wb) (wp:=wp) hS Go.Sort.partialInsertionSort_holds Go.Sort.reverseRange_holds hlt hb hB
     have hlim:=rd_lim_le (lt:=fam.lt) (d:=X) (a:=a) (b:=b) (limit:=limit) (wb:=wb) (wp:=wp)
     have st1:(if (!wb)=true then (f188 k fam X (a:Int) (b:Int)).bind fun r153 => f142.j124 k fam (a:Int) (b:Int) wb wp self ((f142.l1 k fam self) m) ((IntKind.i64.wrap ((limit:Int) - (1:Int))),r153)
      else f142.j124 k fam (a:Int) (b:Int) wb wp self ((f142.l1 k fam self) m) ((limit:Int),X)) =
      f142.j124 k fam (a:Int) (b:Int) wb wp self ((f142.l1 k fam self) m) (((rd fam.lt X a b limit wb wp).lim:Int),(rd fam.lt X a b limit wb wp).d1):=by
      cases wb with
      | true => rfl
      | false =>
        rw [if_pos (show (!false)=true from rfl),f188_eq fam k hab hb (by omega) (by omega),Option.bind_some,wr (m:=limit - 1) (by omega) (by omega)]
        rfl
     rw [st1]
     clear st1
     unfold f142.j124
     simp only []
     rw [f189_eq fam k hlt (by rw [s1]; exact hb) (by rw [s1]; omega),Option.bind_some]
     simp only []
     rw [hint_dec]
     have st2:(if decide ((Go.Sort.choosePivot fam.lt (rd fam.lt X a b limit wb wp).d1 a b).2=.decreasing)=true then
      (f190 k fam (rd fam.lt X a b limit wb wp).d1 (a:Int) (b:Int)).bind fun r150 => f142.j131 k wb wp fam (a:Int) (b:Int) ((rd fam.lt X a b limit wb wp).lim:Int) self ((f142.l1 k fam self) m) (r150,(IntKind.i64.wrap ((IntKind.i64.wrap ((b:Int) - (1:Int))) - (IntKind.i64.wrap (((Go.Sort.choosePivot fam.lt (rd fam.lt X a b limit wb wp).d1 a b).1:Int) - (a:Int))))),(1:Int))
      else f142.j131 k wb wp fam (a:Int) (b:Int) ((rd fam.lt X a b limit wb wp).lim:Int) self ((f142.l1 k fam self) m) ((rd fam.lt X a b limit wb wp).d1,((Go.Sort.choosePivot fam.lt (rd fam.lt X a b limit wb wp).d1 a b).1:Int),hintCode (Go.Sort.choosePivot fam.lt (rd fam.lt X a b limit wb wp).d1 a b).2)) =
      f142.j131 k wb wp fam (a:Int) (b:Int) ((rd fam.lt X a b limit wb wp).lim:Int) self ((f142.l1 k fam self) m) ((rd fam.lt X a b limit wb wp).d2,((rd fam.lt X a b limit wb wp).pivot:Int),hintCode (rd fam.lt X a b limit wb wp).hint):=by
      rw [← rd_c]
      by_cases hh:(rd fam.lt X a b limit wb wp).c.2=.decreasing
      ·obtain ⟨q1,q2,q3⟩:=rd_dec hh
       rw [if_pos (by simp [hh]),f190_eq fam k hlt (by rw [s1]; exact hb) (by rw [s1]; omega) (by rw [s1]; omega),Option.bind_some,wr (n:=(b:Int) - 1) (m:=b - 1) (by omega) (by omega),wr (n:=((rd fam.lt X a b limit wb wp).c.1:Int) - (a:Int)) (m:=(rd fam.lt X a b limit wb wp).c.1 - a) (by omega) (by omega),
        wr (n:=((b - 1:Nat):Int) - (((rd fam.lt X a b limit wb wp).c.1 - a:Nat):Int)) (m:=(rd fam.lt X a b limit wb wp).pivot) (by rw [q2]; omega) (by omega),q1,q3]
       rfl
      ·obtain ⟨q1,q2,q3⟩:=rd_not hh
       rw [if_neg (by simp [hh]),q1,q2,q3]
     rw [st2]
     clear st2
     unfold f142.j131
     simp only []
     have last:(rd fam.lt X a b limit wb wp).pi.2=false→f142.j135 k (a:Int) ((rd fam.lt X a b limit wb wp).pivot:Int) fam (b:Int) ((rd fam.lt X a b limit wb wp).lim:Int) wb wp self ((f142.l1 k fam self) m) (rd fam.lt X a b limit wb wp).pi.1=some (pdq fam.lt X a b limit wb wp):=by
      intro h1
      unfold f142.j135
      simp only []
      obtain ⟨D,hD⟩:∃ D,D = (rd fam.lt X a b limit wb wp).pi.1:=⟨_,rfl⟩
      obtain ⟨p,hp⟩:∃ p,p = (rd fam.lt X a b limit wb wp).pivot:=⟨_,rfl⟩
      obtain ⟨lim,hlimd⟩:∃ l,l = (rd fam.lt X a b limit wb wp).lim:=⟨_,rfl⟩
      have hDs:D.size=N:=by rw [hD,s3,hX]
      have hbD:b≤D.size:=by omega
      have hBD:Below fam.lt a b D:=by rw [hD]; exact B3
      have hpv:a≤p∧p < b:=by rw [hp]; exact pv
      have hll:lim≤limit:=by rw [hlimd]; exact hlim
      rw [← hD,← hp,← hlimd]
      have e1:a > 0→IntKind.i64.wrap ((a:Int) - 1) = ((a - 1:Nat):Int):=fun h => wr (by omega) (by omega)
      rw [if_pos (fun hd => by rw [e1 (by simpa using hd)]; exact inX_nat.2 ⟨by omega,by omega⟩)]
      have tst:(bif (decide ((a:Int) > (0:Int))) then (!(lessF fam D (IntKind.i64.wrap ((a:Int) - (1:Int))) (p:Int))) else false) = (decide (a > 0) && !fam.lt D[a - 1]! D[p]!):=by
       by_cases ha:a > 0
       ·have:decide ((a:Int) > (0:Int))=true:=by simp; omega
        rw [this,e1 ha]
        simp only [cond_true,ha,decide_true,Bool.true_and]
        rfl
       ·have:decide ((a:Int) > (0:Int))=false:=by simp; omega
        rw [this]
        simp [ha]
      rw [tst]
      by_cases ht:(decide (a > 0) && !fam.lt D[a - 1]! D[p]!)=true
      ·rw [if_pos ht,f192_eq fam k hpv.1 hpv.2 hbD (by omega) (by omega),Option.bind_some]
       simp only []
       have ht':=ht
       simp only [Bool.and_eq_true,decide_eq_true_eq,Bool.not_eq_true'] at ht'
       obtain ⟨g1,g2,g3,g4,_⟩:=round_eq hS (Go.Sort.partitionEqual_holds fam.lt) (mid:=(partitionEqual fam.lt D a b p).1) (d4:=(partitionEqual fam.lt D a b p).2) ht'.1 hpv.1 hpv.2 hbD hBD ht'.2 rfl
       rw [ih m _ b lim _ wb wp (by omega) (by omega) g2 (by rw [g3]; exact hbD) (by rw [g3,hDs]) (by omega) g4 (by omega)]
       subst hD hp hlimd
       rw [← pdq_eq h12 h0 h1 ht ⟨g1,g2⟩]
      ·rw [if_neg ht,f193_eq fam k hpv.1 hpv.2 hbD (by omega) (by omega),Option.bind_some,if_pos (by decide)]
       simp only []
       have ht2:(decide (a > 0) && !fam.lt D[a - 1]! D[p]!)=false:=by simpa using ht
       obtain ⟨g1,g2,g3,gBa,gBr,gl,gr⟩:=round_part hS (Go.Sort.partition_holds fam.lt) (mid:=(partition fam.lt D a b p).1) (ap:=(partition fam.lt D a b p).2.1) (d4:=(partition fam.lt D a b p).2.2) hpv.1 hpv.2 hbD hBD rfl
       obtain ⟨mid,hmid⟩:∃ q,q = (partition fam.lt D a b p).1:=⟨_,rfl⟩
       obtain ⟨ap,hap⟩:∃ q,q = (partition fam.lt D a b p).2.1:=⟨_,rfl⟩
       obtain ⟨d4,hd4⟩:∃ q,q = (partition fam.lt D a b p).2.2:=⟨_,rfl⟩
       rw [← hmid] at g1 g2 gBa gBr gl gr
       rw [← hd4] at g3 gBa gBr gl gr
       rw [← hmid,← hap,← hd4]
       have w1:IntKind.i64.wrap ((mid:Int) - (a:Int)) = ((mid - a:Nat):Int):=wr (by omega) (by omega)
       have w2:IntKind.i64.wrap ((b:Int) - (mid:Int)) = ((b - mid:Nat):Int):=wr (by omega) (by omega)
       have w3:IntKind.i64.wrap ((b:Int) - (a:Int)) = ((b - a:Nat):Int):=wr (by omega) (by omega)
       have w4:IntKind.i64.wrap (Int.tdiv ((b - a:Nat):Int) 8) = (((b - a) / 8:Nat):Int):=by
        rw [Int.tdiv_eq_ediv_of_nonneg (by omega)]
        exact wr (by omega) (by omega)
       have w5:IntKind.i64.wrap ((mid:Int)+1) = ((mid+1:Nat):Int):=wr (by omega) (by omega)
       rw [w1,w2,w3,w4,w5]
       have dd:∀ x y:Nat,decide ((x:Int) ≥ (y:Int))=decide (x ≥ y):=fun x y => by simp
       rw [dd,dd]
       by_cases hc:mid - a < b - mid
       ·rw [if_pos (by simp; omega),hself a mid lim d4 g1 (by omega) (by omega) (by omega) (by omega) gBa,Option.bind_some]
        have hp1:=pdq_sorts fam.lt hS d4 a mid lim true true g1 (by omega) gBa
        obtain ⟨gB,_⟩:=gl _ hp1.1 hp1.2
        have hsz:=hp1.1.1
        rw [ih m (mid+1) b lim _ _ ap (by omega) (by omega) (by omega) (by omega) (by omega) (by omega) gB (by omega)]
        subst hmid hap hd4 hD hp hlimd
        rw [← pdq_left h12 h0 h1 ht2 ⟨g1,g2⟩ hc]
       ·rw [if_neg (by simp; omega),hself (mid+1) b lim d4 (by omega) (by omega) (by omega) (by omega) (by omega) gBr,Option.bind_some]
        have hp1:=pdq_sorts fam.lt hS d4 (mid+1) b lim true true (by omega) (by omega) gBr
        obtain ⟨gB,_⟩:=gr _ hp1.1 hp1.2
        have hsz:=hp1.1.1
        rw [ih m a mid lim _ _ ap (by omega) (by omega) (by omega) (by omega) (by omega) (by omega) gB (by omega)]
        subst hmid hap hd4 hD hp hlimd
        rw [← pdq_right h12 h0 h1 ht2 ⟨g1,g2⟩ hc]
     rw [hint_inc]
     have cnd:(bif (bif wb then wp else false) then decide ((rd fam.lt X a b limit wb wp).hint=.increasing) else false) = (wb && wp && decide ((rd fam.lt X a b limit wb wp).hint=.increasing)):=by cases wb <;> cases wp <;> rfl
     rw [cnd]
     by_cases hc:(wb && wp && decide ((rd fam.lt X a b limit wb wp).hint=.increasing))=true
     ·have hpi:=rd_pi_yes hc
      rw [if_pos hc,f191_eq fam k hlt (by rw [s2]; exact hb) (by rw [s2]; omega) (by rw [s2]; omega),Option.bind_some,← hpi]
      simp only []
      by_cases h1:(rd fam.lt X a b limit wb wp).pi.2=true
      ·rw [if_pos h1,pdq_done h12 h0 h1]
      ·rw [if_neg h1]
       exact last (by simpa using h1)
     ·have hpi:=rd_pi_no (lt:=fam.lt) (d:=X) (a:=a) (b:=b) (limit:=limit) (by simpa using hc)
      rw [if_neg hc]
      have:=last (by rw [hpi])
      rw [hpi] at this
      exact this
theorem f142_eq (hS:SWO fam.lt):∀ (n k a b limit:Nat) (X:Array Nat),b - a≤n→a≤b→b≤X.size→X.size < 2305843009213693952→limit < 4611686018427387904→Below fam.lt a b X→X.size+n+22≤k →
 f142 k fam X (a:Int) (b:Int) (limit:Int)=some (pdq fam.lt X a b limit true true):=by
 intro n
 induction n with
 | zero =>
   intro k a b limit X hn hab hb hX hl hB hk
   obtain ⟨k,rfl⟩:∃ j,k=j+1:=⟨k - 1,by omega⟩
   rw [f142]
   exact l142_eq fam hS (n0:=0) (N:=X.size) (fun a b limit X h1 h2 => by omega) hX (by omega) 0 k a b limit X true true hn (Nat.le_refl _) hab hb rfl hl hB (by omega)
 | succ n ih =>
   intro k a b limit X hn hab hb hX hl hB hk
   obtain ⟨k,rfl⟩:∃ j,k=j+1:=⟨k - 1,by omega⟩
   rw [f142]
   refine l142_eq fam hS (n0:=n+1) (N:=X.size) (fun a' b' limit' X' h1 h2 h3 h4 h5 h6 => ?_) hX (by omega) (n+1) k a b limit X true true hn (Nat.le_refl _) hab hb rfl hl hB (by omega)
   exact ih k a' b' limit' X' (by omega) h1 h3 (by omega) h5 h6 (by omega)
end
end
end Go.Proofs.Ytnpaokckkbhdjaa.S
