/- SoA, SoB, SoC, SoD, SoE -/
import Derived.Test.YtnpaokckkbhdjaaR7s
import Derived.Sort.AssemblyPlain
import Derived.Test.YtnpaokckkbhdjaaLawA
import Derived.Sort.LotD4
import Derived.Sort.LotD5
import Derived.Laws.Bits64
import Derived.Laws.Bits64b
import Derived.Sort.Walk13a
set_option linter.unusedVariables false
set_option linter.unusedSimpArgs false
open Go Go.Vm Go.Proofs
namespace Go.Proofs.Ytnpaokckkbhdjaa.S
section
open Go.Sort (swp insInner insOuter insertionSort siftDown heapBuild heapPop heapSort reverseLoop reverseRange)
theorem less_nat (fam:Fam) (X:Array Nat) (p q:Nat):lessF fam X (p:Int) (q:Int)=fam.lt X[p]! X[q]! := rfl
theorem swp_nat (X:Array Nat) (p q:Nat):swpF X (p:Int) (q:Int)=swp X p q:=rfl
theorem inX_nat {X:Array Nat} {p q:Nat}:inX X (p:Int) (q:Int)↔p < X.size∧q < X.size:=by
 unfold inX; omega
theorem wr {n:Int} {m:Nat} (h:n = (m:Int)) (hm:m≤9223372036854775807):IntKind.i64.wrap n = (m:Int):=by
 rw [h]; exact wrap_in (by omega) (by omega)
section
variable (fam:Fam) (k:Nat)
theorem insInner_size (a:Nat):∀ (j:Nat) (d:Array Nat),(insInner fam.lt a j d).size=d.size
 | 0,d => rfl
 | j+1,d => by
   rw [insInner]
   split
   ·rw [insInner_size a j,Go.Sort.size_swp]
   ·rfl
theorem l100_eq (a:Nat) (v:Int) (q:((Array Nat) × Int)→Option (Array Nat)):∀ (j m:Nat) (X:Array Nat),j < X.size→X.size < 4611686018427387904→j+1≤m →
 f186.l100 k (a:Int) fam v q m (X,(j:Int))=q (insInner fam.lt a j X,IntKind.i64.wrap (v+1))
 | 0,m,X,hj,hX,hm => by
   obtain ⟨m,rfl⟩:∃ n,m=n+1:=⟨m - 1,by omega⟩
   rw [f186.l100]
   have:decide (((0:Nat):Int) > (a:Int))=false:=by simp
   rw [this]
   simp [insInner]
 | j+1,m,X,hj,hX,hm => by
   obtain ⟨m,rfl⟩:∃ n,m=n+1:=⟨m - 1,by omega⟩
   rw [f186.l100]
   have e1:IntKind.i64.wrap (((j+1:Nat):Int) - 1) = (j:Int):=wr (by omega) (by omega)
   rw [e1,if_pos (fun _ => inX_nat.2 ⟨hj,by omega⟩),if_pos (inX_nat.2 ⟨hj,by omega⟩),less_nat,swp_nat,insInner]
   by_cases h1:j+1 > a
   ·have:decide (((j+1:Nat):Int) > (a:Int))=true:=by simp; omega
    rw [this]
    simp only [cond_true,h1,decide_true,Bool.true_and]
    by_cases h2:fam.lt X[j+1]! X[j]! = true
    ·rw [if_pos h2,if_pos h2,l100_eq a v q j m _ (by rw [Go.Sort.size_swp]; omega) (by rw [Go.Sort.size_swp]; omega) (by omega)]
    ·rw [if_neg h2,if_neg h2]
   ·have:decide (((j+1:Nat):Int) > (a:Int))=false:=by simp; omega
    rw [this]
    simp [h1]
theorem l186_eq (a b:Nat):∀ (n i m:Nat) (X:Array Nat),b - i=n→b≤X.size→X.size < 4611686018427387904→X.size+1≤k→n+1≤m →
 f186.l1 k (b:Int) (a:Int) fam m (X,(i:Int))=some (insOuter fam.lt a b i X)
 | 0,i,m,X,hn,hb,hX,hk,hm => by
   obtain ⟨m,rfl⟩:∃ n,m=n+1:=⟨m - 1,by omega⟩
   rw [f186.l1,insOuter]
   have:decide ((i:Int) < (b:Int))=false:=by simp; omega
   rw [this,if_neg (by simp),if_neg (by omega)]
 | n+1,i,m,X,hn,hb,hX,hk,hm => by
   obtain ⟨m,rfl⟩:∃ n,m=n+1:=⟨m - 1,by omega⟩
   rw [f186.l1,insOuter]
   have:decide ((i:Int) < (b:Int))=true:=by simp; omega
   rw [this,if_pos rfl,if_pos (by omega),l100_eq fam k a _ _ i k X (by omega) hX (by omega)]
   rw [wr (m:=i+1) (by omega) (by omega),l186_eq a b n (i+1) m _ (by omega) (by rw [insInner_size]; exact hb) (by rw [insInner_size]; exact hX) (by rw [insInner_size]; exact hk) (by omega)]
theorem f186_eq {a b:Nat} {X:Array Nat} (hab:a≤b) (hb:b≤X.size) (hX:X.size < 4611686018427387904) (hk:X.size+1≤k):f186 k fam X (a:Int) (b:Int)=some (insertionSort fam.lt X a b):=by
 unfold f186 insertionSort
 rw [wr (m:=a+1) (by omega) (by omega)]
 exact l186_eq fam k a b _ (a+1) k X rfl hb hX hk (by omega)
end
end
section
open Go.Sort (swp scanUp scanDown partLoop partition partEqLoop partitionEqual scanSorted shiftDown shiftUp partialIns partialInsertionSort)
section
variable (fam:Fam) (k:Nat)
end
end
section
open Go.Sort (swp scanUp scanDown partEqLoop partitionEqual scanSorted shiftDown shiftUp partialIns partialInsertionSort fixDown fixUp order2 median medianAdjacent choosePivot rawPivot hintOf hintCode)
section
variable (fam:Fam) (k:Nat)
end
end
section
open Go.Sort (swp bitsLen xorNext xorNextN breakStep breakPatterns bitsLen_le_iff)
section
variable (fam:Fam) (k:Nat)
theorem fdiv_nat (x s:Nat) (h:s≤64):Int.fdiv (x:Int) (2 ^ (min (Int.toNat (s:Int)) IntKind.u64.bits)) = ((x / 2 ^ s:Nat):Int):=by
 have e:min (Int.toNat (s:Int)) IntKind.u64.bits=s:=by
  rw [Int.toNat_natCast]; exact Nat.min_eq_left h
 rw [e,Int.fdiv_eq_ediv_of_nonneg _ (by exact Int.pow_nonneg (by decide))]
 push_cast
 rfl
end
end
section
open Go.Sort (swp SWO Below PermIn SortedIn Hint hintCode pdq rd pdq_small pdq_heap pdq_done pdq_eq pdq_left pdq_right rd_facts rd_false rd_true rd_c rd_dec rd_not rd_pi_yes rd_pi_no rd_lim_le round_eq round_part pdq_sorts partition partitionEqual)
section
variable (fam:Fam)
end
end
end Go.Proofs.Ytnpaokckkbhdjaa.S
