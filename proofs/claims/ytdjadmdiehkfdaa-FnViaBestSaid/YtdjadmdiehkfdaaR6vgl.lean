/-
  Laws of the graph statements, turned to this seat's numbers by a program of this project (port4.py). No condition.
-/
import Derived.Test.YtdjadmdiehkfdaaR6v
import Derived.Test.YtdjadmdiehkfdaaVmU
import Derived.Test.YtdjadmdiehkfdaaLawC
import Derived.Test.YtdjadmdiehkfdaaDijR
set_option linter.unusedVariables false
set_option linter.unusedSimpArgs false
namespace Go.Proofs.Ytdjadmdiehkfdaa
open Go Go.Vm Go.Proofs V
abbrev Spot:=Int × (Int × Int)
abbrev Road:=Int × (Int × (Int × (Int × (Int × ByteArray))))
abbrev Ban:=Int × Int
abbrev Graph:=List Spot × (List Road × List Ban)
abbrev dS:Spot:=((0:Int),((0:Int),(0:Int)))
abbrev dR:Road:=((0:Int),((0:Int),((0:Int),((0:Int),((0:Int),(⟨#[]⟩:ByteArray))))))
abbrev dB:Ban:=((0:Int),(0:Int))
def idB (a:Int):Bool:=bif (decide ((a:Int) ≥ (1:Int))) then (decide ((a:Int) ≤ (1000000000:Int))) else false
def ptB (a:Int × Int):Bool:=bif (bif (bif (decide ((a.1:Int) ≥ (-10000000:Int))) then (decide ((a.1:Int) ≤ (10000000:Int))) else false) then (decide ((a.2:Int) ≥ (-10000000:Int))) else false) then (decide ((a.2:Int) ≤ (10000000:Int))) else false
def okSpot (g:Graph) (i:Nat):Bool:=idB (g.1.getD i dS).1 && ptB (g.1.getD i dS).2 && (decide (i=0) || decide ((g.1.getD (i - 1) dS).1 < (g.1.getD i dS).1))
def okRoad (g:Graph) (i:Nat):Bool:=decide (0 ≤ (g.2.1.getD i dR).1) && decide ((g.2.1.getD i dR).1 < (g.1.length:Int)) && decide (0 ≤ (g.2.1.getD i dR).2.1) && decide ((g.2.1.getD i dR).2.1 < (g.1.length:Int)) && idB (g.2.1.getD i dR).2.2.1 &&
 decide (1 ≤ (g.2.1.getD i dR).2.2.2.1) && decide ((g.2.1.getD i dR).2.2.2.1≤1000000) && decide (0 ≤ (g.2.1.getD i dR).2.2.2.2.1) && decide ((g.2.1.getD i dR).2.2.2.2.1≤1000000000)
def banLess (a b:Ban):Bool:=decide (a.1 < b.1) || (decide (a.1=b.1) && decide (a.2 < b.2))
def okBan (g:Graph) (i:Nat):Bool:=decide (0 ≤ (g.2.2.getD i dB).1) && decide ((g.2.2.getD i dB).1 < (g.2.1.length:Int)) && decide (0 ≤ (g.2.2.getD i dB).2) && decide ((g.2.2.getD i dB).2 < (g.2.1.length:Int)) &&
 decide ((g.2.1.getD (Int.toNat (g.2.2.getD i dB).1) dR).2.1 = (g.2.1.getD (Int.toNat (g.2.2.getD i dB).2) dR).1) && (decide (i=0) || banLess (g.2.2.getD (i - 1) dB) (g.2.2.getD i dB))
def graphOk (g:Graph):Bool:=decide (g.1.length≤5000) && decide (g.2.1.length≤8000) && decide (g.2.2.length≤2000) && allTo (okSpot g) g.1.length && allTo (okRoad g) g.2.1.length && allTo (okBan g) g.2.2.length
theorem e70 (k:Nat) (a:Int):f70 k a=some (idB a):=rfl
theorem e71 (k:Nat) (a:Int × Int):f71 k a=some (ptB a):=rfl
theorem e72 (k:Nat) (a b:Ban):f72 k a b=some (banLess a b):=by
 unfold f72 banLess
 congr 1
 by_cases h1:a.1 < b.1
 ·simp [h1]
 ·simp only [h1,decide_false,cond_false,Bool.false_or]
  by_cases h2:a.1=b.1
  ·simp [h2]
  ·simp [h2]
theorem e34 (k:Nat) (a:Int):f34 k a=some (idB a):=rfl
theorem e35 (k:Nat) (a:Int × Int):f35 k a=some (ptB a):=rfl
theorem ge_not (a b:Int):decide (a ≥ b)=!decide (a < b):=by
 rw [← decide_not]; congr 1; apply propext; omega
theorem gt_not (a b:Int):decide (a > b)=!decide (a≤b):=by
 rw [← decide_not]; congr 1; apply propext; omega
theorem lt_not (a b:Int):decide (a < b)=!decide (b≤a):=by
 rw [← decide_not]; congr 1; apply propext; omega
theorem ne_dec (a b:Int):(a != b)=!decide (a=b):=by by_cases h:a=b <;> simp [h]
theorem pos_succ (j:Nat):decide (((j+1:Nat):Int) > 0)=true:=by simp
theorem spots47 (k:Nat) (g:Graph) (hg:g.1.length≤1048576) (m i:Nat) (hi:i < g.1.length):f47.l42 k g (m+1) (i:Int)=bif okSpot g i then f47.l42 k g m ((i+1:Nat):Int) else some false:=by
 rw [f47.l42,if_t (by simpa using hi),if_t ⟨by omega,by omega⟩,wrap_s (by omega)]
 simp only [e70,e71,Option.bind_some,Int.toNat_natCast]
 unfold okSpot
 generalize idB (g.1.getD i dS).1=A
 generalize ptB (g.1.getD i dS).2=B
 rcases i with _ | j
 ·cases A <;> cases B <;> simp
 ·have h1:(0:Int) ≤ (j:Int) ∧ (j:Int) < (g.1.length:Int):=⟨by omega,by omega⟩
  simp only [wrap_p j (by omega),pos_succ,Int.toNat_natCast,Nat.add_sub_cancel,ge_not]
  generalize decide ((g.1.getD j dS).1 < (g.1.getD (j+1) dS).1)=C
  cases A <;> cases B <;> cases C <;> simp [h1]
theorem roads47 (k:Nat) (g:Graph) (hg:g.2.1.length≤1048576) (m i:Nat) (hi:i < g.2.1.length):f47.l118 k g (m+1) (i:Int)=bif okRoad g i then f47.l118 k g m ((i+1:Nat):Int) else some false:=by
 rw [f47.l118,if_t (by simpa using hi),if_t ⟨by omega,by omega⟩,wrap_s (by omega)]
 have hr:g.2.1.getD i dR=List.getD g.2.1 (Int.toNat (i:Int)) dR:=by rw [Int.toNat_natCast]
 unfold okRoad
 rw [hr]
 generalize List.getD g.2.1 (Int.toNat (i:Int)) dR=r
 simp only [e70]
 have a1:=lt_not r.1 0
 have a2:=ge_not r.1 (g.1.length:Int)
 have a3:=lt_not r.2.1 0
 have a4:=ge_not r.2.1 (g.1.length:Int)
 have a5:=lt_not r.2.2.2.1 1
 have a6:=gt_not r.2.2.2.1 1000000
 have a7:=lt_not r.2.2.2.2.1 0
 have a8:=gt_not r.2.2.2.2.1 1000000000
 simp only [a1,a2,a3,a4,a5,a6,a7,a8]
 clear a1 a2 a3 a4 a5 a6 a7 a8
 generalize idB r.2.2.1=A
 generalize decide (0≤r.1)=B1
 generalize decide (r.1 < (g.1.length:Int))=B2
 generalize decide (0≤r.2.1)=B3
 generalize decide (r.2.1 < (g.1.length:Int))=B4
 generalize decide (1≤r.2.2.2.1)=B5
 generalize decide (r.2.2.2.1≤1000000)=B6
 generalize decide (0≤r.2.2.2.2.1)=B7
 generalize decide (r.2.2.2.2.1≤1000000000)=B8
 cases B1 <;> cases B2 <;> cases B3 <;> cases B4 <;> simp
 cases A <;> cases B5 <;> cases B6 <;> cases B7 <;> cases B8 <;> simp
theorem bans47 (k:Nat) (g:Graph) (hg:g.2.2.length≤1048576) (m i:Nat) (hi:i < g.2.2.length):f47.l206 k g (m+1) (i:Int)=bif okBan g i then f47.l206 k g m ((i+1:Nat):Int) else some false:=by
 rw [f47.l206,if_t (by simpa using hi),if_t ⟨by omega,by omega⟩,wrap_s (by omega)]
 have hr:g.2.2.getD i dB=List.getD g.2.2 (Int.toNat (i:Int)) dB:=by rw [Int.toNat_natCast]
 unfold okBan
 rw [hr]
 generalize List.getD g.2.2 (Int.toNat (i:Int)) dB=b
 have a1:=lt_not b.1 0
 have a2:=ge_not b.1 (g.2.1.length:Int)
 have a3:=lt_not b.2 0
 have a4:=ge_not b.2 (g.2.1.length:Int)
 simp only [a1,a2,a3,a4]
 clear a1 a2 a3 a4
 by_cases q1:0≤b.1∧b.1 < (g.2.1.length:Int)
 ·by_cases q2:0≤b.2∧b.2 < (g.2.1.length:Int)
  ·rw [if_t (fun _ => q1),if_t (fun _ => q2)]
   simp only [q1.1,q1.2,q2.1,q2.2,decide_true,Bool.not_true,cond_false,Bool.true_and]
   have h5:((g.2.1.getD (Int.toNat b.1) dR).2.1 != (g.2.1.getD (Int.toNat b.2) dR).1)=!decide ((g.2.1.getD (Int.toNat b.1) dR).2.1 = (g.2.1.getD (Int.toNat b.2) dR).1):=by
    exact ne_dec _ _
   simp only [h5]
   generalize decide ((g.2.1.getD (Int.toNat b.1) dR).2.1 = (g.2.1.getD (Int.toNat b.2) dR).1)=E
   rcases i with _ | j
   ·cases E <;> simp
   ·have h1:(0:Int) ≤ (j:Int) ∧ (j:Int) < (g.2.2.length:Int):=⟨by omega,by omega⟩
    simp only [wrap_p j (by omega),pos_succ,Int.toNat_natCast,Nat.add_sub_cancel,e72]
    generalize banLess (g.2.2.getD j dB) b=C
    cases E <;> cases C <;> simp [h1]
  ·have:(decide (0≤b.2) && decide (b.2 < (g.2.1.length:Int)))=false:=by simpa using q2
   rcases Classical.em (0≤b.2) with h | h
   ·have h':¬ b.2 < (g.2.1.length:Int):=fun h' => q2 ⟨h,h'⟩
    simp [h,h',q1]
   ·simp [h,q1]
 ·rcases Classical.em (0≤b.1) with h | h
  ·have h':¬ b.1 < (g.2.1.length:Int):=fun h' => q1 ⟨h,h'⟩
   simp [h,h']
  ·simp [h]
theorem spots9 (k:Nat) (g:Graph) (hg:g.1.length≤1048576) (m i:Nat) (hi:i < g.1.length):f9.l42 k g (m+1) (i:Int)=bif okSpot g i then f9.l42 k g m ((i+1:Nat):Int) else some false:=by
 rw [f9.l42,if_t (by simpa using hi),if_t ⟨by omega,by omega⟩,wrap_s (by omega)]
 simp only [e34,e35,Option.bind_some,Int.toNat_natCast]
 unfold okSpot
 generalize idB (g.1.getD i dS).1=A
 generalize ptB (g.1.getD i dS).2=B
 rcases i with _ | j
 ·cases A <;> cases B <;> simp
 ·have h1:(0:Int) ≤ (j:Int) ∧ (j:Int) < (g.1.length:Int):=⟨by omega,by omega⟩
  simp only [wrap_p j (by omega),pos_succ,Int.toNat_natCast,Nat.add_sub_cancel,ge_not]
  generalize decide ((g.1.getD j dS).1 < (g.1.getD (j+1) dS).1)=C
  cases A <;> cases B <;> cases C <;> simp [h1]
theorem roads9 (k:Nat) (g:Graph) (hg:g.2.1.length≤1048576) (m i:Nat) (hi:i < g.2.1.length):f9.l118 k g (m+1) (i:Int)=bif okRoad g i then f9.l118 k g m ((i+1:Nat):Int) else some false:=by
 rw [f9.l118,if_t (by simpa using hi),if_t ⟨by omega,by omega⟩,wrap_s (by omega)]
 have hr:g.2.1.getD i dR=List.getD g.2.1 (Int.toNat (i:Int)) dR:=by rw [Int.toNat_natCast]
 unfold okRoad
 rw [hr]
 generalize List.getD g.2.1 (Int.toNat (i:Int)) dR=r
 simp only [e34]
 have a1:=lt_not r.1 0
 have a2:=ge_not r.1 (g.1.length:Int)
 have a3:=lt_not r.2.1 0
 have a4:=ge_not r.2.1 (g.1.length:Int)
 have a5:=lt_not r.2.2.2.1 1
 have a6:=gt_not r.2.2.2.1 1000000
 have a7:=lt_not r.2.2.2.2.1 0
 have a8:=gt_not r.2.2.2.2.1 1000000000
 simp only [a1,a2,a3,a4,a5,a6,a7,a8]
 clear a1 a2 a3 a4 a5 a6 a7 a8
 generalize idB r.2.2.1=A
 generalize decide (0≤r.1)=B1
 generalize decide (r.1 < (g.1.length:Int))=B2
 generalize decide (0≤r.2.1)=B3
 generalize decide (r.2.1 < (g.1.length:Int))=B4
 generalize decide (1≤r.2.2.2.1)=B5
 generalize decide (r.2.2.2.1≤1000000)=B6
 generalize decide (0≤r.2.2.2.2.1)=B7
 generalize decide (r.2.2.2.2.1≤1000000000)=B8
 cases B1 <;> cases B2 <;> cases B3 <;> cases B4 <;> simp
 cases A <;> cases B5 <;> cases B6 <;> cases B7 <;> cases B8 <;> simp
theorem bans9 (k:Nat) (g:Graph) (hg:g.2.2.length≤1048576) (m i:Nat) (hi:i < g.2.2.length):f9.l209 k g (m+1) (i:Int)=bif okBan g i then f9.l209 k g m ((i+1:Nat):Int) else some false:=by
 rw [f9.l209,if_t (by simpa using hi),if_t ⟨by omega,by omega⟩]
 simp only [f9.j256,wrap_s (show i < 9223372036854775807 by omega)]
 have hr:g.2.2.getD i dB=List.getD g.2.2 (Int.toNat (i:Int)) dB:=by rw [Int.toNat_natCast]
 unfold okBan
 rw [hr]
 generalize List.getD g.2.2 (Int.toNat (i:Int)) dB=b
 have a1:=lt_not b.1 0
 have a2:=ge_not b.1 (g.2.1.length:Int)
 have a3:=lt_not b.2 0
 have a4:=ge_not b.2 (g.2.1.length:Int)
 simp only [a1,a2,a3,a4]
 clear a1 a2 a3 a4
 by_cases q1:0≤b.1∧b.1 < (g.2.1.length:Int)
 ·by_cases q2:0≤b.2∧b.2 < (g.2.1.length:Int)
  ·rw [if_t (fun _ => q1),if_t (fun _ => q2)]
   simp only [q1.1,q1.2,q2.1,q2.2,decide_true,Bool.not_true,cond_false,Bool.true_and]
   simp only [ne_dec]
   generalize decide ((g.2.1.getD (Int.toNat b.1) dR).2.1 = (g.2.1.getD (Int.toNat b.2) dR).1)=E
   rcases i with _ | j
   ·cases E <;> simp
   ·have h1:(0:Int) ≤ (j:Int) ∧ (j:Int) < (g.2.2.length:Int):=⟨by omega,by omega⟩
    have h3:(bif (decide (((List.getD g.2.2 j dB).1:Int) > b.1)) then true else (bif (((List.getD g.2.2 j dB).1:Int) == b.1) then (decide (((List.getD g.2.2 j dB).2:Int) ≥ b.2)) else false))=!banLess (g.2.2.getD j dB) b:=by
     unfold banLess
     generalize g.2.2.getD j dB=c
     by_cases x1:c.1 < b.1
     ·have:¬ c.1 > b.1:=by omega
      have h4:(c.1 == b.1)=false:=by simp; omega
      simp [x1,this,h4]
     ·by_cases x2:c.1=b.1
      ·have h4:(c.1 == b.1)=true:=by simp [x2]
       simp only [h4,x2]
       simp [ge_not]
      ·have:c.1 > b.1:=by omega
       simp [this,x1,x2]
    simp only [wrap_p j (by omega),pos_succ,Int.toNat_natCast,Nat.add_sub_cancel,h3]
    generalize banLess (g.2.2.getD j dB) b=C
    cases E <;> cases C <;> simp [h1]
  ·rcases Classical.em (0≤b.2) with h | h
   ·have h':¬ b.2 < (g.2.1.length:Int):=fun h' => q2 ⟨h,h'⟩
    simp [h,h',q1]
   ·simp [h,q1]
 ·rcases Classical.em (0≤b.1) with h | h
  ·have h':¬ b.1 < (g.2.1.length:Int):=fun h' => q1 ⟨h,h'⟩
   simp [h,h']
  ·simp [h]
theorem gt_lit (a c:Nat) (C:Int) (h:C = (c:Int)):decide ((a:Int) > C)=!decide (a≤c):=by
 subst h; rw [← decide_not]; congr 1; apply propext; omega
theorem spec47 (k:Nat) (hk:1048576 < k) (g:Graph) (h1:g.1.length≤1048576) (h2:g.2.1.length≤1048576) (h3:g.2.2.length≤1048576):f47 k g=some (graphOk g):=by
 have q3:=allLoop (L:=f47.l206 k g) (fun m i hi => bans47 k g h3 m i hi) (fun m => by rw [f47.l206,if_f (by simp)]) (show g.2.2.length < k by omega)
 have q2:=allLoop (L:=f47.l118 k g) (fun m i hi => roads47 k g h2 m i hi) (fun m => by rw [f47.l118,if_f (by simp)]) (show g.2.1.length < k by omega)
 have q1:=allLoop (L:=f47.l42 k g) (fun m i hi => spots47 k g h1 m i hi) (fun m => by rw [f47.l42,if_f (by simp)]) (show g.1.length < k by omega)
 have b1:=gt_lit g.1.length 5000 5000 rfl
 have b2:=gt_lit g.2.1.length 8000 8000 rfl
 have b3:=gt_lit g.2.2.length 2000 2000 rfl
 unfold f47
 rw [q1,q2,q3]
 unfold graphOk
 simp only [b1,b2,b3]
 generalize allTo (okSpot g) g.1.length=A
 generalize allTo (okRoad g) g.2.1.length=B
 generalize allTo (okBan g) g.2.2.length=C
 generalize decide (g.1.length≤5000)=D
 generalize decide (g.2.1.length≤8000)=E
 generalize decide (g.2.2.length≤2000)=F
 cases A <;> cases B <;> cases C <;> cases D <;> cases E <;> cases F <;> rfl
theorem impl9 (k:Nat) (hk:1048576 < k) (g:Graph) (h1:g.1.length≤1048576) (h2:g.2.1.length≤1048576) (h3:g.2.2.length≤1048576):f9 k g=some (graphOk g):=by
 have q3:=allLoop (L:=f9.l209 k g) (fun m i hi => bans9 k g h3 m i hi) (fun m => by rw [f9.l209,if_f (by simp)]) (show g.2.2.length < k by omega)
 have q2:=allLoop (L:=f9.l118 k g) (fun m i hi => roads9 k g h2 m i hi) (fun m => by rw [f9.l118,if_f (by simp)]) (show g.2.1.length < k by omega)
 have q1:=allLoop (L:=f9.l42 k g) (fun m i hi => spots9 k g h1 m i hi) (fun m => by rw [f9.l42,if_f (by simp)]) (show g.1.length < k by omega)
 have b1:=gt_lit g.1.length 5000 5000 rfl
 have b2:=gt_lit g.2.1.length 8000 8000 rfl
 have b3:=gt_lit g.2.2.length 2000 2000 rfl
 unfold f9
 rw [q1,q2,q3]
 unfold graphOk
 simp only [b1,b2,b3]
 generalize allTo (okSpot g) g.1.length=A
 generalize allTo (okRoad g) g.2.1.length=B
 generalize allTo (okBan g) g.2.2.length=C
 generalize decide (g.1.length≤5000)=D
 generalize decide (g.2.1.length≤8000)=E
 generalize decide (g.2.2.length≤2000)=F
 cases A <;> cases B <;> cases C <;> cases D <;> cases E <;> cases F <;> rfl
end Go.Proofs.Ytdjadmdiehkfdaa
