/-
  Own texts of this project, joined. No condition.
-/
import Derived.Test.YtnpaokckkbhdjaaR7fp
import Derived.Test.YtnpaokckkbhdjaaVmU
import Derived.Test.YtnpaokckkbhdjaaLawB
section
set_option linter.unusedVariables false
set_option linter.unusedSimpArgs false
namespace Go.Proofs.Ytnpaokckkbhdjaa
open Go Go.Vm Go.Proofs V
abbrev Spot:=Int × (Int × Int)
abbrev Road:=Int × (Int × (Int × (Int × (Int × ByteArray))))
abbrev Ban:=Int × Int
abbrev Graph:=List Spot × (List Road × List Ban)
abbrev dS:Spot:=((0:Int),((0:Int),(0:Int)))
abbrev dR:Road:=((0:Int),((0:Int),((0:Int),((0:Int),((0:Int),(⟨#[]⟩:ByteArray))))))
abbrev dB:Ban:=((0:Int),(0:Int))
def idB (a:Int):Bool:=bif (decide ((a:Int) ≥ (1:Int))) then (decide ((a:Int) ≤ (1000000000:Int))) else false
def ptB (a:Int × Int):Bool:=bif (bif (bif (decide ((a.1:Int) ≥ (-10000000:Int))) then (decide ((a.1:Int) ≤ (10000000:Int))) else false) then (decide ((a.2:Int) ≥ (-10000000:Int))) else false) then (decide ((a.2:Int) ≤ (10000000:Int))) else false
def okSpot (g:Graph) (i:Nat):Bool:=idB (g.1.getD i dS).1 && ptB (g.1.getD i dS).2 && (decide (i=0) || decide ((g.1.getD (i - 1) dS).1 < (g.1.getD i dS).1))
def okRoad (g:Graph) (i:Nat):Bool:=decide (0 ≤ (g.2.1.getD i dR).1) && decide ((g.2.1.getD i dR).1 < (g.1.length:Int)) && decide (0 ≤ (g.2.1.getD i dR).2.1) && decide ((g.2.1.getD i dR).2.1 < (g.1.length:Int)) && idB (g.2.1.getD i dR).2.2.1 &&
 decide (1 ≤ (g.2.1.getD i dR).2.2.2.1) && decide ((g.2.1.getD i dR).2.2.2.1≤1000000) && decide (0 ≤ (g.2.1.getD i dR).2.2.2.2.1) && decide ((g.2.1.getD i dR).2.2.2.2.1≤1000000000)
def banLess (a b:Ban):Bool:=decide (a.1 < b.1) || (decide (a.1=b.1) && decide (a.2 < b.2))
def okBan (g:Graph) (i:Nat):Bool:=decide (0 ≤ (g.2.2.getD i dB).1) && decide ((g.2.2.getD i dB).1 < (g.2.1.length:Int)) && decide (0 ≤ (g.2.2.getD i dB).2) && decide ((g.2.2.getD i dB).2 < (g.2.1.length:Int)) &&
 decide ((g.2.1.getD (Int.toNat (g.2.2.getD i dB).1) dR).2.1 = (g.2.1.getD (Int.toNat (g.2.2.getD i dB).2) dR).1) && (decide (i=0) || banLess (g.2.2.getD (i - 1) dB) (g.2.2.getD i dB))
def graphOk (g:Graph):Bool:=decide (g.1.length≤5000) && decide (g.2.1.length≤8000) && decide (g.2.2.length≤2000) && allTo (okSpot g) g.1.length && allTo (okRoad g) g.2.1.length && allTo (okBan g) g.2.2.length
theorem e149 (k:Nat) (a:Int):f149 k a=some (idB a):=rfl
theorem e150 (k:Nat) (a:Int × Int):f150 k a=some (ptB a):=rfl
theorem e151 (k:Nat) (a b:Ban):f151 k a b=some (banLess a b):=by
 unfold f151 banLess
 congr 1
 by_cases h1:a.1 < b.1
 ·simp [h1]
 ·simp only [h1,decide_false,cond_false,Bool.false_or]
  by_cases h2:a.1=b.1
  ·simp [h2]
  ·simp [h2]
theorem e146 (k:Nat) (a:Int):f146 k a=some (idB a):=rfl
theorem e147 (k:Nat) (a:Int × Int):f147 k a=some (ptB a):=rfl
theorem ge_not (a b:Int):decide (a ≥ b)=!decide (a < b):=by
 rw [← decide_not]; congr 1; apply propext; omega
theorem gt_not (a b:Int):decide (a > b)=!decide (a≤b):=by
 rw [← decide_not]; congr 1; apply propext; omega
theorem lt_not (a b:Int):decide (a < b)=!decide (b≤a):=by
 rw [← decide_not]; congr 1; apply propext; omega
theorem ne_dec (a b:Int):(a != b)=!decide (a=b):=by by_cases h:a=b <;> simp [h]
theorem pos_succ (j:Nat):decide (((j+1:Nat):Int) > 0)=true:=by simp
theorem spots86 (k:Nat) (g:Graph) (hg:g.1.length≤1048576) (m i:Nat) (hi:i < g.1.length):f86.l42 k g (m+1) (i:Int)=bif okSpot g i then f86.l42 k g m ((i+1:Nat):Int) else some false:=by
 rw [f86.l42,if_t (by simpa using hi),if_t ⟨by omega,by omega⟩,wrap_s (by omega)]
 simp only [e149,e150,Option.bind_some,Int.toNat_natCast]
 unfold okSpot
 generalize idB (g.1.getD i dS).1=A
 generalize ptB (g.1.getD i dS).2=B
 rcases i with _ | j
 ·cases A <;> cases B <;> simp
 ·have h1:(0:Int) ≤ (j:Int) ∧ (j:Int) < (g.1.length:Int):=⟨by omega,by omega⟩
  simp only [wrap_p j (by omega),pos_succ,Int.toNat_natCast,Nat.add_sub_cancel,ge_not]
  generalize decide ((g.1.getD j dS).1 < (g.1.getD (j+1) dS).1)=C
  cases A <;> cases B <;> cases C <;> simp [h1]
theorem roads86 (k:Nat) (g:Graph) (hg:g.2.1.length≤1048576) (m i:Nat) (hi:i < g.2.1.length):f86.l118 k g (m+1) (i:Int)=bif okRoad g i then f86.l118 k g m ((i+1:Nat):Int) else some false:=by
 rw [f86.l118,if_t (by simpa using hi),if_t ⟨by omega,by omega⟩,wrap_s (by omega)]
 have hr:g.2.1.getD i dR=List.getD g.2.1 (Int.toNat (i:Int)) dR:=by rw [Int.toNat_natCast]
 unfold okRoad
 rw [hr]
 generalize List.getD g.2.1 (Int.toNat (i:Int)) dR=r
 simp only [e149]
 have a1:=lt_not r.1 0
 have a2:=ge_not r.1 (g.1.length:Int)
 have a3:=lt_not r.2.1 0
 have a4:=ge_not r.2.1 (g.1.length:Int)
 have a5:=lt_not r.2.2.2.1 1
 have a6:=gt_not r.2.2.2.1 1000000
 have a7:=lt_not r.2.2.2.2.1 0
 have a8:=gt_not r.2.2.2.2.1 1000000000
 simp only [a1,a2,a3,a4,a5,a6,a7,a8]
 clear a1 a2 a3 a4 a5 a6 a7 a8
 generalize idB r.2.2.1=A
 generalize decide (0≤r.1)=B1
 generalize decide (r.1 < (g.1.length:Int))=B2
 generalize decide (0≤r.2.1)=B3
 generalize decide (r.2.1 < (g.1.length:Int))=B4
 generalize decide (1≤r.2.2.2.1)=B5
 generalize decide (r.2.2.2.1≤1000000)=B6
 generalize decide (0≤r.2.2.2.2.1)=B7
 generalize decide (r.2.2.2.2.1≤1000000000)=B8
 cases B1 <;> cases B2 <;> cases B3 <;> cases B4 <;> simp
 cases A <;> cases B5 <;> cases B6 <;> cases B7 <;> cases B8 <;> simp
theorem bans86 (k:Nat) (g:Graph) (hg:g.2.2.length≤1048576) (m i:Nat) (hi:i < g.2.2.length):f86.l206 k g (m+1) (i:Int)=bif okBan g i then f86.l206 k g m ((i+1:Nat):Int) else some false:=by
 rw [f86.l206,if_t (by simpa using hi),if_t ⟨by omega,by omega⟩,wrap_s (by omega)]
 have hr:g.2.2.getD i dB=List.getD g.2.2 (Int.toNat (i:Int)) dB:=by rw [Int.toNat_natCast]
 unfold okBan
 rw [hr]
 generalize List.getD g.2.2 (Int.toNat (i:Int)) dB=b
 have a1:=lt_not b.1 0
 have a2:=ge_not b.1 (g.2.1.length:Int)
 have a3:=lt_not b.2 0
 have a4:=ge_not b.2 (g.2.1.length:Int)
 simp only [a1,a2,a3,a4]
 clear a1 a2 a3 a4
 by_cases q1:0≤b.1∧b.1 < (g.2.1.length:Int)
 ·by_cases q2:0≤b.2∧b.2 < (g.2.1.length:Int)
  ·rw [if_t (fun _ => q1),if_t (fun _ => q2)]
   simp only [q1.1,q1.2,q2.1,q2.2,decide_true,Bool.not_true,cond_false,Bool.true_and]
   have h5:((g.2.1.getD (Int.toNat b.1) dR).2.1 != (g.2.1.getD (Int.toNat b.2) dR).1)=!decide ((g.2.1.getD (Int.toNat b.1) dR).2.1 = (g.2.1.getD (Int.toNat b.2) dR).1):=by
    exact ne_dec _ _
   simp only [h5]
   generalize decide ((g.2.1.getD (Int.toNat b.1) dR).2.1 = (g.2.1.getD (Int.toNat b.2) dR).1)=E
   rcases i with _ | j
   ·cases E <;> simp
   ·have h1:(0:Int) ≤ (j:Int) ∧ (j:Int) < (g.2.2.length:Int):=⟨by omega,by omega⟩
    simp only [wrap_p j (by omega),pos_succ,Int.toNat_natCast,Nat.add_sub_cancel,e151]
    generalize banLess (g.2.2.getD j dB) b=C
    cases E <;> cases C <;> simp [h1]
  ·have:(decide (0≤b.2) && decide (b.2 < (g.2.1.length:Int)))=false:=by simpa using q2
   rcases Classical.em (0≤b.2) with h | h
   ·have h':¬ b.2 < (g.2.1.length:Int):=fun h' => q2 ⟨h,h'⟩
    simp [h,h',q1]
   ·simp [h,q1]
 ·rcases Classical.em (0≤b.1) with h | h
  ·have h':¬ b.1 < (g.2.1.length:Int):=fun h' => q1 ⟨h,h'⟩
   simp [h,h']
  ·simp [h]
theorem spots92 (k:Nat) (g:Graph) (hg:g.1.length≤1048576) (m i:Nat) (hi:i < g.1.length):f92.l42 k g (m+1) (i:Int)=bif okSpot g i then f92.l42 k g m ((i+1:Nat):Int) else some false:=by
 rw [f92.l42,if_t (by simpa using hi),if_t ⟨by omega,by omega⟩,wrap_s (by omega)]
 simp only [e146,e147,Option.bind_some,Int.toNat_natCast]
 unfold okSpot
 generalize idB (g.1.getD i dS).1=A
 generalize ptB (g.1.getD i dS).2=B
 rcases i with _ | j
 ·cases A <;> cases B <;> simp
 ·have h1:(0:Int) ≤ (j:Int) ∧ (j:Int) < (g.1.length:Int):=⟨by omega,by omega⟩
  simp only [wrap_p j (by omega),pos_succ,Int.toNat_natCast,Nat.add_sub_cancel,ge_not]
  generalize decide ((g.1.getD j dS).1 < (g.1.getD (j+1) dS).1)=C
  cases A <;> cases B <;> cases C <;> simp [h1]
theorem roads92 (k:Nat) (g:Graph) (hg:g.2.1.length≤1048576) (m i:Nat) (hi:i < g.2.1.length):f92.l118 k g (m+1) (i:Int)=bif okRoad g i then f92.l118 k g m ((i+1:Nat):Int) else some false:=by
 rw [f92.l118,if_t (by simpa using hi),if_t ⟨by omega,by omega⟩,wrap_s (by omega)]
 have hr:g.2.1.getD i dR=List.getD g.2.1 (Int.toNat (i:Int)) dR:=by rw [Int.toNat_natCast]
 unfold okRoad
 rw [hr]
 generalize List.getD g.2.1 (Int.toNat (i:Int)) dR=r
 simp only [e146]
 have a1:=lt_not r.1 0
 have a2:=ge_not r.1 (g.1.length:Int)
 have a3:=lt_not r.2.1 0
 have a4:=ge_not r.2.1 (g.1.length:Int)
 have a5:=lt_not r.2.2.2.1 1
 have a6:=gt_not r.2.2.2.1 1000000
 have a7:=lt_not r.2.2.2.2.1 0
 have a8:=gt_not r.2.2.2.2.1 1000000000
 simp only [a1,a2,a3,a4,a5,a6,a7,a8]
 clear a1 a2 a3 a4 a5 a6 a7 a8
 generalize idB r.2.2.1=A
 generalize decide (0≤r.1)=B1
 generalize decide (r.1 < (g.1.length:Int))=B2
 generalize decide (0≤r.2.1)=B3
 generalize decide (r.2.1 < (g.1.length:Int))=B4
 generalize decide (1≤r.2.2.2.1)=B5
 generalize decide (r.2.2.2.1≤1000000)=B6
 generalize decide (0≤r.2.2.2.2.1)=B7
 generalize decide (r.2.2.2.2.1≤1000000000)=B8
 cases B1 <;> cases B2 <;> cases B3 <;> cases B4 <;> simp
 cases A <;> cases B5 <;> cases B6 <;> cases B7 <;> cases B8 <;> simp
theorem bans92 (k:Nat) (g:Graph) (hg:g.2.2.length≤1048576) (m i:Nat) (hi:i < g.2.2.length):f92.l209 k g (m+1) (i:Int)=bif okBan g i then f92.l209 k g m ((i+1:Nat):Int) else some false:=by
 rw [f92.l209,if_t (by simpa using hi),if_t ⟨by omega,by omega⟩]
 simp only [f92.j256,wrap_s (show i < 9223372036854775807 by omega)]
 have hr:g.2.2.getD i dB=List.getD g.2.2 (Int.toNat (i:Int)) dB:=by rw [Int.toNat_natCast]
 unfold okBan
 rw [hr]
 generalize List.getD g.2.2 (Int.toNat (i:Int)) dB=b
 have a1:=lt_not b.1 0
 have a2:=ge_not b.1 (g.2.1.length:Int)
 have a3:=lt_not b.2 0
 have a4:=ge_not b.2 (g.2.1.length:Int)
 simp only [a1,a2,a3,a4]
 clear a1 a2 a3 a4
 by_cases q1:0≤b.1∧b.1 < (g.2.1.length:Int)
 ·by_cases q2:0≤b.2∧b.2 < (g.2.1.length:Int)
  ·rw [if_t (fun _ => q1),if_t (fun _ => q2)]
   simp only [q1.1,q1.2,q2.1,q2.2,decide_true,Bool.not_true,cond_false,Bool.true_and]
   simp only [ne_dec]
   generalize decide ((g.2.1.getD (Int.toNat b.1) dR).2.1 = (g.2.1.getD (Int.toNat b.2) dR).1)=E
   rcases i with _ | j
   ·cases E <;> simp
   ·have h1:(0:Int) ≤ (j:Int) ∧ (j:Int) < (g.2.2.length:Int):=⟨by omega,by omega⟩
    have h3:(bif (decide (((List.getD g.2.2 j dB).1:Int) > b.1)) then true else (bif (((List.getD g.2.2 j dB).1:Int) == b.1) then (decide (((List.getD g.2.2 j dB).2:Int) ≥ b.2)) else false))=!banLess (g.2.2.getD j dB) b:=by
     unfold banLess
     generalize g.2.2.getD j dB=c
     by_cases x1:c.1 < b.1
     ·have:¬ c.1 > b.1:=by omega
      have h4:(c.1 == b.1)=false:=by simp; omega
      simp [x1,this,h4]
     ·by_cases x2:c.1=b.1
      ·have h4:(c.1 == b.1)=true:=by simp [x2]
       simp only [h4,x2]
       simp [ge_not]
      ·have:c.1 > b.1:=by omega
       simp [this,x1,x2]
    simp only [wrap_p j (by omega),pos_succ,Int.toNat_natCast,Nat.add_sub_cancel,h3]
    generalize banLess (g.2.2.getD j dB) b=C
    cases E <;> cases C <;> simp [h1]
  ·rcases Classical.em (0≤b.2) with h | h
   ·have h':¬ b.2 < (g.2.1.length:Int):=fun h' => q2 ⟨h,h'⟩
    simp [h,h',q1]
   ·simp [h,q1]
 ·rcases Classical.em (0≤b.1) with h | h
  ·have h':¬ b.1 < (g.2.1.length:Int):=fun h' => q1 ⟨h,h'⟩
   simp [h,h']
  ·simp [h]
theorem gt_lit (a c:Nat) (C:Int) (h:C = (c:Int)):decide ((a:Int) > C)=!decide (a≤c):=by
 subst h; rw [← decide_not]; congr 1; apply propext; omega
theorem spec86 (k:Nat) (hk:1048576 < k) (g:Graph) (h1:g.1.length≤1048576) (h2:g.2.1.length≤1048576) (h3:g.2.2.length≤1048576):f86 k g=some (graphOk g):=by
 have q3:=allLoop (L:=f86.l206 k g) (fun m i hi => bans86 k g h3 m i hi) (fun m => by rw [f86.l206,if_f (by simp)]) (show g.2.2.length < k by omega)
 have q2:=allLoop (L:=f86.l118 k g) (fun m i hi => roads86 k g h2 m i hi) (fun m => by rw [f86.l118,if_f (by simp)]) (show g.2.1.length < k by omega)
 have q1:=allLoop (L:=f86.l42 k g) (fun m i hi => spots86 k g h1 m i hi) (fun m => by rw [f86.l42,if_f (by simp)]) (show g.1.length < k by omega)
 have b1:=gt_lit g.1.length 5000 5000 rfl
 have b2:=gt_lit g.2.1.length 8000 8000 rfl
 have b3:=gt_lit g.2.2.length 2000 2000 rfl
 unfold f86
 rw [q1,q2,q3]
 unfold graphOk
 simp only [b1,b2,b3]
 generalize allTo (okSpot g) g.1.length=A
 generalize allTo (okRoad g) g.2.1.length=B
 generalize allTo (okBan g) g.2.2.length=C
 generalize decide (g.1.length≤5000)=D
 generalize decide (g.2.1.length≤8000)=E
 generalize decide (g.2.2.length≤2000)=F
 cases A <;> cases B <;> cases C <;> cases D <;> cases E <;> cases F <;> rfl
theorem impl92 (k:Nat) (hk:1048576 < k) (g:Graph) (h1:g.1.length≤1048576) (h2:g.2.1.length≤1048576) (h3:g.2.2.length≤1048576):f92 k g=some (graphOk g):=by
 have q3:=allLoop (L:=f92.l209 k g) (fun m i hi => bans92 k g h3 m i hi) (fun m => by rw [f92.l209,if_f (by simp)]) (show g.2.2.length < k by omega)
 have q2:=allLoop (L:=f92.l118 k g) (fun m i hi => roads92 k g h2 m i hi) (fun m => by rw [f92.l118,if_f (by simp)]) (show g.2.1.length < k by omega)
 have q1:=allLoop (L:=f92.l42 k g) (fun m i hi => spots92 k g h1 m i hi) (fun m => by rw [f92.l42,if_f (by simp)]) (show g.1.length < k by omega)
 have b1:=gt_lit g.1.length 5000 5000 rfl
 have b2:=gt_lit g.2.1.length 8000 8000 rfl
 have b3:=gt_lit g.2.2.length 2000 2000 rfl
 unfold f92
 rw [q1,q2,q3]
 unfold graphOk
 simp only [b1,b2,b3]
 generalize allTo (okSpot g) g.1.length=A
 generalize allTo (okRoad g) g.2.1.length=B
 generalize allTo (okBan g) g.2.2.length=C
 generalize decide (g.1.length≤5000)=D
 generalize decide (g.2.1.length≤8000)=E
 generalize decide (g.2.2.length≤2000)=F
 cases A <;> cases B <;> cases C <;> cases D <;> cases E <;> cases F <;> rfl
end Go.Proofs.Ytnpaokckkbhdjaa
end
section
set_option linter.unusedVariables false
set_option linter.unusedSimpArgs false
namespace Go.Proofs.Ytnpaokckkbhdjaa
open Go Go.Vm Go.Proofs V
theorem wrap_id {n:Int} (h1:-9223372036854775808≤n) (h2:n < 9223372036854775808):IntKind.i64.wrap n=n:=wrap_in h1 (by omega)
theorem beq5 (a b:Int × Int):Sh.beq (.st (.pair (.int .i64) (.int .i64))) a b=true↔a=b:=by
 obtain ⟨a1,a2⟩:=a; obtain ⟨b1,b2⟩:=b
 simp [Sh.beq]
theorem ban_iff {a b:Ban}:banLess a b=true↔a.1 < b.1 ∨ (a.1=b.1∧a.2 < b.2):=by simp [banLess]
theorem ban_trans {a b c:Ban} (h1:banLess a b=true) (h2:banLess b c=true):banLess a c=true:=by
 rw [ban_iff] at *; omega
theorem ban_irr {a:Ban}:banLess a a=false:=by simp [banLess]
structure GOk (g:Graph):Prop where
 n1:g.1.length≤5000
 n2:g.2.1.length≤8000
 n3:g.2.2.length≤2000
 spot:∀ i,i < g.1.length→okSpot g i=true
 road:∀ i,i < g.2.1.length→okRoad g i=true
 ban:∀ i,i < g.2.2.length→okBan g i=true
theorem gok {g:Graph} (h:graphOk g=true):GOk g:=by
 unfold graphOk at h
 simp only [Bool.and_eq_true,decide_eq_true_eq] at h
 obtain ⟨⟨⟨⟨⟨h1,h2⟩,h3⟩,h4⟩,h5⟩,h6⟩:=h
 exact ⟨h1,h2,h3,allTo_iff.1 h4,allTo_iff.1 h5,allTo_iff.1 h6⟩
theorem ban_sorted {g:Graph} (hg:GOk g):∀ {d i:Nat},i+d+1 < g.2.2.length→banLess (g.2.2.getD i dB) (g.2.2.getD (i+d+1) dB)=true
 | 0,i,h => by
   have:=hg.ban (i+1) (by omega)
   unfold okBan at this
   simp only [Bool.and_eq_true,Bool.or_eq_true,decide_eq_true_eq] at this
   rcases this.2 with h' | h'
   ·omega
   ·simpa using h'
 | d+1,i,h => ban_trans (ban_sorted hg (d:=d) (i:=i) (by omega)) (by
   have h0:=ban_sorted hg (d:=0) (i:=i+d+1) (by omega)
   rwa [show i+d+1+0+1=i + (d+1)+1 by omega] at h0)
theorem ban_sort {g:Graph} (hg:GOk g) {i j:Nat} (hij:i < j) (hj:j < g.2.2.length):banLess (g.2.2.getD i dB) (g.2.2.getD j dB)=true:=by
 have:=ban_sorted hg (d:=j - i - 1) (i:=i) (by omega)
 rwa [show i + (j - i - 1)+1=j by omega] at this
theorem mem_getD {α:Type} {d:α} {x:α} {l:List α} (h:x ∈ l):∃ i,i < l.length∧l.getD i d=x:=by
 obtain ⟨i,hi,he⟩:=List.getElem_of_mem h
 exact ⟨i,hi,by rw [List.getD_eq_getElem?_getD,List.getElem?_eq_getElem hi,he]; rfl⟩
theorem getD_in {α:Type} {d:α} {l:List α} {i:Nat} (h:i < l.length):l.getD i d ∈ l:=by
 rw [List.getD_eq_getElem?_getD,List.getElem?_eq_getElem h]; exact List.getElem_mem h
def roadAt (g:Graph) (r:Int):Road:=g.2.1.getD r.toNat dR
def spotAt (g:Graph) (p:Int):Spot:=g.1.getD p.toNat dS
def roadIs (g:Graph) (r:Int):Bool:=decide (0≤r) && decide (r < (g.2.1.length:Int))
theorem foldR (g:Graph) (r:Int):List.getD g.2.1 (Int.toNat r) ((0:Int),((0:Int),((0:Int),((0:Int),((0:Int),(⟨#[]⟩:ByteArray))))))=roadAt g r:=by cases g; exact id rfl
theorem foldS (g:Graph) (p:Int):List.getD g.1 (Int.toNat p) ((0:Int),((0:Int),(0:Int)))=spotAt g p:=by cases g; exact id rfl
theorem roadIs_iff {g:Graph} {r:Int}:roadIs g r=true↔0≤r∧r < (g.2.1.length:Int):=by simp [roadIs]
theorem road_ends {g:Graph} (hg:GOk g) {r:Int} (h:roadIs g r=true):(0 ≤ (roadAt g r).1 ∧ (roadAt g r).1 < (g.1.length:Int)) ∧ (0 ≤ (roadAt g r).2.1 ∧ (roadAt g r).2.1 < (g.1.length:Int)):=by
 rw [roadIs_iff] at h
 have:=hg.road r.toNat (by omega)
 unfold okRoad at this
 simp only [Bool.and_eq_true,decide_eq_true_eq] at this
 unfold roadAt
 omega
def outs (g:Graph) (n p:Nat):List Int:=((List.range n).filter fun r => decide ((g.2.1.getD r dR).1 = (p:Int))).map fun (r:Nat) => (r:Int)
theorem outs_len (g:Graph) (n p:Nat):(outs g n p).length≤n:=by
 unfold outs; rw [List.length_map]
 exact Nat.le_trans (List.length_filter_le _ _) (by simp)
theorem outs_succ (g:Graph) (n p:Nat):outs g (n+1) p=if (g.2.1.getD n dR).1 = (p:Int) then outs g n p ++ [(n:Int)] else outs g n p:=by
 unfold outs
 rw [List.range_succ,List.filter_append,List.map_append]
 by_cases h:(g.2.1.getD n dR).1 = (p:Int)
 ·rw [if_pos h,List.filter_cons_of_pos (by simpa using h)]; rfl
 ·rw [if_neg h,List.filter_cons_of_neg (by simpa using h)]; simp
theorem mem_take_succ {α:Type} {d:α} {l:List α} {i:Nat} (h:i < l.length) (x:α):x ∈ l.take (i+1)↔x ∈ l.take i∨x=l.getD i d:=by
 rw [List.take_add_one,List.mem_append,List.getD_eq_getElem?_getD,List.getElem?_eq_getElem h]
 simp
end Go.Proofs.Ytnpaokckkbhdjaa
end
section
set_option linter.unusedVariables false
set_option linter.unusedSimpArgs false
namespace Go.Proofs.Ytnpaokckkbhdjaa
open Go Go.Vm Go.Proofs V
open Go.Sort (SWO)
theorem ban_tot {a b:Ban} (h:banLess a b=false) (hn:a≠b):banLess b a=true:=by
 have h':¬ (a.1 < b.1 ∨ (a.1=b.1∧a.2 < b.2)):=by rw [← ban_iff,h]; simp
 have hn':¬ (a.1=b.1∧a.2=b.2):=fun q => hn (Prod.ext q.1 q.2)
 rw [ban_iff]
 omega
theorem ban_asy {a b:Ban} (h:banLess a b=true):banLess b a=false:=by
 rw [ban_iff] at h
 rw [Bool.eq_false_iff]
 intro h2
 rw [ban_iff] at h2
 omega
def Srt (l:List Ban):Prop:=l.Pairwise (fun a b => banLess a b=true)
theorem Srt.nodup {l:List Ban} (h:Srt l):l.Nodup:=List.Pairwise.imp (fun {a b} h e => by subst e; rw [ban_irr] at h; cases h) h
theorem Srt.ext {l m:List Ban} (hl:Srt l) (hm:Srt m) (h:∀ x,x ∈ l↔x ∈ m):l=m :=
 ((List.perm_ext_iff_of_nodup hl.nodup hm.nodup).2 h).eq_of_pairwise (le:=fun a b => banLess a b=true) (fun a b _ _ h1 h2 => by rw [ban_asy h1] at h2; cases h2) hl hm
theorem Srt.at {l:List Ban} (h:Srt l) {i j:Nat} (hij:i < j) (hj:j < l.length):banLess (l.getD i dB) (l.getD j dB)=true:=by
 have:=List.pairwise_iff_getElem.1 h i j (by omega) hj hij
 rw [List.getD_eq_getElem?_getD,List.getElem?_eq_getElem (by omega),List.getD_eq_getElem?_getD,List.getElem?_eq_getElem hj]
 exact this
def insB (b:Ban):List Ban→List Ban
 | [] => [b]
 | a :: l => if banLess a b=true then a :: insB b l else if a=b then a :: l else b :: a :: l
theorem mem_insB {b x:Ban}:∀ {l:List Ban},x ∈ insB b l↔x=b∨x ∈ l
 | [] => by simp [insB]
 | a :: l => by
   rw [insB]
   by_cases h1:banLess a b=true
   ·rw [if_pos h1,List.mem_cons,mem_insB,List.mem_cons]
    exact ⟨fun h => h.elim (fun h => .inr (.inl h)) (fun h => h.elim .inl (fun h => .inr (.inr h))),fun h => h.elim (fun h => .inr (.inl h)) (fun h => h.elim .inl (fun h => .inr (.inr h)))⟩
   ·rw [if_neg h1]
    by_cases h2:a=b
    ·rw [if_pos h2,List.mem_cons,h2]
     exact ⟨.inr,fun h => h.elim .inl id⟩
    ·rw [if_neg h2,List.mem_cons]
theorem srt_insB {b:Ban}:∀ {l:List Ban},Srt l→Srt (insB b l)
 | [],_ => List.pairwise_singleton _ _
 | a :: l,h => by
   obtain ⟨q1,q2⟩:=List.pairwise_cons.1 h
   rw [insB]
   by_cases h1:banLess a b=true
   ·rw [if_pos h1]
    refine List.pairwise_cons.2 ⟨fun x hx => ?_,srt_insB q2⟩
    rcases mem_insB.1 hx with rfl | hx
    ·exact h1
    ·exact q1 x hx
   ·rw [if_neg h1]
    by_cases h2:a=b
    ·rw [if_pos h2]; exact h
    ·rw [if_neg h2]
     have h3:=ban_tot (Bool.eq_false_iff.2 h1) h2
     refine List.pairwise_cons.2 ⟨fun x hx => ?_,h⟩
     rcases List.mem_cons.1 hx with rfl | hx
     ·exact h3
     ·exact ban_trans h3 (q1 x hx)
theorem len_insB {b:Ban}:∀ {l:List Ban},l.length ≤ (insB b l).length ∧ (insB b l).length≤l.length+1
 | [] => by simp [insB]
 | a :: l => by
   have:=len_insB (b:=b) (l:=l)
   rw [insB]
   split
   ·simp only [List.length_cons]; omega
   ·split <;> simp only [List.length_cons] <;> omega
def insL (bs:List Ban) (l:List Ban):List Ban:=bs.foldl (fun l b => insB b l) l
theorem mem_insL {x:Ban}:∀ {bs l:List Ban},x ∈ insL bs l↔x ∈ bs∨x ∈ l
 | [],l => by simp [insL]
 | b :: bs,l => by
   show x ∈ insL bs (insB b l)↔_
   rw [mem_insL,mem_insB,List.mem_cons]
   exact ⟨fun h => h.elim (fun h => .inl (.inr h)) (fun h => h.elim (fun h => .inl (.inl h)) .inr),fun h => h.elim (fun h => h.elim (fun h => .inr (.inl h)) .inl) (fun h => .inr (.inr h))⟩
theorem srt_insL:∀ {bs l:List Ban},Srt l→Srt (insL bs l)
 | [],l,h => h
 | b :: bs,l,h => srt_insL (bs:=bs) (srt_insB h)
theorem len_insL:∀ {bs l:List Ban},l.length ≤ (insL bs l).length
 | [],l => Nat.le_refl _
 | b :: bs,l => Nat.le_trans len_insB.1 (len_insL (bs:=bs))
theorem insL_app {us bs l:List Ban}:insL (us ++ bs) l=insL bs (insL us l):=List.foldl_append
abbrev noG:Graph:=([],([],[]))
def withB (g:Graph) (bs:List Ban):Graph:=if 2000 < (insL bs g.2.2).length then noG else (g.1,(g.2.1,insL bs g.2.2))
theorem GOk.srt {g:Graph} (hg:GOk g):Srt g.2.2:=List.pairwise_iff_getElem.2 fun i j hi hj hij => by
 have:=ban_sort hg hij hj
 rw [List.getD_eq_getElem?_getD,List.getElem?_eq_getElem hi,List.getD_eq_getElem?_getD,List.getElem?_eq_getElem hj] at this
 exact this
theorem ban_ins (k:Nat) {l:List Ban} (hs:Srt l) (hl:l.length≤1048575) (b:Ban):∀ (m lo hi:Nat),lo≤hi→hi≤l.length→hi - lo < m → (∀ j,j < lo→banLess (l.getD j dB) b=true) → (∀ j,hi≤j→j < l.length→banLess (l.getD j dB) b=false) →
 f123.l22 k l b m ((lo:Int),(hi:Int))=some (insB b l)
 | 0,lo,hi,_,_,h,_,_ => by omega
 | m+1,lo,hi,h1,h2,h3,h4,h5 => by
   rw [f123.l22]
   by_cases hlt:lo < hi
   ·rw [if_t (by simpa using hlt),if_t (by decide),wrap_id (n:=(lo:Int)+hi) (by omega) (by omega)]
    have hmid:Int.tdiv ((lo:Int)+hi) 2 = (((lo+hi) / 2:Nat):Int):=by
     rw [Int.tdiv_eq_ediv_of_nonneg (by omega)]; omega
    rw [hmid,wrap_id (n:=(((lo+hi) / 2:Nat):Int)) (by omega) (by omega),if_t ⟨by omega,by omega⟩]
    generalize hM:(lo+hi) / 2=M at *
    rw [e151,Option.bind_some,Int.toNat_natCast]
    cases hb:banLess (l.getD M dB) b with
    | true =>
      rw [if_t rfl,wrap_s (by omega)]
      refine ban_ins k hs hl b m (M+1) hi (by omega) h2 (by omega) (fun j hj => ?_) h5
      by_cases hjM:j=M
      ·rw [hjM]; exact hb
      ·exact ban_trans (hs.at (i:=j) (j:=M) (by omega) (by omega)) hb
    | false =>
      rw [if_f (by simp)]
      refine ban_ins k hs hl b m lo M (by omega) (by omega) (by omega) h4 (fun j hj hjn => ?_)
      by_cases hjM:j=M
      ·rw [hjM]; exact hb
      ·cases hb2:banLess (l.getD j dB) b with
       | false => rfl
       | true =>
         have:=ban_trans (hs.at (i:=M) (j:=j) (by omega) hjn) hb2
         rw [hb] at this; cases this
   ·obtain rfl:lo=hi:=by omega
    rw [if_f (by simp)]
    rw [if_t (fun hh => ⟨by omega,by simpa using hh⟩),Int.toNat_natCast]
    by_cases hq:lo < l.length∧l.getD lo dB=b
    ·have c1:decide ((lo:Int) < (l.length:Int))=true:=by simpa using hq.1
     have c2:Sh.beq sh6 (l.getD lo dB) b=true:=(beq5 _ _).2 hq.2
     rw [if_t (by rw [c1,cond_true]; exact c2)]
     congr 1
     refine hs.ext (srt_insB hs) (fun x => ?_)
     rw [mem_insB]
     exact ⟨.inr,fun h => h.elim (fun h => by rw [h,← hq.2]; exact getD_in hq.1) id⟩
    ·have c1:(bif (decide ((lo:Int) < (l.length:Int))) then (Sh.beq sh6 (l.getD lo dB) b) else false)=false:=by
      by_cases hlo:lo < l.length
      ·have c1:decide ((lo:Int) < (l.length:Int))=true:=by simpa using hlo
       rw [c1,cond_true,Bool.eq_false_iff]
       exact fun h => hq ⟨hlo,(beq5 _ _).1 h⟩
      ·have c1:decide ((lo:Int) < (l.length:Int))=false:=by simpa using hlo
       rw [c1]; rfl
     have e1:List.drop 0 (List.take lo l)=List.take lo l:=List.drop_zero
     have e2:List.drop lo (List.take l.length l)=List.drop lo l:=by rw [List.take_length]
     have n1:(List.take lo l).length=lo:=by simp; omega
     have n2:(List.drop lo l).length=l.length - lo:=by simp
     rw [if_f (by rw [c1]; simp),if_t ⟨trivial,by omega,by omega,by omega⟩,e1,e2,if_t (by rw [n1]; simp only [List.length_nil]; omega),if_t (by rw [List.length_append,n1]; simp only [List.length_nil,List.length_singleton]; omega),if_t ⟨by omega,trivial,by omega,by omega⟩,
      if_t (by rw [List.length_append,List.length_append,n1,n2]; simp only [List.length_nil,List.length_singleton]; omega)]
     congr 1
     have mt:∀ x,x ∈ List.take lo l→banLess x b=true:=fun x hx => by
      obtain ⟨j,hj,he⟩:=mem_getD (d:=dB) hx
      rw [n1] at hj
      have:=h4 j hj
      rw [← he,List.getD_eq_getElem?_getD,List.getElem?_take_of_lt hj,← List.getD_eq_getElem?_getD]
      exact this
     have md:∀ x,x ∈ List.drop lo l→banLess b x=true:=fun x hx => by
      obtain ⟨j,hj,he⟩:=mem_getD (d:=dB) hx
      rw [n2] at hj
      have hx':l.getD (lo+j) dB=x:=by
       rw [← he,List.getD_eq_getElem?_getD,List.getD_eq_getElem?_getD,List.getElem?_drop]
      have h6:=h5 (lo+j) (by omega) (by omega)
      rw [hx'] at h6
      refine ban_tot h6 (fun e => ?_)
      rcases Nat.eq_zero_or_pos j with h0 | h0
      ·exact hq ⟨by omega,by rw [← e,← hx',h0]; rfl⟩
      ·have h7:=hs.at (i:=lo) (j:=lo+j) (by omega) (by omega)
       rw [hx',e,h5 lo (Nat.le_refl _) (by omega)] at h7
       cases h7
     refine Srt.ext ?_ (srt_insB hs) (fun x => ?_)
     ·rw [List.nil_append,List.append_assoc]
      refine List.pairwise_append.2 ⟨List.Pairwise.sublist (List.take_sublist _ _) hs,List.pairwise_cons.2 ⟨fun x hx => md x (by simpa using hx),List.Pairwise.sublist (List.drop_sublist _ _) hs⟩,fun x hx y hy => ?_⟩
      rcases List.mem_cons.1 hy with rfl | hy
      ·exact mt x hx
      ·exact ban_trans (mt x hx) (md y (by simpa using hy))
     ·rw [mem_insB,List.nil_append,List.mem_append,List.mem_append,List.mem_singleton]
      have:x ∈ l↔x ∈ List.take lo l∨x ∈ List.drop lo l:=by rw [← List.mem_append,List.take_append_drop]
      rw [this]
      exact ⟨fun h => h.elim (fun h => h.elim (fun h => .inr (.inl h)) .inl) (fun h => .inr (.inr h)),fun h => h.elim (fun h => .inl (.inr h)) (fun h => h.elim (fun h => .inl (.inl h)) .inr)⟩
theorem e123 (k:Nat) (hk:1048576 < k) {l:List Ban} (hs:Srt l) (hl:l.length≤1048575) (b:Ban):f123 k l b=some (insB b l) :=
 ban_ins k hs hl b k 0 l.length (by omega) (by omega) (by omega) (fun j hj => by omega) (fun j h1 h2 => by omega)
abbrev BM:=List (Ban × Bool)
def MOk (M:BM) (bs:List Ban):Prop:=(M.map (·.1)).Nodup∧∀ x,x ∈ M.map (·.1)↔x ∈ bs
theorem MOk.nil:MOk [] []:=⟨List.nodup_nil,fun x => Iff.rfl⟩
theorem keys_put {b:Ban}:∀ {M:BM},(mput (Sh.beq sh6) b true M).map (·.1)=if b ∈ M.map (·.1) then M.map (·.1) else M.map (·.1) ++ [b]
 | [] => by simp [mput]
 | e :: M => by
   rw [mput]
   by_cases h:b=e.1
   ·have:Sh.beq sh6 b e.1=true:=(beq5 _ _).2 h
    rw [if_pos this,if_pos (by simp [h])]
    simp [h]
   ·have:¬ Sh.beq sh6 b e.1=true:=fun q => h ((beq5 _ _).1 q)
    rw [if_neg this,List.map_cons,keys_put,List.map_cons]
    by_cases h2:b ∈ M.map (·.1)
    ·rw [if_pos h2,if_pos (List.mem_cons_of_mem _ h2)]
    ·rw [if_neg h2,if_neg (fun q => (List.mem_cons.1 q).elim h h2),List.cons_append]
theorem MOk.put {M:BM} {bs:List Ban} (h:MOk M bs) (b:Ban):MOk (mput (Sh.beq sh6) b true M) (bs ++ [b])∧M.length ≤ (mput (Sh.beq sh6) b true M).length:=by
 have hl:(mput (Sh.beq sh6) b true M).length = ((mput (Sh.beq sh6) b true M).map (·.1)).length:=by rw [List.length_map]
 have hl2:M.length = (M.map (·.1)).length:=by rw [List.length_map]
 unfold MOk
 rw [hl,hl2,keys_put]
 by_cases hb:b ∈ M.map (·.1)
 ·rw [if_pos hb]
  refine ⟨⟨h.1,fun x => ?_⟩,Nat.le_refl _⟩
  rw [h.2,List.mem_append,List.mem_singleton]
  exact ⟨.inl,fun q => q.elim id (fun q => by rw [q]; exact (h.2 b).1 hb)⟩
 ·rw [if_neg hb]
  refine ⟨⟨?_,fun x => ?_⟩,by simp⟩
  ·rw [List.nodup_append]
   exact ⟨h.1,by simp,fun a ha c hc e => hb (by have:c=b:=by simpa using hc
                                                rw [← this,← e]; exact ha)⟩
  ·rw [List.mem_append,List.mem_append,h.2]
theorem MOk.len {M:BM} {bs:List Ban} (h:MOk M bs) {l:List Ban} (hs:Srt l) (hm:∀ x,x ∈ l↔x ∈ bs):M.length=l.length ∧ (M.map (·.1)).Perm l:=by
 have:(M.map (·.1)).Perm l:=(List.perm_ext_iff_of_nodup h.1 hs.nodup).2 fun x => by rw [h.2,hm]
 exact ⟨by rw [← this.length_eq,List.length_map],this⟩
theorem sub_len:∀ {l m:List Ban},l.Nodup → (∀ x ∈ l,x ∈ m)→l.length≤m.length
 | [],_,_,_ => Nat.zero_le _
 | x :: l,m,hn,h => by
   obtain ⟨n1,n2⟩:=List.nodup_cons.1 hn
   have hx:=h x List.mem_cons_self
   have:=sub_len (l:=l) (m:=m.erase x) n2 (fun y hy => (List.mem_erase_of_ne (fun e => n1 (by rw [← e]; exact hy))).2 (h y (List.mem_cons_of_mem _ hy)))
   rw [List.length_erase_of_mem hx] at this
   have:=List.length_pos_of_mem hx
   simp only [List.length_cons]
   omega
theorem MOk.le {M:BM} {bs us l:List Ban} (h:MOk M bs) (hs:∀ x ∈ bs,x ∈ us):M.length ≤ (insL us l).length:=by
 have:=sub_len h.1 (m:=insL us l) (fun x hx => mem_insL.2 (.inl (hs x ((h.2 x).1 hx))))
 rwa [List.length_map] at this
theorem e173 (k:Nat) (i j:Int) (A:List Spot) (B:List Road) (zs:List Ban) (hi:0≤i∧i < (zs.length:Int)) (hj:0≤j∧j < (zs.length:Int)):f173 k i j A B zs=some (banLess (zs.getD i.toNat dB) (zs.getD j.toNat dB)):=by
 unfold f173
 rw [if_t hi,if_t hj]
 unfold banLess
 congr 1
 generalize List.getD zs (Int.toNat i) dB=a
 generalize List.getD zs (Int.toNat j) dB=b
 by_cases h1:a.1 < b.1
 ·simp [h1]
 ·simp only [h1,decide_false,cond_false,Bool.false_or]
  by_cases h2:a.1=b.1
  ·simp [h2]
  ·simp [h2]
theorem less_eq (k:Nat) (A:List Spot) (B:List Road):ofLess (fun (zs:List Ban) (i j:Int) => f173 k i j A B zs)=banLess:=by
 funext a b
 unfold ofLess
 simp only []
 rw [e173 k 0 1 A B [a,b] ⟨by simp,by simp⟩ ⟨by simp,by simp⟩]
 rfl
theorem swoB:SWO banLess where
 irrefl x:=ban_irr
 trans x y z h1 h2:=ban_trans h1 h2
 ntrans x y z h1 h2:=by
  simp only [Bool.eq_false_iff,ne_eq,ban_iff] at *
  omega
theorem h173:H173:=fun k c0 c1 => by
 refine ⟨⟨by rw [less_eq]; exact swoB,fun ys i j hi hj => ?_⟩,fun a b h1 h2 => ?_⟩
 ·show f173 k (i:Int) (j:Int) c0 c1 ys=_
  rw [less_eq,e173 k i j c0 c1 ys ⟨by omega,by omega⟩ ⟨by omega,by omega⟩,Int.toNat_natCast,Int.toNat_natCast]
  rfl
 ·rw [less_eq] at h1 h2
  apply Classical.byContradiction
  intro hn
  rw [ban_tot h1 hn] at h2
  cases h2
theorem sort_eq (k:Nat) (A:List Spot) (B:List Road) {xs l:List Ban} (hp:xs.Perm l) (hs:Srt l):sortR (α:=(Int × Int)) pdqR (Sh.dflt sh6) (ofLess (fun (zs:List (Int × Int)) (i j:Int) => f173 k i j A B zs)) xs=l:=by
 rw [show ofLess (fun (zs:List (Int × Int)) (i j:Int) => f173 k i j A B zs)=banLess from less_eq k A B]
 obtain ⟨p1,o1⟩:=sortR_ok (d:=Sh.dflt sh6) swoB xs
 refine List.Perm.eq_of_pairwise (le:=fun a b => banLess b a=false) (fun a b _ _ h1 h2 => ?_) o1 (List.Pairwise.imp (fun h => ban_asy h) hs) (p1.trans hp)
 apply Classical.byContradiction
 intro hn
 have:=ban_tot h2 hn
 rw [this] at h1
 cases h1
theorem bans_loop {g:Graph} (hg:GOk g) (k:Nat) (bs:List Ban):∀ (m q:Nat) (M:BM),q≤g.2.2.length→g.2.2.length - q < m→MOk M (bs ++ g.2.2.take q) →
 f125.l16 k g m (M,(q:Int))=some (withB g bs)
 | 0,q,M,_,h,_ => by omega
 | m+1,q,M,hq,h,hM => by
   have n1:=hg.n1; have n2:=hg.n2; have n3:=hg.n3
   rw [f125.l16]
   by_cases hlt:q < g.2.2.length
   ·rw [if_t (by simpa using hlt),if_t ⟨by omega,by omega⟩,wrap_s (by omega),Int.toNat_natCast]
    refine bans_loop hg k bs m (q+1) _ (by omega) (by omega) ?_
    have:=(hM.put (g.2.2.getD q dB)).1
    refine ⟨this.1,fun x => ?_⟩
    rw [this.2,List.mem_append,List.mem_append,List.mem_append,List.mem_singleton,mem_take_succ hlt,or_assoc]
   ·obtain rfl:q=g.2.2.length:=by omega
    rw [if_f (by simp)]
    rw [List.take_length] at hM
    obtain ⟨hl,hp⟩:=hM.len (srt_insL (bs:=bs) hg.srt) (fun x => by rw [mem_insL,List.mem_append])
    unfold withB
    by_cases hc:2000 < (insL bs g.2.2).length
    ·rw [if_t (by rw [decide_eq_true_eq]; omega),if_pos hc]
    ·rw [if_f (by rw [decide_eq_true_eq]; omega),if_neg hc,if_t (by simp only [List.length_nil]; omega),if_t (by simp only [List.length_nil]; omega),if_t (by omega)]
     rw [sort_eq k _ _ hp (srt_insL hg.srt)]
     simp
theorem e125 {g:Graph} (hg:GOk g) (k:Nat) (hk:1048576 < k) (bs:List Ban) {M:BM} (hM:MOk M bs):f125 k g M=some (withB g bs) :=
 bans_loop hg k bs k 0 M (by omega) (by have:=hg.n3; omega) (by simpa using hM)
theorem e122 {g:Graph} (hg:GOk g) (k:Nat):f122 k g=some g:=by
 have n1:=hg.n1; have n2:=hg.n2; have n3:=hg.n3
 unfold f122
 simp only [List.length_nil,Nat.zero_add,List.nil_append]
 rw [if_t (by omega),if_t (by omega),if_t (by omega)]
theorem leave_loop {g:Graph} (hg:GOk g) (k:Nat):∀ (m q:Nat) (o:List (List Int)),q≤g.2.1.length→g.2.1.length - q < m →
 (o.length=g.1.length∧∀ p,p < g.1.length→o.getD p []=outs g q p) →
 ∃ t,f124.l34 k g m (o,(q:Int))=some t∧t.length=g.1.length∧∀ p,p < g.1.length→t.getD p []=outs g g.2.1.length p
 | 0,q,o,_,h,_ => by omega
 | m+1,q,o,hq,h,ho => by
   have hn:=hg.n2
   rw [f124.l34]
   by_cases hlt:q < g.2.1.length
   ·have hr:roadIs g (q:Int)=true:=roadIs_iff.2 ⟨by omega,by omega⟩
    obtain ⟨r1,r2⟩:=road_ends hg hr
    have e0:roadAt g (q:Int)=g.2.1.getD q dR:=by unfold roadAt; rw [Int.toNat_natCast]
    rw [e0] at r1
    have hb:(0:Int) ≤ (q:Int) ∧ (q:Int) < (g.2.1.length:Int):=⟨by omega,by omega⟩
    have hc:decide ((q:Int) < (g.2.1.length:Int))=true:=by simpa using hlt
    have hP:=r1
    simp only [if_t hc,if_t hb,Int.toNat_natCast]
    have hd:(List.getD g.2.1 q ((0:Int),((0:Int),((0:Int),((0:Int),((0:Int),(⟨#[]⟩:ByteArray))))))).1 = (g.2.1.getD q dR).1:=rfl
    simp only [hd]
    generalize hPe:(g.2.1.getD q dR).1=P at *
    have b1:0≤P∧P < (o.length:Int):=by rw [ho.1]; exact hP
    have l1:(o.getD P.toNat []).length≤q:=by
     rw [ho.2 _ (by omega)]
     exact outs_len g q _
    have c1:((o.getD P.toNat []).length+[(q:Int)].length)*8≤140737488355328:=by
     simp only [List.length_singleton]; omega
    rw [if_t b1,if_t c1,if_t b1,wrap_s (by omega)]
    refine leave_loop hg k m (q+1) _ (by omega) (by omega) ⟨by rw [List.length_set]; exact ho.1,fun p hp => ?_⟩
    rw [List.getD_eq_getElem?_getD,List.getElem?_set,outs_succ,hPe]
    by_cases hx:P = (p:Int)
    ·have:P.toNat=p:=by omega
     rw [if_pos hx,if_pos this,if_pos (by rw [ho.1]; omega),Option.getD_some,this,ho.2 p hp]; rfl
    ·have:¬ P.toNat=p:=by omega
     rw [if_neg hx,if_neg this,← List.getD_eq_getElem?_getD,ho.2 p hp]
   ·obtain rfl:q=g.2.1.length:=by omega
    rw [if_f (by simp)]
    exact ⟨o,rfl,ho⟩
theorem e124 {g:Graph} (hg:GOk g) (k:Nat) (hk:1048576 < k):∃ t,f124 k g=some t∧t.length=g.1.length∧∀ p,p < g.1.length→t.getD p []=outs g g.2.1.length p:=by
 have n1:=hg.n1; have n2:=hg.n2
 unfold f124
 rw [if_t ⟨by omega,by omega⟩]
 refine leave_loop hg k k 0 _ (by omega) (by omega) ⟨by simp,fun p hp => ?_⟩
 rw [Int.toNat_natCast,List.getD_eq_getElem?_getD,List.getElem?_replicate,if_pos hp]
 simp [outs]
theorem outs_road {g:Graph} {p:Nat} {f:Int} (h:f ∈ outs g g.2.1.length p):roadIs g f=true:=by
 unfold outs at h
 obtain ⟨r,hr,rfl⟩:=List.mem_map.1 h
 have:=List.mem_range.1 (List.mem_filter.1 hr).1
 exact roadIs_iff.2 ⟨by omega,by omega⟩
end Go.Proofs.Ytnpaokckkbhdjaa
end
section
set_option linter.unusedVariables false
set_option linter.unusedSimpArgs false
namespace Go.Proofs.Ytnpaokckkbhdjaa
open Go Go.Vm Go.Proofs V
def leav (g:Graph) (i:Nat):List Int:=outs g g.2.1.length (roadAt g (i:Int)).2.1.toNat
theorem drop_at {l:List Int} {j:Nat} (h:j < l.length):l.drop j=l.getD j 0 :: l.drop (j+1):=by
 rw [List.drop_eq_getElem_cons h,List.getD_eq_getElem?_getD,List.getElem?_eq_getElem h]; rfl
def InTo (bs B r:List Ban):Prop:=Srt r∧r.length≤2001 ∧ ((insL bs B).length≤2000→r=insL bs B) ∧ (2000 < (insL bs B).length→2000 < r.length)
theorem InTo.nil {B:List Ban} (hs:Srt B) (hl:B.length≤2001):InTo [] B B:=⟨hs,hl,fun _ => rfl,fun h => h⟩
theorem InTo.app {us bs B r s:List Ban} (h1:InTo us B r) (h2:InTo bs r s):InTo (us ++ bs) B s:=by
 obtain ⟨a1,a2,a3,a4⟩:=h1
 obtain ⟨b1,b2,b3,b4⟩:=h2
 refine ⟨b1,b2,?_,?_⟩
 ·rw [insL_app]
  intro hl
  have hr:r=insL us B:=a3 (Nat.le_trans len_insL hl)
  rw [← hr] at hl ⊢
  exact b3 hl
 ·rw [insL_app]
  intro hl
  by_cases hc:(insL us B).length≤2000
  ·have hr:=a3 hc
   rw [← hr] at hl
   exact b4 hl
  ·have hr:=a4 (Nat.lt_of_not_le hc)
   exact b4 (Nat.lt_of_lt_of_le hr len_insL)
theorem InTo.with {g:Graph} {bs r:List Ban} (h:InTo bs g.2.2 r):(if 2000 < r.length then noG else (g.1,(g.2.1,r)))=withB g bs:=by
 unfold withB
 by_cases hc:2000 < (insL bs g.2.2).length
 ·rw [if_pos hc,if_pos (h.2.2.2 hc)]
 ·have hr:=h.2.2.1 (Nat.le_of_not_lt hc)
  rw [if_neg hc,hr,if_neg hc]
def wayI (g:Graph) (x:Int) (k:Int):Bool:=(roadAt g k).2.2.1 == x
def rs (g:Graph) (x r:Int) (i:Nat):Nat→Nat→List Ban
 | 0,_ => []
 | d+1,j => (if (bif wayI g x (j:Int) then ((roadAt g (j:Int)).1 == r) else false)=true then [((i:Int),(j:Int))] else []) ++ rs g x r i d (j+1)
theorem rs_eq (g:Graph) (x:Int) (p i:Nat):∀ (d j:Nat),rs g x (p:Int) i d j = ((List.range' j d).filter fun (k:Nat) => decide ((g.2.1.getD k dR).1 = (p:Int)) && wayI g x (k:Int)).map fun (k:Nat) => ((i:Int),(k:Int))
 | 0,j => rfl
 | d+1,j => by
   have e0:g.2.1.getD j dR=roadAt g (j:Int):=by unfold roadAt; rw [Int.toNat_natCast]
   rw [rs,rs_eq g x p i d (j+1),List.range'_succ]
   by_cases h1:(g.2.1.getD j dR).1 = (p:Int)
   ·have h1':((roadAt g (j:Int)).1 == (p:Int))=true:=by rw [← e0]; simpa using h1
    cases h2:wayI g x (j:Int) with
    | true =>
      rw [if_pos (by rw [h1']; rfl),List.filter_cons_of_pos (by simp only [h2,h1,decide_true,Bool.and_self])]
      rfl
    | false =>
      rw [if_neg (by simp),List.filter_cons_of_neg (by simp [h2])]
      rfl
   ·have h1':((roadAt g (j:Int)).1 == (p:Int))=false:=by rw [← e0]; simpa using h1
    rw [if_neg (by rw [h1']; cases wayI g x (j:Int) <;> simp),List.filter_cons_of_neg (by simp only [h1,decide_false,Bool.false_and]; simp)]
    rfl
theorem rs_outs (g:Graph) (x:Int) (p i:Nat):rs g x (p:Int) i g.2.1.length 0 = ((outs g g.2.1.length p).filter (wayI g x)).map fun k => ((i:Int),k):=by
 rw [rs_eq,← List.range_eq_range']
 unfold outs
 rw [List.filter_map,List.filter_filter,List.map_map]
 congr 1
 congr 1
 funext k
 simp only [Function.comp_apply]
 rw [Bool.and_comm]
theorem fb_in {g:Graph} (hg:GOk g) (k:Nat) (hk:1048576 < k) (x3 r1:Int) (i:Nat) (q:Graph→Option Graph):∀ (d m j:Nat) (B:List Ban),g.2.1.length - j=d→d < m→j≤g.2.1.length→Srt B→B.length≤2001 →
 ∃ r,InTo (rs g x3 r1 i d j) B r∧f131.l483 k x3 r1 (i:Int) q m ((g.1,(g.2.1,B)),(j:Int))=q (g.1,(g.2.1,r)):=by
 have hn:=hg.n2
 intro d
 induction d with
 | zero =>
   intro m j B h1 h2 h3 hs hl
   obtain ⟨m,rfl⟩:∃ q,m=q+1:=⟨m - 1,by omega⟩
   obtain rfl:j=g.2.1.length:=by omega
   refine ⟨B,InTo.nil hs hl,?_⟩
   rw [f131.l483,if_f (by simp)]
 | succ d ih =>
   intro m j B h1 h2 h3 hs hl
   obtain ⟨m,rfl⟩:∃ q,m=q+1:=⟨m - 1,by omega⟩
   have hj:j < g.2.1.length:=by omega
   have c1:decide ((j:Int) < (g.2.1.length:Int))=true:=by simpa using hj
   have hb2:(0:Int) ≤ (j:Int) ∧ (j:Int) < (g.2.1.length:Int):=⟨by omega,by omega⟩
   rw [f131.l483]
   by_cases hB:B.length≤2000
   ·have c2:decide ((B.length:Int)≤2000)=true:=by rw [decide_eq_true_eq]; omega
    simp only [c1,c2,cond_true,foldR,f131.j517]
    rw [if_t trivial,if_t hb2,if_t (fun _ => hb2),wrap_s (by omega)]
    have es:(bif ((roadAt g (j:Int)).2.2.1 == x3) then ((roadAt g (j:Int)).1 == r1) else false) = (bif wayI g x3 (j:Int) then ((roadAt g (j:Int)).1 == r1) else false):=rfl
    rw [es]
    cases hc:(bif wayI g x3 (j:Int) then ((roadAt g (j:Int)).1 == r1) else false) with
    | true =>
      rw [if_t rfl,e123 k hk hs (by omega),Option.bind_some]
      have hlen:=len_insB (b:=((i:Int),(j:Int))) (l:=B)
      obtain ⟨r,q1,q2⟩:=ih m (j+1) (insB ((i:Int),(j:Int)) B) (by omega) (by omega) (by omega) (srt_insB hs) (by omega)
      refine ⟨r,?_,q2⟩
      rw [rs,if_pos hc]
      exact q1
    | false =>
      rw [if_f (by simp)]
      obtain ⟨r,q1,q2⟩:=ih m (j+1) B (by omega) (by omega) (by omega) hs hl
      refine ⟨r,?_,q2⟩
      rw [rs,if_neg (by rw [hc]; simp)]
      exact q1
   ·have c2:decide ((B.length:Int)≤2000)=false:=by rw [decide_eq_false_iff_not]; omega
    simp only [c1,c2,cond_true]
    rw [if_f (by simp)]
    have:=len_insL (bs:=rs g x3 r1 i (d+1) j) (l:=B)
    exact ⟨B,⟨hs,hl,fun h => by omega,fun _ => by omega⟩,rfl⟩
def fwI (g:Graph) (x1 x2 x3:Int):Nat→Nat→List Ban
 | 0,_ => []
 | d+1,i => (if wayI g x1 (i:Int)=true ∧ (spotAt g (roadAt g (i:Int)).2.1).1=x2 then ((leav g i).filter (wayI g x3)).map (fun k => ((i:Int),k)) else []) ++ fwI g x1 x2 x3 d (i+1)
theorem fb_out {g:Graph} (hg:GOk g) (k:Nat) (hk:1048576 < k) (x1 x2 x3:Int) (p:Nat) (hp:∀ t:Nat,t < g.1.length → ((g.1.getD t dS).1=x2↔t=p)):∀ (d m i:Nat) (B:List Ban),g.2.1.length - i=d→d < m→i≤g.2.1.length→Srt B→B.length≤2001 →
 ∃ r,InTo (fwI g x1 x2 x3 d i) B r∧f131.l263 k x1 (p:Int) x3 m ((g.1,(g.2.1,B)),(i:Int))=some (g.1,(g.2.1,r)):=by
 have hn:=hg.n2
 intro d
 induction d with
 | zero =>
   intro m i B h1 h2 h3 hs hl
   obtain ⟨m,rfl⟩:∃ q,m=q+1:=⟨m - 1,by omega⟩
   obtain rfl:i=g.2.1.length:=by omega
   refine ⟨B,InTo.nil hs hl,?_⟩
   rw [f131.l263,if_f (by simp)]
 | succ d ih =>
   intro m i B h1 h2 h3 hs hl
   obtain ⟨m,rfl⟩:∃ q,m=q+1:=⟨m - 1,by omega⟩
   have hi:i < g.2.1.length:=by omega
   have c1:decide ((i:Int) < (g.2.1.length:Int))=true:=by simpa using hi
   have hb2:(0:Int) ≤ (i:Int) ∧ (i:Int) < (g.2.1.length:Int):=⟨by omega,by omega⟩
   obtain ⟨_,r3⟩:=road_ends hg (r:=(i:Int)) (roadIs_iff.2 ⟨by omega,by omega⟩)
   have hsp:(spotAt g (roadAt g (i:Int)).2.1).1=x2 ↔ (roadAt g (i:Int)).2.1 = (p:Int):=by
    have:=hp (roadAt g (i:Int)).2.1.toNat (by omega)
    unfold spotAt
    rw [this]
    omega
   rw [f131.l263]
   simp only [if_t c1,if_t hb2,foldR]
   rw [if_t (fun _ => hb2)]
   have sk:∀ (hcond:¬ (wayI g x1 (i:Int)=true ∧ (spotAt g (roadAt g (i:Int)).2.1).1=x2)),∃ r,InTo (fwI g x1 x2 x3 (d+1) i) B r∧f131.j482 k (i:Int) (f131.l263 k x1 (p:Int) x3 m) (g.1,(g.2.1,B))=some (g.1,(g.2.1,r)):=fun hcond => by
    obtain ⟨r,q1,q2⟩:=ih m (i+1) B (by omega) (by omega) (by omega) hs hl
    refine ⟨r,?_,?_⟩
    ·rw [fwI,if_neg hcond]; exact q1
    ·rw [f131.j482,wrap_s (by omega)]; exact q2
   cases hw:wayI g x1 (i:Int) with
   | false =>
     have:((roadAt g (i:Int)).2.2.1 != x1)=true:=by
      unfold wayI at hw
      unfold bne; rw [hw]; rfl
     rw [this,cond_true,if_t rfl]
     exact sk (fun h => by rw [hw] at h; cases h.1)
   | true =>
     have:((roadAt g (i:Int)).2.2.1 != x1)=false:=by
      unfold wayI at hw
      unfold bne; rw [hw]; rfl
     rw [this,cond_false]
     by_cases ht:(roadAt g (i:Int)).2.1 = (p:Int)
     ·rw [if_f (by rw [ht]; simp)]
      obtain ⟨r,q1,q2⟩:=fb_in hg k hk x3 (p:Int) i (f131.j482 k (i:Int) (f131.l263 k x1 (p:Int) x3 m)) g.2.1.length k 0 B (by omega) (by omega) (by omega) hs hl
      have q2':f131.l483 k x3 (p:Int) (i:Int) (f131.j482 k (i:Int) (f131.l263 k x1 (p:Int) x3 m)) k ((g.1,(g.2.1,B)),(0:Int))=_:=q2
      rw [q2']
      obtain ⟨s,s1,s2⟩:=ih m (i+1) r (by omega) (by omega) (by omega) q1.1 q1.2.1
      refine ⟨s,?_,?_⟩
      ·rw [fwI,if_pos ⟨hw,hsp.2 ht⟩]
       rw [rs_outs] at q1
       have:leav g i=outs g g.2.1.length p:=by unfold leav; rw [ht]; rfl
       rw [this]
       exact q1.app s1
      ·rw [f131.j482,wrap_s (by omega)]; exact s2
     ·rw [if_t (by simpa using ht)]
      exact sk (fun h => ht (hsp.1 h.2))
theorem ids_lt {g:Graph} (hg:GOk g):∀ {d i:Nat},i+d+1 < g.1.length → (g.1.getD i dS).1 < (g.1.getD (i+d+1) dS).1
 | 0,i,h => by
   have:=hg.spot (i+1) (by omega)
   unfold okSpot at this
   simp only [Bool.and_eq_true,Bool.or_eq_true,decide_eq_true_eq] at this
   rcases this.2 with h' | h'
   ·omega
   ·simpa using h'
 | d+1,i,h => by
   have h1:=ids_lt hg (d:=d) (i:=i) (by omega)
   have h2:=ids_lt hg (d:=0) (i:=i+d+1) (by omega)
   rw [show i+d+1+0+1=i + (d+1)+1 by omega] at h2
   omega
theorem ids_sort {g:Graph} (hg:GOk g) {i j:Nat} (hij:i < j) (hj:j < g.1.length):(g.1.getD i dS).1 < (g.1.getD j dS).1:=by
 have:=ids_lt hg (d:=j - i - 1) (i:=i) (by omega)
 rwa [show i + (j - i - 1)+1=j by omega] at this
theorem place_go {g:Graph} (hg:GOk g) (k:Nat) (R:List Road × List Ban) (x:Int):∀ (m lo hi:Nat),lo≤hi→hi≤g.1.length→hi - lo < m → (∀ j,j < lo → (g.1.getD j dS).1 < x) → (∀ j,hi≤j→j < g.1.length→¬ (g.1.getD j dS).1 < x) →
 ∃ r,f130.l16 k (g.1,R) x m ((lo:Int),(hi:Int))=some r ∧ ((∃ p:Nat,r = (p:Int)∧p < g.1.length∧∀ t:Nat,t < g.1.length → ((g.1.getD t dS).1=x↔t=p)) ∨ (r = -1∧∀ t:Nat,t < g.1.length → (g.1.getD t dS).1≠x))
 | 0,lo,hi,_,_,h,_,_ => by omega
 | m+1,lo,hi,h1,h2,h3,h4,h5 => by
   have hn:=hg.n1
   rw [f130.l16]
   dsimp only
   by_cases hlt:lo < hi
   ·rw [if_t (by simpa using hlt),if_t (by decide),wrap_id (n:=(lo:Int)+hi) (by omega) (by omega)]
    have hmid:Int.tdiv ((lo:Int)+hi) 2 = (((lo+hi) / 2:Nat):Int):=by
     rw [Int.tdiv_eq_ediv_of_nonneg (by omega)]; omega
    rw [hmid,wrap_id (n:=(((lo+hi) / 2:Nat):Int)) (by omega) (by omega),if_t ⟨by omega,by omega⟩]
    generalize hM:(lo+hi) / 2=M at *
    rw [Int.toNat_natCast]
    by_cases hb:(g.1.getD M dS).1 < x
    ·rw [if_t (by simpa using hb),wrap_s (by omega)]
     refine place_go hg k R x m (M+1) hi (by omega) h2 (by omega) (fun j hj => ?_) h5
     by_cases hjM:j=M
     ·rw [hjM]; exact hb
     ·have:=ids_sort hg (i:=j) (j:=M) (by omega) (by omega)
      omega
    ·rw [if_f (by simpa using hb)]
     refine place_go hg k R x m lo M (by omega) (by omega) (by omega) h4 (fun j hj hjn => ?_)
     by_cases hjM:j=M
     ·rw [hjM]; exact hb
     ·have:=ids_sort hg (i:=M) (j:=j) (by omega) hjn
      omega
   ·obtain rfl:lo=hi:=by omega
    rw [if_f (by simp)]
    rw [if_t (fun hh => ⟨by omega,by simpa using hh⟩),Int.toNat_natCast]
    by_cases hq:lo < g.1.length ∧ (g.1.getD lo dS).1=x
    ·have c1:decide ((lo:Int) < (g.1.length:Int))=true:=by simpa using hq.1
     rw [if_t (by rw [c1,cond_true]; simpa using hq.2)]
     refine ⟨_,rfl,.inl ⟨lo,rfl,hq.1,fun t ht => ⟨fun he => ?_,fun he => by rw [he]; exact hq.2⟩⟩⟩
     rcases Nat.lt_trichotomy t lo with h' | h' | h'
     ·have:=h4 t h'; omega
     ·exact h'
     ·have:=ids_sort hg h' ht; omega
    ·have c1:(bif (decide ((lo:Int) < (g.1.length:Int))) then ((g.1.getD lo dS).1 == x) else false)=false:=by
      by_cases hlo:lo < g.1.length
      ·have c1:decide ((lo:Int) < (g.1.length:Int))=true:=by simpa using hlo
       rw [c1,cond_true]
       simpa using fun h => hq ⟨hlo,h⟩
      ·have c1:decide ((lo:Int) < (g.1.length:Int))=false:=by simpa using hlo
       rw [c1]; rfl
     rw [if_f (by rw [c1]; simp)]
     refine ⟨_,rfl,.inr ⟨rfl,fun t ht he => ?_⟩⟩
     rcases Nat.lt_trichotomy t lo with h' | h' | h'
     ·have:=h4 t h'; omega
     ·exact hq ⟨by omega,by rw [← h']; exact he⟩
     ·have:=ids_sort hg h' ht
      have:=h5 lo (Nat.le_refl _) (by omega)
      omega
theorem e130 {g:Graph} (hg:GOk g) (k:Nat) (hk:1048576 < k) (R:List Road × List Ban) (x:Int):∃ r,f130 k (g.1,R) x=some r ∧ ((∃ p:Nat,r = (p:Int)∧p < g.1.length∧∀ t:Nat,t < g.1.length → ((g.1.getD t dS).1=x↔t=p)) ∨ (r = -1∧∀ t:Nat,t < g.1.length → (g.1.getD t dS).1≠x)):=by
 have hn:=hg.n1
 exact place_go hg k R x k 0 g.1.length (by omega) (by omega) (by omega) (fun j hj => by omega) (fun j h1 h2 => by omega)
def newsW (g:Graph) (l:List Int):List Ban:=if l.length=3 then fwI g (l.getD 0 0) (l.getD 1 0) (l.getD 2 0) g.2.1.length 0 else []
def newsA (g:Graph) (ws:List (List Int)):Nat→Nat→List Ban
 | 0,_ => []
 | d+1,t => newsW g (ws.getD t []) ++ newsA g ws d (t+1)
theorem fwI_none {g:Graph} (hg:GOk g) {x1 x2 x3:Int} (h:∀ t:Nat,t < g.1.length → (g.1.getD t dS).1≠x2):∀ (d i:Nat),d+i=g.2.1.length→fwI g x1 x2 x3 d i=[]
 | 0,_,_ => rfl
 | d+1,i,hd => by
   obtain ⟨_,r3⟩:=road_ends hg (r:=(i:Int)) (roadIs_iff.2 ⟨by omega,by omega⟩)
   rw [fwI,if_neg (fun hc => h _ (by omega) hc.2),fwI_none hg h d (i+1) (by omega)]
   rfl
theorem sp_way {g:Graph} (hg:GOk g) (k:Nat) (hk:1048576 < k) (ws:List (List Int)) (hw:ws.length≤2000):∀ (d m t:Nat) (B:List Ban),ws.length - t=d→d < m→t≤ws.length→Srt B→B.length≤2001 →
 ∃ r,InTo (newsA g ws d t) B r∧f66.l96 k ws m ((g.1,(g.2.1,B)),(t:Int))=some (if 2000 < r.length then noG else (g.1,(g.2.1,r))):=by
 have hn:=hg.n2
 intro d
 induction d with
 | zero =>
   intro m t B h1 h2 h3 hs hl
   obtain ⟨m,rfl⟩:∃ q,m=q+1:=⟨m - 1,by omega⟩
   obtain rfl:t=ws.length:=by omega
   refine ⟨B,InTo.nil hs hl,?_⟩
   rw [f66.l96,if_f (by simp)]
   dsimp only
   by_cases hc:2000 < B.length
   ·rw [if_t (by rw [decide_eq_true_eq]; omega),if_pos hc]
   ·rw [if_f (by rw [decide_eq_true_eq]; omega),if_neg hc]
 | succ d ih =>
   intro m t B h1 h2 h3 hs hl
   obtain ⟨m,rfl⟩:∃ q,m=q+1:=⟨m - 1,by omega⟩
   have ht:t < ws.length:=by omega
   have c1:decide ((t:Int) < (ws.length:Int))=true:=by simpa using ht
   have hb2:(0:Int) ≤ (t:Int) ∧ (t:Int) < (ws.length:Int):=⟨by omega,by omega⟩
   rw [f66.l96]
   simp only [if_t c1,if_t hb2,Int.toNat_natCast,f66.j175]
   rw [wrap_s (by omega),if_t (fun _ => hb2)]
   obtain ⟨l,hlw⟩:∃ l,List.getD ws t []=l:=⟨_,rfl⟩
   simp only [hlw]
   by_cases h3l:l.length=3
   ·have c3:(((l.length:Int)) == (3:Int))=true:=by rw [h3l]; rfl
    have hb3:∀ n:Int,0≤n→n < 3 → (0≤n∧n < (l.length:Int)):=fun n a b => ⟨a,by omega⟩
    rw [if_t (fun _ => hb3 1 (by decide) (by decide)),if_t c3]
    simp only [c3,cond_true]
    obtain ⟨r,q1,q2⟩:=e130 hg k hk (g.2.1,B) (l.getD 1 0)
    have q1':f130 k (g.1,(g.2.1,B)) (List.getD l (Int.toNat (1:Int)) (0:Int))=some r:=q1
    rw [q1',Option.bind_some]
    rcases q2 with ⟨p,rfl,hp,hpu⟩ | ⟨rfl,hno⟩
    ·rw [if_t (by rw [decide_eq_true_eq]; omega),if_t (hb3 0 (by decide) (by decide)),if_t (hb3 1 (by decide) (by decide)),if_t (hb3 2 (by decide) (by decide))]
     obtain ⟨s,s1,s2⟩:=fb_out hg k hk (l.getD 0 0) (l.getD 1 0) (l.getD 2 0) p hpu g.2.1.length k 0 B (by omega) (by omega) (by omega) hs hl
     have e131:f131 k (g.1,(g.2.1,B)) (List.getD l (Int.toNat (0:Int)) (0:Int)) (List.getD l (Int.toNat (1:Int)) (0:Int)) (List.getD l (Int.toNat (2:Int)) (0:Int))=some (g.1,(g.2.1,s)):=by
      unfold f131
      rw [q1',Option.bind_some]
      exact s2
     rw [e131,Option.bind_some]
     obtain ⟨u,u1,u2⟩:=ih m (t+1) s (by omega) (by omega) (by omega) s1.1 s1.2.1
     refine ⟨u,?_,u2⟩
     rw [newsA,hlw]
     refine InTo.app ?_ u1
     unfold newsW
     rw [if_pos h3l]
     exact s1
    ·rw [if_f (by decide)]
     obtain ⟨u,u1,u2⟩:=ih m (t+1) B (by omega) (by omega) (by omega) hs hl
     refine ⟨u,?_,u2⟩
     rw [newsA,hlw]
     unfold newsW
     rw [if_pos h3l,fwI_none hg hno g.2.1.length 0 (by omega)]
     exact u1
   ·have c3:(((l.length:Int)) == (3:Int))=false:=by
     rw [beq_eq_false_iff_ne]; omega
    rw [if_t (fun h => by rw [c3] at h; cases h),if_f (by rw [c3]; simp),Option.bind_some]
    simp only [c3,cond_false]
    rw [if_f (by simp)]
    obtain ⟨u,u1,u2⟩:=ih m (t+1) B (by omega) (by omega) (by omega) hs hl
    refine ⟨u,?_,u2⟩
    rw [newsA,hlw]
    unfold newsW
    rw [if_neg h3l]
    exact u1
theorem e66 (k:Nat) (hk:1048576 < k) (g:Graph) (h1:g.1.length≤1048576) (h2:g.2.1.length≤1048576) (h3:g.2.2.length≤1048576) (ws:List (List Int)):f66 k g ws=some (if graphOk g=true∧ws.length≤2000 then withB g (newsA g ws ws.length 0) else noG):=by
 unfold f66
 rw [spec86 k hk g h1 h2 h3,Option.bind_some]
 cases hgo:graphOk g with
 | false => rw [if_t (show (bif (!false) then true else _)=true from rfl),if_neg (by simp)]
 | true =>
   have hg:=gok hgo
   by_cases hw:ws.length≤2000
   ·have c1:decide ((ws.length:Int) > 2000)=false:=by rw [decide_eq_false_iff_not]; omega
    rw [if_f (by rw [c1]; simp),e122 hg,Option.bind_some,if_pos ⟨rfl,hw⟩]
    obtain ⟨r,q1,q2⟩:=sp_way hg k hk ws hw ws.length k 0 g.2.2 (by omega) (by omega) (by omega) hg.srt (by have:=hg.n3; omega)
    have q2':f66.l96 k ws k (g,(0:Int))=_:=q2
    rw [q2',q1.with]
   ·have c1:decide ((ws.length:Int) > 2000)=true:=by rw [decide_eq_true_eq]; omega
    rw [if_t (by rw [c1]; rfl),if_neg (fun h => hw h.2)]
theorem MOk.more {M:BM} {bs:List Ban} (h:MOk M bs):∀ us:List Ban,∃ M',MOk M' (bs ++ us)∧M.length≤M'.length
 | [] => ⟨M,by simpa using h,Nat.le_refl _⟩
 | u :: us => by
   obtain ⟨p1,p2⟩:=h.put u
   obtain ⟨M',q1,q2⟩:=p1.more us
   exact ⟨M',by rw [List.append_assoc] at q1; exact q1,Nat.le_trans p2 q2⟩
theorem im_in {g:Graph} (hg:GOk g) (k:Nat) (r2:List (List Int)) (i:Nat) (hi:i < g.2.1.length) (ws:List (List Int)) (t:Nat) (h3:(List.getD ws t []).length=3) (q:BM→Option Graph) (l:List Int) (hl:List.getD r2 (Int.toNat (roadAt g (i:Int)).2.1) []=l) (hln:l.length≤8000) (hr:∀ x ∈ l,roadIs g x=true) :
 ∀ (d m j:Nat) (M:BM) (bs:List Ban),l.length - j=d→d < m→j≤l.length→MOk M bs →
 ∃ M',MOk M' (bs ++ ((l.drop j).filter (wayI g ((List.getD ws t []).getD 2 0))).map fun k => ((i:Int),k))∧M.length≤M'.length ∧
   f68.l5441 k r2 g (i:Int) ws (t:Int) q m (M,(j:Int))=if 2000 < M'.length then some noG else q M':=by
 have hn:=hg.n2
 intro d
 induction d with
 | zero =>
   intro m j M bs h1 h2 h4 hM
   obtain ⟨m,rfl⟩:∃ q,m=q+1:=⟨m - 1,by omega⟩
   obtain rfl:j=l.length:=by omega
   refine ⟨M,by simpa using hM,Nat.le_refl _,?_⟩
   rw [f68.l5441]
   simp only [foldR,hl]
   rw [if_f (by simp)]
   by_cases hc:2000 < M.length
   ·rw [if_t (by rw [decide_eq_true_eq]; omega),if_pos hc]
   ·rw [if_f (by rw [decide_eq_true_eq]; omega),if_neg hc]
 | succ d ih =>
   intro m j M bs h1 h2 h4 hM
   obtain ⟨m,rfl⟩:∃ q,m=q+1:=⟨m - 1,by omega⟩
   have hj:j < l.length:=by omega
   have hb2:(0:Int) ≤ (j:Int) ∧ (j:Int) < (l.length:Int):=⟨by omega,by omega⟩
   have c1:decide ((j:Int) < (l.length:Int))=true:=by simpa using hj
   have hx:=roadIs_iff.1 (hr (l.getD j 0) (getD_in hj))
   rw [f68.l5441]
   simp only [foldR,hl,if_t c1,if_t hb2,f68.j5470]
   rw [Int.toNat_natCast,Int.toNat_natCast,if_t hx,if_t ⟨by decide,by rw [h3]; decide⟩,wrap_s (by omega),drop_at hj]
   have es:((roadAt g (l.getD j 0)).2.2.1 == List.getD (List.getD ws t []) (Int.toNat (2:Int)) 0)=wayI g ((List.getD ws t []).getD 2 0) (l.getD j 0):=rfl
   rw [es]
   cases hs:wayI g ((List.getD ws t []).getD 2 0) (l.getD j 0) with
   | true =>
     rw [if_t rfl,List.filter_cons_of_pos hs,List.map_cons]
     obtain ⟨p1,p2⟩:=hM.put ((i:Int),l.getD j 0)
     obtain ⟨M',q1,q2,q3⟩:=ih m (j+1) _ _ (by omega) (by omega) (by omega) p1
     refine ⟨M',?_,Nat.le_trans p2 q2,q3⟩
     rw [List.append_assoc] at q1
     exact q1
   | false =>
     rw [if_f (by simp),List.filter_cons_of_neg (by rw [hs]; simp)]
     exact ih m (j+1) _ _ (by omega) (by omega) (by omega) hM
theorem im_road {g:Graph} (hg:GOk g) (k:Nat) (hk:1048576 < k) (r2:List (List Int)) (h1r:r2.length=g.1.length) (h2r:∀ p,p < g.1.length→r2.getD p []=outs g g.2.1.length p) (ws:List (List Int)) (t:Nat) (h3:(List.getD ws t []).length=3) (q:BM→Option Graph) :
 ∀ (d m i:Nat) (M:BM) (bs:List Ban),g.2.1.length - i=d→d < m→i≤g.2.1.length→MOk M bs→M.length≤2000 →
 ∃ M',MOk M' (bs ++ fwI g ((List.getD ws t []).getD 0 0) ((List.getD ws t []).getD 1 0) ((List.getD ws t []).getD 2 0) d i) ∧
   f68.l5027 k g ws (t:Int) r2 q m (M,(i:Int))=if 2000 < M'.length then some noG else q M':=by
 have hn:=hg.n2
 intro d
 induction d with
 | zero =>
   intro m i M bs h1 h2 h4 hM hl
   obtain ⟨m,rfl⟩:∃ q,m=q+1:=⟨m - 1,by omega⟩
   obtain rfl:i=g.2.1.length:=by omega
   refine ⟨M,by simpa [fwI] using hM,?_⟩
   rw [f68.l5027,if_f (by simp),if_neg (by omega)]
 | succ d ih =>
   intro m i M bs h1 h2 h4 hM hl
   obtain ⟨m,rfl⟩:∃ q,m=q+1:=⟨m - 1,by omega⟩
   have hi:i < g.2.1.length:=by omega
   have c1:decide ((i:Int) < (g.2.1.length:Int))=true:=by simpa using hi
   have hb2:(0:Int) ≤ (i:Int) ∧ (i:Int) < (g.2.1.length:Int):=⟨by omega,by omega⟩
   obtain ⟨_,r3⟩:=road_ends hg (r:=(i:Int)) (roadIs_iff.2 ⟨by omega,by omega⟩)
   rw [f68.l5027]
   simp only [if_t c1,if_t hb2,foldR,foldS]
   have hw3:∀ n:Int,0≤n→n < 3 → (0≤n∧n < ((List.getD ws (Int.toNat (t:Int)) []).length:Int)):=fun n a b => ⟨a,by rw [Int.toNat_natCast,h3]; omega⟩
   rw [if_t (hw3 0 (by decide) (by decide)),if_t (fun _ => r3),if_t (fun _ => hw3 1 (by decide) (by decide)),Option.bind_some,Int.toNat_natCast]
   have sk:∀ (hcond:¬ (wayI g ((List.getD ws t []).getD 0 0) (i:Int)=true ∧ (spotAt g (roadAt g (i:Int)).2.1).1 = (List.getD ws t []).getD 1 0)),
    ∃ M',MOk M' (bs ++ fwI g ((List.getD ws t []).getD 0 0) ((List.getD ws t []).getD 1 0) ((List.getD ws t []).getD 2 0) (d+1) i)∧f68.j5406 k (i:Int) (f68.l5027 k g ws (t:Int) r2 q m) M=if 2000 < M'.length then some noG else q M':=fun hcond => by
    obtain ⟨M',q1,q2⟩:=ih m (i+1) M bs (by omega) (by omega) (by omega) hM hl
    refine ⟨M',?_,?_⟩
    ·rw [fwI,if_neg hcond]; exact q1
    ·rw [f68.j5406,wrap_s (by omega)]; exact q2
   cases hw:wayI g ((List.getD ws t []).getD 0 0) (i:Int) with
   | false =>
     have:((roadAt g (i:Int)).2.2.1 != List.getD (List.getD ws t []) (Int.toNat (0:Int)) 0)=true:=by
      unfold wayI at hw
      unfold bne
      have hw':((roadAt g (i:Int)).2.2.1 == List.getD (List.getD ws t []) (Int.toNat (0:Int)) 0)=false:=hw
      rw [hw']; rfl
     rw [this,cond_true,if_t rfl]
     exact sk (fun h => by rw [hw] at h; cases h.1)
   | true =>
     have:((roadAt g (i:Int)).2.2.1 != List.getD (List.getD ws t []) (Int.toNat (0:Int)) 0)=false:=by
      unfold wayI at hw
      unfold bne
      have hw':((roadAt g (i:Int)).2.2.1 == List.getD (List.getD ws t []) (Int.toNat (0:Int)) 0)=true:=hw
      rw [hw']; rfl
     rw [this,cond_false]
     by_cases ht:(spotAt g (roadAt g (i:Int)).2.1).1 = (List.getD ws t []).getD 1 0
     ·rw [if_f (by
       have:((spotAt g (roadAt g (i:Int)).2.1).1 != List.getD (List.getD ws t []) (Int.toNat (1:Int)) 0)=false:=by
        unfold bne
        have:((spotAt g (roadAt g (i:Int)).2.1).1 == List.getD (List.getD ws t []) (Int.toNat (1:Int)) 0)=true:=by simpa using ht
        rw [this]; rfl
       rw [this]; simp),if_t ⟨r3.1,by rw [h1r]; exact r3.2⟩]
      have hlv:List.getD r2 (Int.toNat (roadAt g (i:Int)).2.1) []=leav g i:=h2r _ (by omega)
      have hln:(leav g i).length≤8000:=Nat.le_trans (outs_len g _ _) hn
      have hr:∀ x ∈ leav g i,roadIs g x=true:=fun x hx => outs_road hx
      obtain ⟨M1,p1,p2,p3⟩:=im_in hg k r2 i hi ws t h3 (f68.j5406 k (i:Int) (f68.l5027 k g ws (t:Int) r2 q m)) (leav g i) hlv hln hr (leav g i).length k 0 M bs (by omega) (by omega) (by omega) hM
      rw [show ((0:Nat):Int)=0 from rfl] at p3
      rw [p3]
      rw [List.drop_zero] at p1
      have hfw:fwI g ((List.getD ws t []).getD 0 0) ((List.getD ws t []).getD 1 0) ((List.getD ws t []).getD 2 0) (d+1) i = ((leav g i).filter (wayI g ((List.getD ws t []).getD 2 0))).map (fun k => ((i:Int),k)) ++ fwI g ((List.getD ws t []).getD 0 0) ((List.getD ws t []).getD 1 0) ((List.getD ws t []).getD 2 0) d (i+1):=by
       rw [fwI,if_pos ⟨hw,ht⟩]
      rw [hfw,← List.append_assoc]
      by_cases hc:2000 < M1.length
      ·rw [if_pos hc]
       obtain ⟨M2,s1,s2⟩:=p1.more (fwI g ((List.getD ws t []).getD 0 0) ((List.getD ws t []).getD 1 0) ((List.getD ws t []).getD 2 0) d (i+1))
       exact ⟨M2,s1,by rw [if_pos (by omega)]⟩
      ·rw [if_neg hc]
       obtain ⟨M2,s1,s2⟩:=ih m (i+1) M1 _ (by omega) (by omega) (by omega) p1 (by omega)
       refine ⟨M2,s1,?_⟩
       rw [f68.j5406,wrap_s (by omega)]; exact s2
     ·rw [if_t (by
       have:((spotAt g (roadAt g (i:Int)).2.1).1 != List.getD (List.getD ws t []) (Int.toNat (1:Int)) 0)=true:=by
        unfold bne
        have:((spotAt g (roadAt g (i:Int)).2.1).1 == List.getD (List.getD ws t []) (Int.toNat (1:Int)) 0)=false:=by simpa using ht
        rw [this]; rfl
       rw [this])]
      exact sk (fun h => ht h.2)
theorem im_way {g:Graph} (hg:GOk g) (k:Nat) (hk:1048576 < k) (r2:List (List Int)) (h1r:r2.length=g.1.length) (h2r:∀ p,p < g.1.length→r2.getD p []=outs g g.2.1.length p) (ws:List (List Int)) (hw:ws.length≤2000):∀ (d m t:Nat) (M:BM) (bs:List Ban),ws.length - t=d→d < m→t≤ws.length→MOk M bs→M.length≤2000 →
 f68.l2742 k ws g r2 m (M,(t:Int))=some (withB g (bs ++ newsA g ws d t)):=by
 have hn:=hg.n2
 intro d
 induction d with
 | zero =>
   intro m t M bs h1 h2 h3 hM hl
   obtain ⟨m,rfl⟩:∃ q,m=q+1:=⟨m - 1,by omega⟩
   obtain rfl:t=ws.length:=by omega
   rw [f68.l2742,if_f (by simp),e125 hg k hk bs hM,Option.bind_some]
   simp [newsA]
 | succ d ih =>
   intro m t M bs h1 h2 h3 hM hl
   obtain ⟨m,rfl⟩:∃ q,m=q+1:=⟨m - 1,by omega⟩
   have ht:t < ws.length:=by omega
   have c1:decide ((t:Int) < (ws.length:Int))=true:=by simpa using ht
   have hb2:(0:Int) ≤ (t:Int) ∧ (t:Int) < (ws.length:Int):=⟨by omega,by omega⟩
   rw [f68.l2742]
   simp only [if_t c1,if_t hb2]
   rw [Int.toNat_natCast]
   by_cases h3l:(List.getD ws t []).length=3
   ·rw [if_f (by rw [h3l]; decide)]
    obtain ⟨M',q1,q2⟩:=im_road hg k hk r2 h1r h2r ws t h3l (f68.j5026 k (t:Int) (f68.l2742 k ws g r2 m)) g.2.1.length k 0 M bs (by omega) (by omega) (by omega) hM hl
    rw [show ((0:Nat):Int)=0 from rfl] at q2
    rw [q2]
    have e1:newsA g ws (d+1) t=fwI g ((List.getD ws t []).getD 0 0) ((List.getD ws t []).getD 1 0) ((List.getD ws t []).getD 2 0) g.2.1.length 0 ++ newsA g ws d (t+1):=by
     rw [newsA]; unfold newsW; rw [if_pos h3l]
    rw [e1,← List.append_assoc]
    by_cases hc:2000 < M'.length
    ·rw [if_pos hc]
     unfold withB
     rw [if_pos (Nat.lt_of_lt_of_le hc (q1.le (fun x hx => List.mem_append_left _ hx)))]
    ·rw [if_neg hc,f68.j5026,wrap_s (by omega)]
     exact ih m (t+1) M' _ (by omega) (by omega) (by omega) q1 (by omega)
   ·rw [if_t (by
     have:(((List.getD ws t []).length:Int) != (3:Int))=true:=by
      rw [bne_iff_ne]; omega
     exact this),f68.j5026,wrap_s (by omega)]
    have e1:newsA g ws (d+1) t=newsA g ws d (t+1):=by
     rw [newsA]; unfold newsW; rw [if_neg h3l]; rfl
    rw [e1]
    exact ih m (t+1) M bs (by omega) (by omega) (by omega) hM hl
theorem e68 (k:Nat) (hk:1048576 < k) (g:Graph) (h1:g.1.length≤1048576) (h2:g.2.1.length≤1048576) (h3:g.2.2.length≤1048576) (ws:List (List Int)):f68 k g ws=some (if graphOk g=true∧ws.length≤2000 then withB g (newsA g ws ws.length 0) else noG):=by
 unfold f68
 rw [impl92 k hk g h1 h2 h3,Option.bind_some]
 cases hgo:graphOk g with
 | false => rw [if_t (show (bif (!false) then true else _)=true from rfl),if_neg (by simp)]
 | true =>
   have hg:=gok hgo
   by_cases hw:ws.length≤2000
   ·have c1:decide ((ws.length:Int) > 2000)=false:=by rw [decide_eq_false_iff_not]; omega
    obtain ⟨t,t1,t2,t3⟩:=e124 hg k hk
    rw [if_f (by rw [c1]; simp),t1,Option.bind_some,if_pos ⟨rfl,hw⟩]
    have:=im_way hg k hk t t2 t3 ws hw ws.length k 0 [] [] (by omega) (by omega) (by omega) MOk.nil (by simp)
    rw [List.nil_append] at this
    exact this
   ·have c1:decide ((ws.length:Int) > 2000)=true:=by rw [decide_eq_true_eq]; omega
    rw [if_t (by rw [c1]; rfl),if_neg (fun h => hw h.2)]
theorem withB_sub (g:Graph) (bs:List Ban):(∀ x ∈ (withB g bs).1,x ∈ g.1) ∧ (withB g bs).1.length≤g.1.length ∧ (∀ x ∈ (withB g bs).2.1,x ∈ g.2.1) ∧ (withB g bs).2.1.length≤g.2.1.length ∧ (withB g bs).2.2.length≤2000:=by
 unfold withB
 split
 ·simp
 ·exact ⟨fun x h => h,Nat.le_refl _,fun x h => h,Nat.le_refl _,by show (insL bs g.2.2).length≤2000; omega⟩
end Go.Proofs.Ytnpaokckkbhdjaa
end
