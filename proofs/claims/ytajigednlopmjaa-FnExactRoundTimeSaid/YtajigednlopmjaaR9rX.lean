/-
  Own texts of this project, joined. No condition.
-/
import Derived.Test.YtajigednlopmjaaR9rp
import Derived.Test.YtajigednlopmjaaDij
import Derived.Test.YtajigednlopmjaaDijQ
import Derived.Test.YtajigednlopmjaaDijR
import Derived.Test.YtajigednlopmjaaVmU
import Derived.Test.YtajigednlopmjaaLawB
import Derived.Test.YtajigednlopmjaaLawC
section
set_option linter.unusedVariables false
set_option linter.unusedSimpArgs false
namespace Go.Proofs.Ytajigednlopmjaa
open Go Go.Vm Go.Proofs V
abbrev Spot:=Int × (Int × Int)
abbrev Road:=Int × (Int × (Int × (Int × (Int × ByteArray))))
abbrev Ban:=Int × Int
abbrev Graph:=List Spot × (List Road × List Ban)
abbrev dS:Spot:=((0:Int),((0:Int),(0:Int)))
abbrev dR:Road:=((0:Int),((0:Int),((0:Int),((0:Int),((0:Int),(⟨#[]⟩:ByteArray))))))
abbrev dB:Ban:=((0:Int),(0:Int))
def idB (a:Int):Bool:=bif (decide ((a:Int) ≥ (1:Int))) then (decide ((a:Int) ≤ (1000000000:Int))) else false
def ptB (a:Int × Int):Bool:=bif (bif (bif (decide ((a.1:Int) ≥ (-10000000:Int))) then (decide ((a.1:Int) ≤ (10000000:Int))) else false) then (decide ((a.2:Int) ≥ (-10000000:Int))) else false) then (decide ((a.2:Int) ≤ (10000000:Int))) else false
def okSpot (g:Graph) (i:Nat):Bool:=idB (g.1.getD i dS).1 && ptB (g.1.getD i dS).2 && (decide (i=0) || decide ((g.1.getD (i - 1) dS).1 < (g.1.getD i dS).1))
def okRoad (g:Graph) (i:Nat):Bool:=decide (0 ≤ (g.2.1.getD i dR).1) && decide ((g.2.1.getD i dR).1 < (g.1.length:Int)) && decide (0 ≤ (g.2.1.getD i dR).2.1) && decide ((g.2.1.getD i dR).2.1 < (g.1.length:Int)) && idB (g.2.1.getD i dR).2.2.1 &&
 decide (1 ≤ (g.2.1.getD i dR).2.2.2.1) && decide ((g.2.1.getD i dR).2.2.2.1≤1000000) && decide (0 ≤ (g.2.1.getD i dR).2.2.2.2.1) && decide ((g.2.1.getD i dR).2.2.2.2.1≤1000000000)
def banLess (a b:Ban):Bool:=decide (a.1 < b.1) || (decide (a.1=b.1) && decide (a.2 < b.2))
def okBan (g:Graph) (i:Nat):Bool:=decide (0 ≤ (g.2.2.getD i dB).1) && decide ((g.2.2.getD i dB).1 < (g.2.1.length:Int)) && decide (0 ≤ (g.2.2.getD i dB).2) && decide ((g.2.2.getD i dB).2 < (g.2.1.length:Int)) &&
 decide ((g.2.1.getD (Int.toNat (g.2.2.getD i dB).1) dR).2.1 = (g.2.1.getD (Int.toNat (g.2.2.getD i dB).2) dR).1) && (decide (i=0) || banLess (g.2.2.getD (i - 1) dB) (g.2.2.getD i dB))
def graphOk (g:Graph):Bool:=decide (g.1.length≤5000) && decide (g.2.1.length≤8000) && decide (g.2.2.length≤2000) && allTo (okSpot g) g.1.length && allTo (okRoad g) g.2.1.length && allTo (okBan g) g.2.2.length
theorem e57 (k:Nat) (a:Int):f57 k a=some (idB a):=rfl
theorem e58 (k:Nat) (a:Int × Int):f58 k a=some (ptB a):=rfl
theorem e59 (k:Nat) (a b:Ban):f59 k a b=some (banLess a b):=by
 unfold f59 banLess
 congr 1
 by_cases h1:a.1 < b.1
 ·simp [h1]
 ·simp only [h1,decide_false,cond_false,Bool.false_or]
  by_cases h2:a.1=b.1
  ·simp [h2]
  ·simp [h2]
theorem e68 (k:Nat) (a:Int):f68 k a=some (idB a):=rfl
theorem e69 (k:Nat) (a:Int × Int):f69 k a=some (ptB a):=rfl
theorem ge_not (a b:Int):decide (a ≥ b)=!decide (a < b):=by
 rw [← decide_not]; congr 1; apply propext; omega
theorem gt_not (a b:Int):decide (a > b)=!decide (a≤b):=by
 rw [← decide_not]; congr 1; apply propext; omega
theorem lt_not (a b:Int):decide (a < b)=!decide (b≤a):=by
 rw [← decide_not]; congr 1; apply propext; omega
theorem ne_dec (a b:Int):(a != b)=!decide (a=b):=by by_cases h:a=b <;> simp [h]
theorem pos_succ (j:Nat):decide (((j+1:Nat):Int) > 0)=true:=by simp
theorem spots41 (k:Nat) (g:Graph) (hg:g.1.length≤1048576) (m i:Nat) (hi:i < g.1.length):f41.l42 k g (m+1) (i:Int)=bif okSpot g i then f41.l42 k g m ((i+1:Nat):Int) else some false:=by
 rw [f41.l42,if_t (by simpa using hi),if_t ⟨by omega,by omega⟩,wrap_s (by omega)]
 simp only [e57,e58,Option.bind_some,Int.toNat_natCast]
 unfold okSpot
 generalize idB (g.1.getD i dS).1=A
 generalize ptB (g.1.getD i dS).2=B
 rcases i with _ | j
 ·cases A <;> cases B <;> simp
 ·have h1:(0:Int) ≤ (j:Int) ∧ (j:Int) < (g.1.length:Int):=⟨by omega,by omega⟩
  simp only [wrap_p j (by omega),pos_succ,Int.toNat_natCast,Nat.add_sub_cancel,ge_not]
  generalize decide ((g.1.getD j dS).1 < (g.1.getD (j+1) dS).1)=C
  cases A <;> cases B <;> cases C <;> simp [h1]
theorem roads41 (k:Nat) (g:Graph) (hg:g.2.1.length≤1048576) (m i:Nat) (hi:i < g.2.1.length):f41.l118 k g (m+1) (i:Int)=bif okRoad g i then f41.l118 k g m ((i+1:Nat):Int) else some false:=by
 rw [f41.l118,if_t (by simpa using hi),if_t ⟨by omega,by omega⟩,wrap_s (by omega)]
 have hr:g.2.1.getD i dR=List.getD g.2.1 (Int.toNat (i:Int)) dR:=by rw [Int.toNat_natCast]
 unfold okRoad
 rw [hr]
 generalize List.getD g.2.1 (Int.toNat (i:Int)) dR=r
 simp only [e57]
 have a1:=lt_not r.1 0
 have a2:=ge_not r.1 (g.1.length:Int)
 have a3:=lt_not r.2.1 0
 have a4:=ge_not r.2.1 (g.1.length:Int)
 have a5:=lt_not r.2.2.2.1 1
 have a6:=gt_not r.2.2.2.1 1000000
 have a7:=lt_not r.2.2.2.2.1 0
 have a8:=gt_not r.2.2.2.2.1 1000000000
 simp only [a1,a2,a3,a4,a5,a6,a7,a8]
 clear a1 a2 a3 a4 a5 a6 a7 a8
 generalize idB r.2.2.1=A
 generalize decide (0≤r.1)=B1
 generalize decide (r.1 < (g.1.length:Int))=B2
 generalize decide (0≤r.2.1)=B3
 generalize decide (r.2.1 < (g.1.length:Int))=B4
 generalize decide (1≤r.2.2.2.1)=B5
 generalize decide (r.2.2.2.1≤1000000)=B6
 generalize decide (0≤r.2.2.2.2.1)=B7
 generalize decide (r.2.2.2.2.1≤1000000000)=B8
 cases B1 <;> cases B2 <;> cases B3 <;> cases B4 <;> simp
 cases A <;> cases B5 <;> cases B6 <;> cases B7 <;> cases B8 <;> simp
theorem bans41 (k:Nat) (g:Graph) (hg:g.2.2.length≤1048576) (m i:Nat) (hi:i < g.2.2.length):f41.l206 k g (m+1) (i:Int)=bif okBan g i then f41.l206 k g m ((i+1:Nat):Int) else some false:=by
 rw [f41.l206,if_t (by simpa using hi),if_t ⟨by omega,by omega⟩,wrap_s (by omega)]
 have hr:g.2.2.getD i dB=List.getD g.2.2 (Int.toNat (i:Int)) dB:=by rw [Int.toNat_natCast]
 unfold okBan
 rw [hr]
 generalize List.getD g.2.2 (Int.toNat (i:Int)) dB=b
 have a1:=lt_not b.1 0
 have a2:=ge_not b.1 (g.2.1.length:Int)
 have a3:=lt_not b.2 0
 have a4:=ge_not b.2 (g.2.1.length:Int)
 simp only [a1,a2,a3,a4]
 clear a1 a2 a3 a4
 by_cases q1:0≤b.1∧b.1 < (g.2.1.length:Int)
 ·by_cases q2:0≤b.2∧b.2 < (g.2.1.length:Int)
  ·rw [if_t (fun _ => q1),if_t (fun _ => q2)]
   simp only [q1.1,q1.2,q2.1,q2.2,decide_true,Bool.not_true,cond_false,Bool.true_and]
   have h5:((g.2.1.getD (Int.toNat b.1) dR).2.1 != (g.2.1.getD (Int.toNat b.2) dR).1)=!decide ((g.2.1.getD (Int.toNat b.1) dR).2.1 = (g.2.1.getD (Int.toNat b.2) dR).1):=by
    exact ne_dec _ _
   simp only [h5]
   generalize decide ((g.2.1.getD (Int.toNat b.1) dR).2.1 = (g.2.1.getD (Int.toNat b.2) dR).1)=E
   rcases i with _ | j
   ·cases E <;> simp
   ·have h1:(0:Int) ≤ (j:Int) ∧ (j:Int) < (g.2.2.length:Int):=⟨by omega,by omega⟩
    simp only [wrap_p j (by omega),pos_succ,Int.toNat_natCast,Nat.add_sub_cancel,e59]
    generalize banLess (g.2.2.getD j dB) b=C
    cases E <;> cases C <;> simp [h1]
  ·have:(decide (0≤b.2) && decide (b.2 < (g.2.1.length:Int)))=false:=by simpa using q2
   rcases Classical.em (0≤b.2) with h | h
   ·have h':¬ b.2 < (g.2.1.length:Int):=fun h' => q2 ⟨h,h'⟩
    simp [h,h',q1]
   ·simp [h,q1]
 ·rcases Classical.em (0≤b.1) with h | h
  ·have h':¬ b.1 < (g.2.1.length:Int):=fun h' => q1 ⟨h,h'⟩
   simp [h,h']
  ·simp [h]
theorem spots62 (k:Nat) (g:Graph) (hg:g.1.length≤1048576) (m i:Nat) (hi:i < g.1.length):f62.l42 k g (m+1) (i:Int)=bif okSpot g i then f62.l42 k g m ((i+1:Nat):Int) else some false:=by
 rw [f62.l42,if_t (by simpa using hi),if_t ⟨by omega,by omega⟩,wrap_s (by omega)]
 simp only [e68,e69,Option.bind_some,Int.toNat_natCast]
 unfold okSpot
 generalize idB (g.1.getD i dS).1=A
 generalize ptB (g.1.getD i dS).2=B
 rcases i with _ | j
 ·cases A <;> cases B <;> simp
 ·have h1:(0:Int) ≤ (j:Int) ∧ (j:Int) < (g.1.length:Int):=⟨by omega,by omega⟩
  simp only [wrap_p j (by omega),pos_succ,Int.toNat_natCast,Nat.add_sub_cancel,ge_not]
  generalize decide ((g.1.getD j dS).1 < (g.1.getD (j+1) dS).1)=C
  cases A <;> cases B <;> cases C <;> simp [h1]
theorem roads62 (k:Nat) (g:Graph) (hg:g.2.1.length≤1048576) (m i:Nat) (hi:i < g.2.1.length):f62.l118 k g (m+1) (i:Int)=bif okRoad g i then f62.l118 k g m ((i+1:Nat):Int) else some false:=by
 rw [f62.l118,if_t (by simpa using hi),if_t ⟨by omega,by omega⟩,wrap_s (by omega)]
 have hr:g.2.1.getD i dR=List.getD g.2.1 (Int.toNat (i:Int)) dR:=by rw [Int.toNat_natCast]
 unfold okRoad
 rw [hr]
 generalize List.getD g.2.1 (Int.toNat (i:Int)) dR=r
 simp only [e68]
 have a1:=lt_not r.1 0
 have a2:=ge_not r.1 (g.1.length:Int)
 have a3:=lt_not r.2.1 0
 have a4:=ge_not r.2.1 (g.1.length:Int)
 have a5:=lt_not r.2.2.2.1 1
 have a6:=gt_not r.2.2.2.1 1000000
 have a7:=lt_not r.2.2.2.2.1 0
 have a8:=gt_not r.2.2.2.2.1 1000000000
 simp only [a1,a2,a3,a4,a5,a6,a7,a8]
 clear a1 a2 a3 a4 a5 a6 a7 a8
 generalize idB r.2.2.1=A
 generalize decide (0≤r.1)=B1
 generalize decide (r.1 < (g.1.length:Int))=B2
 generalize decide (0≤r.2.1)=B3
 generalize decide (r.2.1 < (g.1.length:Int))=B4
 generalize decide (1≤r.2.2.2.1)=B5
 generalize decide (r.2.2.2.1≤1000000)=B6
 generalize decide (0≤r.2.2.2.2.1)=B7
 generalize decide (r.2.2.2.2.1≤1000000000)=B8
 cases B1 <;> cases B2 <;> cases B3 <;> cases B4 <;> simp
 cases A <;> cases B5 <;> cases B6 <;> cases B7 <;> cases B8 <;> simp
theorem bans62 (k:Nat) (g:Graph) (hg:g.2.2.length≤1048576) (m i:Nat) (hi:i < g.2.2.length):f62.l209 k g (m+1) (i:Int)=bif okBan g i then f62.l209 k g m ((i+1:Nat):Int) else some false:=by
 rw [f62.l209,if_t (by simpa using hi),if_t ⟨by omega,by omega⟩]
 simp only [f62.j256,wrap_s (show i < 9223372036854775807 by omega)]
 have hr:g.2.2.getD i dB=List.getD g.2.2 (Int.toNat (i:Int)) dB:=by rw [Int.toNat_natCast]
 unfold okBan
 rw [hr]
 generalize List.getD g.2.2 (Int.toNat (i:Int)) dB=b
 have a1:=lt_not b.1 0
 have a2:=ge_not b.1 (g.2.1.length:Int)
 have a3:=lt_not b.2 0
 have a4:=ge_not b.2 (g.2.1.length:Int)
 simp only [a1,a2,a3,a4]
 clear a1 a2 a3 a4
 by_cases q1:0≤b.1∧b.1 < (g.2.1.length:Int)
 ·by_cases q2:0≤b.2∧b.2 < (g.2.1.length:Int)
  ·rw [if_t (fun _ => q1),if_t (fun _ => q2)]
   simp only [q1.1,q1.2,q2.1,q2.2,decide_true,Bool.not_true,cond_false,Bool.true_and]
   simp only [ne_dec]
   generalize decide ((g.2.1.getD (Int.toNat b.1) dR).2.1 = (g.2.1.getD (Int.toNat b.2) dR).1)=E
   rcases i with _ | j
   ·cases E <;> simp
   ·have h1:(0:Int) ≤ (j:Int) ∧ (j:Int) < (g.2.2.length:Int):=⟨by omega,by omega⟩
    have h3:(bif (decide (((List.getD g.2.2 j dB).1:Int) > b.1)) then true else (bif (((List.getD g.2.2 j dB).1:Int) == b.1) then (decide (((List.getD g.2.2 j dB).2:Int) ≥ b.2)) else false))=!banLess (g.2.2.getD j dB) b:=by
     unfold banLess
     generalize g.2.2.getD j dB=c
     by_cases x1:c.1 < b.1
     ·have:¬ c.1 > b.1:=by omega
      have h4:(c.1 == b.1)=false:=by simp; omega
      simp [x1,this,h4]
     ·by_cases x2:c.1=b.1
      ·have h4:(c.1 == b.1)=true:=by simp [x2]
       simp only [h4,x2]
       simp [ge_not]
      ·have:c.1 > b.1:=by omega
       simp [this,x1,x2]
    simp only [wrap_p j (by omega),pos_succ,Int.toNat_natCast,Nat.add_sub_cancel,h3]
    generalize banLess (g.2.2.getD j dB) b=C
    cases E <;> cases C <;> simp [h1]
  ·rcases Classical.em (0≤b.2) with h | h
   ·have h':¬ b.2 < (g.2.1.length:Int):=fun h' => q2 ⟨h,h'⟩
    simp [h,h',q1]
   ·simp [h,q1]
 ·rcases Classical.em (0≤b.1) with h | h
  ·have h':¬ b.1 < (g.2.1.length:Int):=fun h' => q1 ⟨h,h'⟩
   simp [h,h']
  ·simp [h]
theorem gt_lit (a c:Nat) (C:Int) (h:C = (c:Int)):decide ((a:Int) > C)=!decide (a≤c):=by
 subst h; rw [← decide_not]; congr 1; apply propext; omega
theorem spec41 (k:Nat) (hk:1048576 < k) (g:Graph) (h1:g.1.length≤1048576) (h2:g.2.1.length≤1048576) (h3:g.2.2.length≤1048576):f41 k g=some (graphOk g):=by
 have q3:=allLoop (L:=f41.l206 k g) (fun m i hi => bans41 k g h3 m i hi) (fun m => by rw [f41.l206,if_f (by simp)]) (show g.2.2.length < k by omega)
 have q2:=allLoop (L:=f41.l118 k g) (fun m i hi => roads41 k g h2 m i hi) (fun m => by rw [f41.l118,if_f (by simp)]) (show g.2.1.length < k by omega)
 have q1:=allLoop (L:=f41.l42 k g) (fun m i hi => spots41 k g h1 m i hi) (fun m => by rw [f41.l42,if_f (by simp)]) (show g.1.length < k by omega)
 have b1:=gt_lit g.1.length 5000 5000 rfl
 have b2:=gt_lit g.2.1.length 8000 8000 rfl
 have b3:=gt_lit g.2.2.length 2000 2000 rfl
 unfold f41
 rw [q1,q2,q3]
 unfold graphOk
 simp only [b1,b2,b3]
 generalize allTo (okSpot g) g.1.length=A
 generalize allTo (okRoad g) g.2.1.length=B
 generalize allTo (okBan g) g.2.2.length=C
 generalize decide (g.1.length≤5000)=D
 generalize decide (g.2.1.length≤8000)=E
 generalize decide (g.2.2.length≤2000)=F
 cases A <;> cases B <;> cases C <;> cases D <;> cases E <;> cases F <;> rfl
theorem impl62 (k:Nat) (hk:1048576 < k) (g:Graph) (h1:g.1.length≤1048576) (h2:g.2.1.length≤1048576) (h3:g.2.2.length≤1048576):f62 k g=some (graphOk g):=by
 have q3:=allLoop (L:=f62.l209 k g) (fun m i hi => bans62 k g h3 m i hi) (fun m => by rw [f62.l209,if_f (by simp)]) (show g.2.2.length < k by omega)
 have q2:=allLoop (L:=f62.l118 k g) (fun m i hi => roads62 k g h2 m i hi) (fun m => by rw [f62.l118,if_f (by simp)]) (show g.2.1.length < k by omega)
 have q1:=allLoop (L:=f62.l42 k g) (fun m i hi => spots62 k g h1 m i hi) (fun m => by rw [f62.l42,if_f (by simp)]) (show g.1.length < k by omega)
 have b1:=gt_lit g.1.length 5000 5000 rfl
 have b2:=gt_lit g.2.1.length 8000 8000 rfl
 have b3:=gt_lit g.2.2.length 2000 2000 rfl
 unfold f62
 rw [q1,q2,q3]
 unfold graphOk
 simp only [b1,b2,b3]
 generalize allTo (okSpot g) g.1.length=A
 generalize allTo (okRoad g) g.2.1.length=B
 generalize allTo (okBan g) g.2.2.length=C
 generalize decide (g.1.length≤5000)=D
 generalize decide (g.2.1.length≤8000)=E
 generalize decide (g.2.2.length≤2000)=F
 cases A <;> cases B <;> cases C <;> cases D <;> cases E <;> cases F <;> rfl
theorem wrap_id {n:Int} (h1:-9223372036854775808≤n) (h2:n < 9223372036854775808):IntKind.i64.wrap n=n:=wrap_in h1 (by omega)
theorem beq5 (a b:Int × Int):Sh.beq (.st (.pair (.int .i64) (.int .i64))) a b=true↔a=b:=by
 obtain ⟨a1,a2⟩:=a; obtain ⟨b1,b2⟩:=b
 simp [Sh.beq]
theorem beq5d (a b:Int × Int):Sh.beq (.st (.pair (.int .i64) (.int .i64))) a b=decide (a=b):=by
 by_cases h:a=b
 ·rw [(beq5 a b).2 h]; simp [h]
 ·rw [decide_eq_false h]
  cases hb:Sh.beq (.st (.pair (.int .i64) (.int .i64))) a b with
  | false => rfl
  | true => exact absurd ((beq5 a b).1 hb) h
theorem ban_iff {a b:Ban}:banLess a b=true↔a.1 < b.1 ∨ (a.1=b.1∧a.2 < b.2):=by simp [banLess]
theorem ban_trans {a b c:Ban} (h1:banLess a b=true) (h2:banLess b c=true):banLess a c=true:=by
 rw [ban_iff] at *; omega
theorem ban_irr {a:Ban}:banLess a a=false:=by simp [banLess]
structure GOk (g:Graph):Prop where
 n1:g.1.length≤5000
 n2:g.2.1.length≤8000
 n3:g.2.2.length≤2000
 spot:∀ i,i < g.1.length→okSpot g i=true
 road:∀ i,i < g.2.1.length→okRoad g i=true
 ban:∀ i,i < g.2.2.length→okBan g i=true
theorem gok {g:Graph} (h:graphOk g=true):GOk g:=by
 unfold graphOk at h
 simp only [Bool.and_eq_true,decide_eq_true_eq] at h
 obtain ⟨⟨⟨⟨⟨h1,h2⟩,h3⟩,h4⟩,h5⟩,h6⟩:=h
 exact ⟨h1,h2,h3,allTo_iff.1 h4,allTo_iff.1 h5,allTo_iff.1 h6⟩
theorem ban_sorted {g:Graph} (hg:GOk g):∀ {d i:Nat},i+d+1 < g.2.2.length→banLess (g.2.2.getD i dB) (g.2.2.getD (i+d+1) dB)=true
 | 0,i,h => by
   have:=hg.ban (i+1) (by omega)
   unfold okBan at this
   simp only [Bool.and_eq_true,Bool.or_eq_true,decide_eq_true_eq] at this
   rcases this.2 with h' | h'
   ·omega
   ·simpa using h'
 | d+1,i,h => ban_trans (ban_sorted hg (d:=d) (i:=i) (by omega)) (by
   have h0:=ban_sorted hg (d:=0) (i:=i+d+1) (by omega)
   rwa [show i+d+1+0+1=i + (d+1)+1 by omega] at h0)
theorem ban_sort {g:Graph} (hg:GOk g) {i j:Nat} (hij:i < j) (hj:j < g.2.2.length):banLess (g.2.2.getD i dB) (g.2.2.getD j dB)=true:=by
 have:=ban_sorted hg (d:=j - i - 1) (i:=i) (by omega)
 rwa [show i + (j - i - 1)+1=j by omega] at this
def banned (g:Graph) (e f:Int):Bool:=decide ((e,f) ∈ g.2.2)
theorem mem_getD {α:Type} {d:α} {x:α} {l:List α} (h:x ∈ l):∃ i,i < l.length∧l.getD i d=x:=by
 obtain ⟨i,hi,he⟩:=List.getElem_of_mem h
 exact ⟨i,hi,by rw [List.getD_eq_getElem?_getD,List.getElem?_eq_getElem hi,he]; rfl⟩
theorem getD_in {α:Type} {d:α} {l:List α} {i:Nat} (h:i < l.length):l.getD i d ∈ l:=by
 rw [List.getD_eq_getElem?_getD,List.getElem?_eq_getElem h]; exact List.getElem_mem h
def ab (x:Int):Int:=if x < 0 then -x else x
def headR (dx dy:Int):Int :=
 if 5*ab dy < 2*ab dx∧dx > 0 then 0 else if 5*ab dy < 2*ab dx then 4 else if 5*ab dx < 2*ab dy∧dy > 0 then 2 else if 5*ab dx < 2*ab dy then 6 else
 if dx > 0∧dy > 0 then 1 else if dx < 0∧dy > 0 then 3 else if dx < 0 then 5 else 7
def headB (p q:Int × Int):Int:=if ptB p=true∧ptB q=true∧p≠q then headR (q.1 - p.1) (q.2 - p.2) else -1
theorem headR_range (dx dy:Int):0≤headR dx dy∧headR dx dy≤7:=by
 unfold headR
 repeat' split
 all_goals omega
theorem headB_range (p q:Int × Int):-1≤headB p q∧headB p q≤7:=by
 unfold headB
 split
 ·have:=headR_range (q.1 - p.1) (q.2 - p.2); omega
 ·omega
theorem ptB_iff {p:Int × Int} (h:ptB p=true):-10000000≤p.1∧p.1≤10000000 ∧ -10000000≤p.2∧p.2≤10000000:=by
 unfold ptB at h
 simp only [cond_eq_ite,Bool.if_false_right,Bool.and_eq_true,decide_eq_true_eq] at h
 omega
theorem ab_range {x:Int} (h1:-100000000≤x) (h2:x≤100000000):0≤ab x∧ab x≤100000000:=by
 unfold ab; split <;> omega
def roadAt (g:Graph) (r:Int):Road:=g.2.1.getD r.toNat dR
def spotAt (g:Graph) (p:Int):Spot:=g.1.getD p.toNat dS
def roadIs (g:Graph) (r:Int):Bool:=decide (0≤r) && decide (r < (g.2.1.length:Int))
def spotIs (g:Graph) (p:Int):Bool:=decide (0≤p) && decide (p < (g.1.length:Int))
def headOf (g:Graph) (r:Int):Int:=headB (spotAt g (roadAt g r).1).2 (spotAt g (roadAt g r).2.1).2
def windOf (g:Graph) (e f:Int):Int:=if headOf g e < 0∨headOf g f < 0 then -1 else (headOf g f - headOf g e+8) % 8
def costOf (w:Int):Int:=if w=2∨w=3∨w=4 then 5 else if w=5∨w=6 then 3 else 0
def turnOf (g:Graph) (e f:Int):Int:=if banned g e f=true then -1 else if (roadAt g f).2.1 = (roadAt g e).1 then 20 else costOf (windOf g e f)
theorem foldR (g:Graph) (r:Int):List.getD g.2.1 (Int.toNat r) ((0:Int),((0:Int),((0:Int),((0:Int),((0:Int),(⟨#[]⟩:ByteArray))))))=roadAt g r:=by cases g; exact id rfl
theorem foldS (g:Graph) (p:Int):List.getD g.1 (Int.toNat p) ((0:Int),((0:Int),(0:Int)))=spotAt g p:=by cases g; exact id rfl
theorem foldH (g:Graph) (r:Int):headB (spotAt g (roadAt g r).1).2 (spotAt g (roadAt g r).2.1).2=headOf g r:=by cases g; exact id rfl
theorem roadIs_iff {g:Graph} {r:Int}:roadIs g r=true↔0≤r∧r < (g.2.1.length:Int):=by simp [roadIs]
theorem spotIs_iff {g:Graph} {r:Int}:spotIs g r=true↔0≤r∧r < (g.1.length:Int):=by simp [spotIs]
theorem road_ends {g:Graph} (hg:GOk g) {r:Int} (h:roadIs g r=true):(0 ≤ (roadAt g r).1 ∧ (roadAt g r).1 < (g.1.length:Int)) ∧ (0 ≤ (roadAt g r).2.1 ∧ (roadAt g r).2.1 < (g.1.length:Int)):=by
 rw [roadIs_iff] at h
 have:=hg.road r.toNat (by omega)
 unfold okRoad at this
 simp only [Bool.and_eq_true,decide_eq_true_eq] at this
 unfold roadAt
 omega
theorem mod8 {x:Int} (h1:0≤x):Int.tmod x 8=x % 8:=Int.tmod_eq_emod_of_nonneg h1
abbrev Net:=Graph × ((List (List Int)) × ((List (List Int)) × (Option (List ((Int × Int) × Bool)))))
def outs (g:Graph) (n p:Nat):List Int:=((List.range n).filter fun r => decide ((g.2.1.getD r dR).1 = (p:Int))).map fun (r:Nat) => (r:Int)
def inns (g:Graph) (n p:Nat):List Int:=((List.range n).filter fun r => decide ((g.2.1.getD r dR).2.1 = (p:Int))).map fun (r:Nat) => (r:Int)
structure NetOf (g:Graph) (t:Net):Prop where
 fst:t.1=g
 out:t.2.1.length=g.1.length∧∀ p,p < g.1.length→t.2.1.getD p []=outs g g.2.1.length p
 inn:t.2.2.1.length=g.1.length∧∀ p,p < g.1.length→t.2.2.1.getD p []=inns g g.2.1.length p
 ban:∃ m,t.2.2.2=some m∧∀ e f,mget (Sh.beq (.st (.pair (.int .i64) (.int .i64)))) (some m) (e,f) false=banned g e f
theorem outs_len (g:Graph) (n p:Nat):(outs g n p).length≤n:=by
 unfold outs; rw [List.length_map]
 exact Nat.le_trans (List.length_filter_le _ _) (by simp)
theorem inns_len (g:Graph) (n p:Nat):(inns g n p).length≤n:=by
 unfold inns; rw [List.length_map]
 exact Nat.le_trans (List.length_filter_le _ _) (by simp)
theorem outs_succ (g:Graph) (n p:Nat):outs g (n+1) p=if (g.2.1.getD n dR).1 = (p:Int) then outs g n p ++ [(n:Int)] else outs g n p:=by
 unfold outs
 rw [List.range_succ,List.filter_append,List.map_append]
 by_cases h:(g.2.1.getD n dR).1 = (p:Int)
 ·rw [if_pos h,List.filter_cons_of_pos (by simpa using h)]; rfl
 ·rw [if_neg h,List.filter_cons_of_neg (by simpa using h)]; simp
theorem inns_succ (g:Graph) (n p:Nat):inns g (n+1) p=if (g.2.1.getD n dR).2.1 = (p:Int) then inns g n p ++ [(n:Int)] else inns g n p:=by
 unfold inns
 rw [List.range_succ,List.filter_append,List.map_append]
 by_cases h:(g.2.1.getD n dR).2.1 = (p:Int)
 ·rw [if_pos h,List.filter_cons_of_pos (by simpa using h)]; rfl
 ·rw [if_neg h,List.filter_cons_of_neg (by simpa using h)]; simp
theorem mem_take_succ {α:Type} {d:α} {l:List α} {i:Nat} (h:i < l.length) (x:α):x ∈ l.take (i+1)↔x ∈ l.take i∨x=l.getD i d:=by
 rw [List.take_add_one,List.mem_append,List.getD_eq_getElem?_getD,List.getElem?_eq_getElem h]
 simp
theorem banned_loop {g:Graph} (hg:GOk g) (k:Nat) (e f:Int):∀ (m lo hi:Nat),lo≤hi→hi≤g.2.2.length→hi - lo < m → (∀ j,j < lo→banLess (g.2.2.getD j dB) (e,f)=true) → (∀ j,hi≤j→j < g.2.2.length→banLess (g.2.2.getD j dB) (e,f)=false) →
 f73.l22 k g e f m ((lo:Int),(hi:Int))=some (banned g e f)
 | 0,lo,hi,_,_,h,_,_ => by omega
 | m+1,lo,hi,h1,h2,h3,h4,h5 => by
   have hn:=hg.n3
   rw [f73.l22]
   by_cases hlt:lo < hi
   ·rw [if_t (by simpa using hlt),if_t (by decide),wrap_id (n:=(lo:Int)+hi) (by omega) (by omega)]
    have hmid:Int.tdiv ((lo:Int)+hi) 2 = (((lo+hi) / 2:Nat):Int):=by
     rw [Int.tdiv_eq_ediv_of_nonneg (by omega)]; omega
    rw [hmid,wrap_id (n:=(((lo+hi) / 2:Nat):Int)) (by omega) (by omega),if_t ⟨by omega,by omega⟩]
    generalize hM:(lo+hi) / 2=M at *
    rw [e59,Option.bind_some,Int.toNat_natCast]
    cases hb:banLess (g.2.2.getD M dB) (e,f) with
    | true =>
      rw [if_t rfl,wrap_s (by omega)]
      refine banned_loop hg k e f m (M+1) hi (by omega) h2 (by omega) (fun j hj => ?_) h5
      by_cases hjM:j=M
      ·rw [hjM]; exact hb
      ·exact ban_trans (ban_sort hg (i:=j) (j:=M) (by omega) (by omega)) hb
    | false =>
      rw [if_f (by simp)]
      refine banned_loop hg k e f m lo M (by omega) (by omega) (by omega) h4 (fun j hj hjn => ?_)
      by_cases hjM:j=M
      ·rw [hjM]; exact hb
      ·cases hb2:banLess (g.2.2.getD j dB) (e,f) with
       | false => rfl
       | true =>
         have:=ban_trans (ban_sort hg (i:=M) (j:=j) (by omega) hjn) hb2
         rw [hb] at this; cases this
   ·obtain rfl:lo=hi:=by omega
    rw [if_f (by simp)]
    rw [if_t (fun hh => ⟨by omega,by simpa using hh⟩)]
    congr 1
    rw [Int.toNat_natCast]
    have key:banned g e f=true↔lo < g.2.2.length∧g.2.2.getD lo dB = (e,f):=by
     unfold banned
     rw [decide_eq_true_iff]
     constructor
     ·intro hm
      obtain ⟨j,hj,hje⟩:=mem_getD (d:=dB) hm
      have hlo:j=lo:=by
       rcases Nat.lt_trichotomy j lo with h' | h' | h'
       ·have:=h4 j h'
        rw [hje,ban_irr] at this; cases this
       ·exact h'
       ·have:=h5 lo (Nat.le_refl _) (by omega)
        have h6:=ban_sort hg h' hj
        rw [hje,this] at h6; cases h6
      subst hlo
      exact ⟨hj,hje⟩
     ·rintro ⟨h6,h7⟩
      rw [← h7]; exact getD_in h6
    by_cases hl:lo < g.2.2.length
    ·have:decide ((lo:Int) < (g.2.2.length:Int))=true:=by simpa using hl
     rw [this,cond_true,beq5d]
     by_cases hq:g.2.2.getD lo dB = (e,f)
     ·rw [key.2 ⟨hl,hq⟩]; simpa using hq
     ·have:banned g e f=false:=Bool.eq_false_iff.2 (fun h => hq (key.1 h).2)
      rw [this]; simpa using hq
    ·have:decide ((lo:Int) < (g.2.2.length:Int))=false:=by simpa using hl
     rw [this,cond_false]
     exact (Bool.eq_false_iff.2 (fun h => hl (key.1 h).1)).symm
theorem e73 {g:Graph} (hg:GOk g) (k:Nat) (hk:1048576 < k) (e f:Int):f73 k g e f=some (banned g e f):=by
 have:=hg.n3
 exact banned_loop hg k e f k 0 g.2.2.length (by omega) (Nat.le_refl _) (by omega) (fun j hj => by omega) (fun j h1 h2 => by omega)
theorem abs_eq (k:Nat) {x:Int} (h1:-100000000≤x) (h2:x≤100000000):f77 k x=some (ab x)∧f79 k x=some (ab x):=by
 unfold f77 f79 ab
 by_cases h:x < 0
 ·rw [if_t (by simpa using h),if_pos h,wrap_id (by omega) (by omega)]; simp
 ·rw [if_f (by simpa using h),if_neg h]; simp
theorem e74 (k:Nat) (p q:Int × Int):f74 k p q=some (headB p q):=by
 unfold f74 headB
 rw [e58]
 simp only [Option.bind_some,e58,beq5d]
 by_cases hp:ptB p=true
 ·by_cases hq:ptB q=true
  ·by_cases he:p=q
   ·subst he; simp [hp]
   ·have bp:=ptB_iff hp
    have bq:=ptB_iff hq
    have w1:IntKind.i64.wrap (q.1 - p.1)=q.1 - p.1:=wrap_id (by omega) (by omega)
    have w2:IntKind.i64.wrap (q.2 - p.2)=q.2 - p.2:=wrap_id (by omega) (by omega)
    have hR:(if ptB p=true∧ptB q=true∧p≠q then headR (q.1 - p.1) (q.2 - p.2) else -1)=headR (q.1 - p.1) (q.2 - p.2):=if_pos ⟨hp,hq,he⟩
    rw [hR]
    simp only [hp,hq,he,w1,w2]
    obtain ⟨dx,hdx⟩:∃ dx,dx=q.1 - p.1:=⟨_,rfl⟩
    obtain ⟨dy,hdy⟩:∃ dy,dy=q.2 - p.2:=⟨_,rfl⟩
    rw [← hdx,← hdy]
    rw [(abs_eq k (x:=dx) (by omega) (by omega)).1,(abs_eq k (x:=dy) (by omega) (by omega)).1]
    have r1:=ab_range (x:=dx) (by omega) (by omega)
    have r2:=ab_range (x:=dy) (by omega) (by omega)
    simp only [Option.bind_some,if_true]
    rw [wrap_id (n:=5*ab dy) (by omega) (by omega),wrap_id (n:=2*ab dx) (by omega) (by omega),wrap_id (n:=5*ab dx) (by omega) (by omega),wrap_id (n:=2*ab dy) (by omega) (by omega)]
    unfold headR
    by_cases c1:5*ab dy < 2*ab dx <;> by_cases c2:dx > 0 <;> by_cases c3:5*ab dx < 2*ab dy <;> by_cases c4:dy > 0 <;> by_cases c5:dx < 0 <;> simp [c1,c2,c3,c4,c5]
  ·simp only [Bool.not_eq_true] at hq
   simp [hp,hq]
 ·simp only [Bool.not_eq_true] at hp
  simp [hp]
theorem e78 (k:Nat) (p q:Int × Int):f78 k p q=some (headB p q):=by
 unfold f78 headB
 simp only [e69,beq5d]
 by_cases he:p=q
 ·subst he; simp
 ·by_cases hp:ptB p=true
  ·by_cases hq:ptB q=true
   ·have bp:=ptB_iff hp
    have bq:=ptB_iff hq
    have w1:IntKind.i64.wrap (q.1 - p.1)=q.1 - p.1:=wrap_id (by omega) (by omega)
    have w2:IntKind.i64.wrap (q.2 - p.2)=q.2 - p.2:=wrap_id (by omega) (by omega)
    have hR:(if ptB p=true∧ptB q=true∧p≠q then headR (q.1 - p.1) (q.2 - p.2) else -1)=headR (q.1 - p.1) (q.2 - p.2):=if_pos ⟨hp,hq,he⟩
    rw [hR]
    simp only [hp,hq,he,w1,w2]
    obtain ⟨dx,hdx⟩:∃ dx,dx=q.1 - p.1:=⟨_,rfl⟩
    obtain ⟨dy,hdy⟩:∃ dy,dy=q.2 - p.2:=⟨_,rfl⟩
    rw [← hdx,← hdy]
    rw [(abs_eq k (x:=dx) (by omega) (by omega)).2,(abs_eq k (x:=dy) (by omega) (by omega)).2]
    have r1:=ab_range (x:=dx) (by omega) (by omega)
    have r2:=ab_range (x:=dy) (by omega) (by omega)
    simp only [Option.bind_some,if_true,decide_false,cond_false,Bool.not_true,cond_true]
    have m1:-100000000 ≤ (if ab dy < ab dx then ab dy else ab dx) ∧ (if ab dy < ab dx then ab dy else ab dx)≤100000000:=by split <;> omega
    have m2:-100000000 ≤ (if ab dy > ab dx then ab dy else ab dx) ∧ (if ab dy > ab dx then ab dy else ab dx)≤100000000:=by split <;> omega
    rw [wrap_id (n:=5 * (if ab dy < ab dx then ab dy else ab dx)) (by omega) (by omega),wrap_id (n:=2 * (if ab dy > ab dx then ab dy else ab dx)) (by omega) (by omega)]
    unfold headR
    have a1:ab dx=if dx < 0 then -dx else dx:=rfl
    have a2:ab dy=if dy < 0 then -dy else dy:=rfl
    generalize ab dx=X at *
    generalize ab dy=Y at *
    by_cases c0:Y < X <;> by_cases c1:5*Y < 2*X <;> by_cases c3:5*X < 2*Y <;> by_cases c2:dx > 0 <;> by_cases c4:dy > 0 <;> by_cases c5:dx < 0 <;> by_cases c6:dy < 0 <;> by_cases c7:Y > X <;> simp [c0,c1,c2,c3,c4,c5,c6,c7] at a1 a2 ⊢ <;> omega
   ·simp only [Bool.not_eq_true] at hq
    simp [hp,hq,he]
  ·simp only [Bool.not_eq_true] at hp
   simp [hp,he]
theorem net_bans {g:Graph} (hg:GOk g) (k:Nat) (o i:List (List Int)):∀ (m q:Nat) (v:List ((Int × Int) × Bool)),q≤g.2.2.length→g.2.2.length - q < m →
 (∀ e f,mget (Sh.beq (.st (.pair (.int .i64) (.int .i64)))) (some v) (e,f) false=decide ((e,f) ∈ g.2.2.take q)) →
 ∃ v',f51.l126 k g o i m (v,(q:Int))=some (g,(o,(i,some v')))∧∀ e f,mget (Sh.beq (.st (.pair (.int .i64) (.int .i64)))) (some v') (e,f) false=banned g e f
 | 0,q,v,_,h,_ => by omega
 | m+1,q,v,hq,h,hv => by
   have hn:=hg.n3
   rw [f51.l126]
   by_cases hlt:q < g.2.2.length
   ·rw [if_t (by simpa using hlt),if_t ⟨by omega,by omega⟩,wrap_s (by omega),Int.toNat_natCast]
    refine net_bans hg k o i m (q+1) _ (by omega) (by omega) (fun e f => ?_)
    rw [mget_put beq5,hv e f,beq5d]
    by_cases hx:(e,f)=g.2.2.getD q ((0:Int),(0:Int))
    ·have:(e,f) ∈ g.2.2.take (q+1):=(mem_take_succ (d:=((0:Int),(0:Int))) hlt _).2 (.inr hx)
     rw [decide_eq_true hx,decide_eq_true this]; rfl
    ·rw [decide_eq_false hx,cond_false]
     congr 1
     apply propext
     rw [mem_take_succ (d:=((0:Int),(0:Int))) hlt]
     exact ⟨.inl,fun h => h.resolve_right hx⟩
   ·obtain rfl:q=g.2.2.length:=by omega
    rw [if_f (by simp)]
    refine ⟨v,rfl,fun e f => ?_⟩
    rw [hv e f,List.take_length]; rfl
theorem net_roads {g:Graph} (hg:GOk g) (k:Nat) (hk:1048576 < k):∀ (m q:Nat) (o i:List (List Int)),q≤g.2.1.length→g.2.1.length - q < m →
 (o.length=g.1.length∧∀ p,p < g.1.length→o.getD p []=outs g q p) → (i.length=g.1.length∧∀ p,p < g.1.length→i.getD p []=inns g q p) →
 ∃ t,f51.l56 k g m (o,i,(q:Int))=some t∧NetOf g t
 | 0,q,o,i,_,h,_,_ => by omega
 | m+1,q,o,i,hq,h,ho,hi => by
   have hn:=hg.n2
   have hn3:=hg.n3
   rw [f51.l56]
   by_cases hlt:q < g.2.1.length
   ·have hr:roadIs g (q:Int)=true:=roadIs_iff.2 ⟨by omega,by omega⟩
    obtain ⟨r1,r2⟩:=road_ends hg hr
    have e0:roadAt g (q:Int)=g.2.1.getD q dR:=by unfold roadAt; rw [Int.toNat_natCast]
    rw [e0] at r1 r2
    rw [if_t (by simpa using hlt),if_t ⟨by omega,by omega⟩,wrap_s (by omega),Int.toNat_natCast]
    have c1:∀ (x:List (List Int)) (p n:Nat),n≤8000 → (x.getD p []).length≤n → ((x.getD p []).length+[(q:Int)].length)*8≤140737488355328:=fun x p n h1 h2 => by
     simp only [List.length_singleton]; omega
    generalize hR:g.2.1.getD q dR=R at *
    obtain ⟨P,hP⟩:∃ P:Nat,R.1 = (P:Int):=⟨R.1.toNat,by omega⟩
    obtain ⟨O,hO⟩:∃ O:Nat,R.2.1 = (O:Int):=⟨R.2.1.toNat,by omega⟩
    have b1:0≤R.1∧R.1 < (o.length:Int):=by rw [ho.1]; exact r1
    have b2:0≤R.2.1∧R.2.1 < (i.length:Int):=by rw [hi.1]; exact r2
    have l1:(o.getD R.1.toNat []).length≤q:=by rw [ho.2 _ (by omega)]; exact outs_len g q _
    have l2:(i.getD R.2.1.toNat []).length≤q:=by rw [hi.2 _ (by omega)]; exact inns_len g q _
    rw [if_t b1,if_t (c1 o _ q (by omega) l1),if_t b1,if_t b2,if_t (c1 i _ q (by omega) l2),if_t b2]
    refine net_roads hg k hk m (q+1) _ _ (by omega) (by omega) ⟨by rw [List.length_set]; exact ho.1,fun p hp => ?_⟩ ⟨by rw [List.length_set]; exact hi.1,fun p hp => ?_⟩
    ·rw [outs_succ,hR,List.getD_eq_getElem?_getD,List.getElem?_set]
     by_cases hx:R.1 = (p:Int)
     ·have:R.1.toNat=p:=by omega
      rw [if_pos hx,if_pos this,if_pos (by rw [ho.1]; omega),Option.getD_some,this,ho.2 p hp]; rfl
     ·have:¬ R.1.toNat=p:=by omega
      rw [if_neg hx,if_neg this,← List.getD_eq_getElem?_getD,ho.2 p hp]
    ·rw [inns_succ,hR,List.getD_eq_getElem?_getD,List.getElem?_set]
     by_cases hx:R.2.1 = (p:Int)
     ·have:R.2.1.toNat=p:=by omega
      rw [if_pos hx,if_pos this,if_pos (by rw [hi.1]; omega),Option.getD_some,this,hi.2 p hp]; rfl
     ·have:¬ R.2.1.toNat=p:=by omega
      rw [if_neg hx,if_neg this,← List.getD_eq_getElem?_getD,hi.2 p hp]
   ·obtain rfl:q=g.2.1.length:=by omega
    rw [if_f (by simp)]
    obtain ⟨v',h1,h2⟩:=net_bans hg k o i k 0 [] (Nat.zero_le _) (by omega) (fun e f => by rw [mget_nil]; simp)
    exact ⟨_,h1,rfl,ho,hi,v',rfl,h2⟩
theorem e51 {g:Graph} (hg:GOk g) (k:Nat) (hk:1048576 < k):∃ t,f51 k g=some t∧NetOf g t:=by
 have h1:=hg.n1
 have h2:=hg.n2
 have c:(0:Int) ≤ (g.1.length:Int)∧Int.toNat (g.1.length:Int)*24≤140737488355328:=⟨by omega,by rw [Int.toNat_natCast]; omega⟩
 unfold f51
 rw [if_t c,if_t c,Int.toNat_natCast]
 refine net_roads hg k hk k 0 _ _ (Nat.zero_le _) (by omega) ⟨by simp,fun p hp => ?_⟩ ⟨by simp,fun p hp => ?_⟩
 ·rw [List.getD_eq_getElem?_getD,List.getElem?_replicate]
  simp [hp,outs]
 ·rw [List.getD_eq_getElem?_getD,List.getElem?_replicate]
  simp [hp,inns]
theorem e76 {g:Graph} (hg:GOk g) (k:Nat) {t:Net} (ht:NetOf g t) {e f:Int} (he:roadIs g e=true) (hf:roadIs g f=true):f76 k t e f=some (windOf g e f):=by
 have re:=road_ends hg he
 have rf:=road_ends hg hf
 rw [roadIs_iff] at he hf
 obtain ⟨g',t2⟩:=t
 obtain rfl:g'=g:=ht.fst
 unfold f76
 simp only [foldR,foldS]
 rw [if_t he,if_t hf,if_t re.1,if_t re.2,e78,Option.bind_some,if_t rf.1,if_t rf.2,e78,Option.bind_some]
 simp only [foldH]
 unfold windOf
 have r1:-1≤headOf g' e∧headOf g' e≤7:=headB_range _ _
 have r2:-1≤headOf g' f∧headOf g' f≤7:=headB_range _ _
 generalize headOf g' e=x at *
 generalize headOf g' f=y at *
 by_cases hx:x < 0
 ·simp [hx]
 ·by_cases hy:y < 0
  ·simp [hy]
  ·have hW:(if x < 0∨y < 0 then (-1:Int) else (y - x+8) % 8) = (y - x+8) % 8:=if_neg (by omega)
   rw [hW,if_f (by simp [hx,hy]),if_t (by decide)]
   rw [wrap_id (n:=y - x) (by omega) (by omega),wrap_id (n:=y - x+8) (by omega) (by omega),mod8 (by omega)]
theorem e67 {g:Graph} (hg:GOk g) (k:Nat) (hk:1048576 < k) {e f:Int} (he:roadIs g e=true) (hf:roadIs g f=true):f67 k g e f=some (turnOf g e f):=by
 have re:=road_ends hg he
 have rf:=road_ends hg hf
 rw [roadIs_iff] at he hf
 unfold f67 turnOf
 rw [e73 hg k hk,Option.bind_some]
 cases hb:banned g e f with
 | true => rw [if_t rfl,if_pos rfl]
 | false =>
   simp only [Bool.false_eq_true,if_false,foldR,foldS]
   rw [if_t he,if_t hf]
   by_cases hr:(roadAt g f).2.1 = (roadAt g e).1
   ·simp [hr]
   ·rw [if_neg hr,if_f (by simpa using hr),if_t re.1,if_t re.2,e74,Option.bind_some,if_t rf.1,if_t rf.2,e74,Option.bind_some]
    have r1:-1≤headOf g e∧headOf g e≤7:=headB_range _ _
    have r2:-1≤headOf g f∧headOf g f≤7:=headB_range _ _
    simp only [foldH]
    unfold windOf
    generalize headOf g e=x at *
    generalize headOf g f=y at *
    by_cases hx:x < 0
    ·simp [hx,costOf]
    ·by_cases hy:y < 0
     ·simp [hy,costOf]
     ·have hw:Int.tmod (IntKind.i64.wrap (IntKind.i64.wrap (y - x)+8)) 8 = (y - x+8) % 8:=by
       rw [wrap_id (n:=y - x) (by omega) (by omega),wrap_id (n:=y - x+8) (by omega) (by omega),mod8 (by omega)]
      have hW:(if x < 0∨y < 0 then (-1:Int) else (y - x+8) % 8) = (y - x+8) % 8:=if_neg (by omega)
      rw [hW,if_f (by simp [hx,hy]),if_t (by decide)]
      unfold f67.j9 f67.j11
      rw [hw]
      generalize (y - x+8) % 8=z
      unfold costOf
      by_cases c2:z=2
      ·subst c2; simp
      ·by_cases c3:z=3
       ·subst c3; simp
       ·by_cases c4:z=4
        ·subst c4; simp
        ·by_cases c5:z=5
         ·subst c5; simp
         ·by_cases c6:z=6
          ·subst c6; simp
          ·simp [c2,c3,c4,c5,c6]
theorem e72 {g:Graph} (hg:GOk g) (k:Nat) {t:Net} (ht:NetOf g t) {e f:Int} (he:roadIs g e=true) (hf:roadIs g f=true):f72 k t e f=some (if (roadAt g e).2.1 = (roadAt g f).1 then turnOf g e f else -1):=by
 have e76':=e76 hg k ht he hf
 rw [roadIs_iff] at he hf
 obtain ⟨g',o,i,mm⟩:=t
 obtain rfl:g'=g:=ht.fst
 obtain ⟨v,hv1,hv2⟩:=ht.ban
 simp only at hv1
 subst hv1
 unfold f72
 simp only [foldR,foldS]
 rw [if_t he,if_t hf,hv2 e f,e76',Option.bind_some]
 unfold turnOf
 by_cases hm:(roadAt g' e).2.1 = (roadAt g' f).1
 ·rw [if_pos hm]
  cases hb:banned g' e f with
  | true => simp
  | false =>
    simp only [hm,bne_self_eq_false,cond_false,Bool.false_eq_true,if_false]
    by_cases hr:(roadAt g' f).2.1 = (roadAt g' e).1
    ·simp [hr]
    ·rw [if_neg hr,if_f (by simpa using hr)]
     unfold f72.j7 f72.j9 costOf
     generalize windOf g' e f=z
     by_cases c2:z=2
     ·subst c2; simp
     ·by_cases c3:z=3
      ·subst c3; simp
      ·by_cases c4:z=4
       ·subst c4; simp
       ·by_cases c5:z=5
        ·subst c5; simp
        ·by_cases c6:z=6
         ·subst c6; simp
         ·simp [c2,c3,c4,c5,c6]
 ·rw [if_neg hm,if_t (by simp [hm])]
theorem at_loop {g:Graph} (hg:GOk g) (k:Nat) (b:Bool):∀ (m q:Nat) (o:List (List Int)),q≤g.2.1.length→g.2.1.length - q < m →
 (o.length=g.1.length∧∀ p,p < g.1.length→o.getD p [] = (bif b then inns g q p else outs g q p)) →
 ∃ t,f66.l58 k g b m (o,(q:Int))=some t∧t.length=g.1.length∧∀ p,p < g.1.length→t.getD p [] = (bif b then inns g g.2.1.length p else outs g g.2.1.length p)
 | 0,q,o,_,h,_ => by omega
 | m+1,q,o,hq,h,ho => by
   have hn:=hg.n2
   rw [f66.l58]
   by_cases hlt:q < g.2.1.length
   ·have hr:roadIs g (q:Int)=true:=roadIs_iff.2 ⟨by omega,by omega⟩
    obtain ⟨r1,r2⟩:=road_ends hg hr
    have e0:roadAt g (q:Int)=g.2.1.getD q dR:=by unfold roadAt; rw [Int.toNat_natCast]
    have hb:(0:Int) ≤ (q:Int) ∧ (q:Int) < (g.2.1.length:Int):=⟨by omega,by omega⟩
    have hc:decide ((q:Int) < (g.2.1.length:Int))=true:=by simpa using hlt
    have step:∀ P:Int,0≤P∧P < (g.1.length:Int) → (∀ p:Nat,(P = (p:Int) → (bif b then inns g (q+1) p else outs g (q+1) p) = (bif b then inns g q p else outs g q p) ++ [(q:Int)]) ∧ (P ≠ (p:Int) → (bif b then inns g (q+1) p else outs g (q+1) p) = (bif b then inns g q p else outs g q p))) →
     ∃ t,f66.j109 k o (q:Int) (f66.l58 k g b m) P=some t∧t.length=g.1.length∧∀ p,p < g.1.length→t.getD p [] = (bif b then inns g g.2.1.length p else outs g g.2.1.length p):=fun P hP hQ => by
     unfold f66.j109
     have b1:0≤P∧P < (o.length:Int):=by rw [ho.1]; exact hP
     have l1:(o.getD P.toNat []).length≤q:=by
      rw [ho.2 _ (by omega)]
      cases b
      ·exact outs_len g q _
      ·exact inns_len g q _
     have c1:((o.getD P.toNat []).length+[(q:Int)].length)*8≤140737488355328:=by
      simp only [List.length_singleton]; omega
     rw [if_t b1,if_t c1,if_t b1,wrap_s (by omega)]
     refine at_loop hg k b m (q+1) _ (by omega) (by omega) ⟨by rw [List.length_set]; exact ho.1,fun p hp => ?_⟩
     rw [List.getD_eq_getElem?_getD,List.getElem?_set]
     by_cases hx:P = (p:Int)
     ·have:P.toNat=p:=by omega
      rw [(hQ p).1 hx,if_pos this,if_pos (by rw [ho.1]; omega),Option.getD_some,this,ho.2 p hp]; rfl
     ·have:¬ P.toNat=p:=by omega
      rw [(hQ p).2 hx,if_neg this,← List.getD_eq_getElem?_getD,ho.2 p hp]
    rw [e0] at r1 r2
    simp only [if_t hc,if_t hb,Int.toNat_natCast]
    cases b with
    | true =>
      rw [if_t rfl]
      refine step _ r2 (fun p => ⟨fun hx => ?_,fun hx => ?_⟩)
      ·simp only [cond_true,inns_succ]; rw [if_pos hx]
      ·simp only [cond_true,inns_succ]; rw [if_neg hx]
    | false =>
      rw [if_f (by simp)]
      refine step _ r1 (fun p => ⟨fun hx => ?_,fun hx => ?_⟩)
      ·simp only [cond_false,outs_succ]; rw [if_pos hx]
      ·simp only [cond_false,outs_succ]; rw [if_neg hx]
   ·obtain rfl:q=g.2.1.length:=by omega
    rw [if_f (by simp)]
    exact ⟨o,rfl,ho⟩
theorem e66 {g:Graph} (hg:GOk g) (k:Nat) (hk:1048576 < k) (b:Bool):∃ t,f66 k g b=some t∧t.length=g.1.length∧∀ p,p < g.1.length→t.getD p [] = (bif b then inns g g.2.1.length p else outs g g.2.1.length p):=by
 have h1:=hg.n1
 have h2:=hg.n2
 have c:(0:Int) ≤ (g.1.length:Int)∧Int.toNat (g.1.length:Int)*24≤140737488355328:=⟨by omega,by rw [Int.toNat_natCast]; omega⟩
 unfold f66
 rw [if_t c,Int.toNat_natCast]
 refine at_loop hg k b k 0 _ (Nat.zero_le _) (by omega) ⟨by simp,fun p hp => ?_⟩
 rw [List.getD_eq_getElem?_getD,List.getElem?_replicate]
 cases b <;> simp [hp,outs,inns]
def outN (g:Graph) (p:Nat):List Nat:=(List.range g.2.1.length).filter fun r => decide ((g.2.1.getD r dR).1 = (p:Int))
theorem outs_eq (g:Graph) (p:Nat):outs g g.2.1.length p = (outN g p).map fun (r:Nat) => (r:Int):=rfl
theorem castD (l:List Nat) (i:Nat):(l.map fun (r:Nat) => (r:Int)).getD i 0 = ((l.getD i 0:Nat):Int):=by
 simp only [List.getD_eq_getElem?_getD,List.getElem?_map]
 cases l[i]? <;> rfl
theorem turn_range (g:Graph) (e f:Int):-1≤turnOf g e f∧turnOf g e f≤20:=by
 unfold turnOf costOf
 split
 ·omega
 ·split
  ·omega
  ·split
   ·omega
   ·split <;> omega
def timeOf (g:Graph) (e:Nat):Int:=(g.2.1.getD e dR).2.2.2.1
theorem time_bd {g:Graph} (hg:GOk g) {e:Nat} (h:e < g.2.1.length):1≤timeOf g e∧timeOf g e≤1000000:=by
 have:=hg.road e h
 unfold timeOf
 simp only [okRoad,Bool.and_eq_true,decide_eq_true_eq] at this
 omega
def costN (g:Graph) (a b e:Nat):Int:=if turnOf g (a:Int) (b:Int) < 0 then -1 else turnOf g (a:Int) (b:Int)+timeOf g e
def dgF (g:Graph) (hg:GOk g) (s:Nat):DG where
 n:=g.2.1.length
 adj x:=outN g (g.2.1.getD x dR).2.1.toNat
 cost x e:=if e < g.2.1.length then costN g x e e else -1
 start e:=if e < g.2.1.length ∧ (g.2.1.getD e dR).1 = (s:Int) then some (timeOf g e) else none
 dl:=0
 C:=1000020
 hadj:=fun x hx e he => by simpa using (List.mem_filter.1 he).1
 hcost:=fun x e hx he => by
  have hl:e < g.2.1.length:=by simpa using (List.mem_filter.1 he).1
  have:=time_bd hg hl
  have:=turn_range g x e
  rw [if_pos hl]; unfold costN; split <;> omega
 hstart:=fun e v h => by
  by_cases hc:e < g.2.1.length ∧ (g.2.1.getD e dR).1 = (s:Int)
  ·rw [if_pos hc] at h
   have:=time_bd hg hc.1
   have:timeOf g e=v:=by simpa using h
   omega
  ·rw [if_neg hc] at h; cases h
 hdl:=.inl rfl
 hC:=by decide
theorem road_nat {g:Graph} {e:Nat} (h:e < g.2.1.length):roadIs g (e:Int)=true:=roadIs_iff.2 ⟨by omega,by omega⟩
theorem bnd_num {G:DG} (hC:G.C=1000020) (hn:G.n≤8000) {part:Nat→List Nat} {tm ct:List Int} {dn:List Bool} (h:Inv G part tm ct dn) {x:Nat} (hx:x < G.n):T tm x≤10000000000∧T ct x≤8001:=by
 obtain ⟨b1,b2⟩:=h.bnd x hx
 have:=cnt_le dn
 rw [h.l3] at this
 rw [hC] at b1
 omega
def Ends (g:Graph) (b:Bool) (t:List (List Int)):Prop:=t.length=g.1.length∧∀ p,p < g.1.length→t.getD p [] = (bif b then inns g g.2.1.length p else outs g g.2.1.length p)
theorem e75 (k:Nat) (x y:It):f75 k x y=some (lsB x y):=by
 unfold f75 lsB
 by_cases h1:x.1=y.1
 ·by_cases h2:x.2.1=y.2.1
  ·simp [h1,h2]
  ·simp [h1,h2]
 ·simp [h1]
theorem push_go (k:Nat) (x0:List It × Unit):∀ (m i:Nat) (xs:List It),Up xs i→i < m→xs.length≤4294967296 →
 ∃ ys,f70.l1 k x0 m (xs,(i:Int))=some (ys,x0.2)∧HP ys∧ys.length=xs.length∧∀ u,Has ys u↔Has xs u
 | 0,i,xs,_,h,_ => by omega
 | m+1,i,xs,hu,hm,hl => by
   have hi:=hu.lt
   have h2:((2:Int):Int)≠0:=by decide
   by_cases h0:0 < i
   ·have hq:IntKind.i64.wrap (Int.tdiv (IntKind.i64.wrap ((i:Int) - 1)) 2) = (((i - 1) / 2:Nat):Int):=by
     rw [wrap_in (n:=(i:Int) - 1) (by omega) (by omega),Int.tdiv_eq_ediv_of_nonneg (by omega),wrap_in (by omega) (by omega)]; omega
    have hp:(i - 1) / 2 < xs.length:=by omega
    have hc:decide ((i:Int) > 0)=true:=by simpa using h0
    have hb:(0:Int) ≤ (i:Int) ∧ (i:Int) < (xs.length:Int):=⟨by omega,by omega⟩
    have hb2:(0:Int) ≤ (((i - 1) / 2:Nat):Int) ∧ (((i - 1) / 2:Nat):Int) < (xs.length:Int):=⟨by omega,by omega⟩
    rw [f70.l1]
    simp only [hq,hc,e75,Option.bind_some,Int.toNat_natCast,List.length_set,if_t hb,if_t hb2,if_t h2,cond_true]
    rw [if_t (fun _ => hb),if_t (fun _ => h2),if_t (fun _ => hb2),if_t trivial,Option.bind_some]
    by_cases hls:ls (X xs i) (X xs ((i - 1) / 2))
    ·rw [if_t (show lsB (xs.getD i ((0:Int),((0:Int),(0:Int)))) (xs.getD ((i - 1) / 2) ((0:Int),((0:Int),(0:Int))))=true from lsB_iff.2 hls)]
     obtain ⟨ys,q1,q2,q3,q4⟩:=push_go k x0 m ((i - 1) / 2) (swp xs i ((i - 1) / 2)) (hu.step h0 hls) (by omega) (by rw [swp_len]; exact hl)
     exact ⟨ys,q1,q2,by rw [q3,swp_len],fun u => by rw [q4,swp_has hi hp]⟩
    ·rw [if_f (by rw [show lsB (xs.getD i ((0:Int),((0:Int),(0:Int)))) (xs.getD ((i - 1) / 2) ((0:Int),((0:Int),(0:Int))))=false from lsB_not.2 hls]; decide)]
     exact ⟨xs,rfl,hu.done (.inr hls),rfl,fun u => Iff.rfl⟩
   ·obtain rfl:i=0:=by omega
    have hc:decide ((((0:Nat):Int)) > 0)=false:=by simp
    rw [f70.l1]
    simp only [hc,Bool.false_eq_true,false_implies,if_true,if_false,Option.bind_some,cond_false]
    exact ⟨xs,rfl,hu.done (.inl rfl),rfl,fun u => Iff.rfl⟩
theorem has_app {xs:List It} {v u:It}:Has (xs ++ [v]) u↔Has xs u∨u=v:=by
 unfold Has
 constructor
 ·rintro ⟨j,hj,rfl⟩
  by_cases h:j < xs.length
  ·exact .inl ⟨j,h,by simp [X,List.getD_eq_getElem?_getD,List.getElem?_append_left h]⟩
  ·simp at hj
   obtain rfl:j=xs.length:=by omega
   right; simp [X,List.getD_eq_getElem?_getD]
 ·rintro (⟨j,hj,rfl⟩ | rfl)
  ·exact ⟨j,by simp; omega,by simp [X,List.getD_eq_getElem?_getD,List.getElem?_append_left hj]⟩
  ·exact ⟨xs.length,by simp,by simp [X,List.getD_eq_getElem?_getD]⟩
theorem push_ok (k:Nat) (hk:1099511627776 < k) {xs:List It} {v:It} (h:HP xs) (hl:xs.length≤1073741824) :
 ∃ ys,f70 k (xs,()) v=some (ys,())∧HP ys∧ys.length=xs.length+1∧∀ u,Has ys u↔Has xs u∨u=v:=by
 obtain ⟨ys,q1,q2,q3,q4⟩:=push_go k (xs,()) k xs.length (xs ++ [v]) (Up.new h v) (by omega) (by simp; omega)
 refine ⟨ys,?_,q2,by rw [q3]; simp,fun u => by rw [q4,has_app]⟩
 unfold f70
 rw [if_t (by simp; omega)]
 have e:IntKind.i64.wrap ((List.length (List.append xs [v]):Int) - 1) = (xs.length:Int):=by
  rw [show List.append xs [v]=xs ++ [v] from rfl,List.length_append,List.length_singleton]
  rw [wrap_in (by omega) (by omega)]; omega
 rw [show ((xs,()):List It × Unit).1=xs from rfl,e]
 exact q1
theorem pop_go (k:Nat) (x0:List It × Unit) (n:Nat) (hn:x0.1.length=n+1) (hn2:n≤4294967296):∀ (d i m:Nat) (xs:List It),xs.length=n→Down xs i → (i < n ∨ (n=0∧i=0))→n - i≤d→d < m →
 ∃ ys,f71.l56 k x0 (f71.j55 k x0) m (xs,(i:Int))=f71.j55 k x0 ys∧HP ys∧ys.length=n∧∀ u,Has ys u↔Has xs u:=by
 intro d
 induction d with
 | zero =>
   intro i m xs hx hd hi hdn hm
   obtain ⟨m,rfl⟩:∃ q,m=q+1:=⟨m - 1,by omega⟩
   have hw1:IntKind.i64.wrap (IntKind.i64.wrap ((2:Int) * (i:Int))+1) = ((2*i+1:Nat):Int):=by
    rw [wrap_in (n:=(2:Int) * (i:Int)) (by omega) (by omega),wrap_in (by omega) (by omega)]; omega
   have hw3:IntKind.i64.wrap ((x0.1.length:Int) - 1) = (n:Int):=by rw [hn,wrap_in (by omega) (by omega)]; omega
   rw [f71.l56]
   simp only [hw1,hw3]
   rw [if_t (by simp; omega)]
   exact ⟨xs,rfl,hd.done (fun j h0 hj hp => by omega),hx,fun _ => Iff.rfl⟩
 | succ d ih =>
   intro i m xs hx hd hi hdn hm
   obtain ⟨m,rfl⟩:∃ q,m=q+1:=⟨m - 1,by omega⟩
   have hw1:IntKind.i64.wrap (IntKind.i64.wrap ((2:Int) * (i:Int))+1) = ((2*i+1:Nat):Int):=by
    rw [wrap_in (n:=(2:Int) * (i:Int)) (by omega) (by omega),wrap_in (by omega) (by omega)]; omega
   have hw2:IntKind.i64.wrap (((2*i+1:Nat):Int)+1) = ((2*i+2:Nat):Int):=by
    rw [wrap_in (by omega) (by omega)]; omega
   have hw3:IntKind.i64.wrap ((x0.1.length:Int) - 1) = (n:Int):=by rw [hn,wrap_in (by omega) (by omega)]; omega
   have child:∀ c:Nat,c < n→0 < c → (c - 1) / 2=i → (∀ j,0 < j→j < xs.length → (j - 1) / 2=i→¬ ls (X xs j) (X xs c)) →
    ∃ ys,f71.j97 k xs (i:Int) (f71.j55 k x0) ((f71.l56 k x0 (f71.j55 k x0)) m) (c:Int)=f71.j55 k x0 ys∧HP ys∧ys.length=n∧∀ u,Has ys u↔Has xs u:=by
    intro c hc hc0 hci hmin
    have b1:(0:Int) ≤ (c:Int) ∧ (c:Int) < (xs.length:Int):=⟨by omega,by omega⟩
    have b2:(0:Int) ≤ (i:Int) ∧ (i:Int) < (xs.length:Int):=⟨by omega,by omega⟩
    unfold f71.j97
    simp only [if_t b1,if_t b2,e75,Option.bind_some,Int.toNat_natCast,List.length_set]
    by_cases hls:ls (X xs c) (X xs i)
    ·rw [if_f (by rw [show lsB (xs.getD c ((0:Int),((0:Int),(0:Int)))) (xs.getD i ((0:Int),((0:Int),(0:Int))))=true from lsB_iff.2 hls]; decide)]
     obtain ⟨ys,q1,q2,q3,q4⟩:=ih c m (swp xs i c) (by rw [swp_len]; exact hx) (hd.step hc0 (by omega) hci hmin hls) (by omega) (by omega) (by omega)
     exact ⟨ys,q1,q2,q3,fun u => by rw [q4,swp_has (by omega) (by omega)]⟩
    ·rw [if_t (by rw [show lsB (xs.getD c ((0:Int),((0:Int),(0:Int)))) (xs.getD i ((0:Int),((0:Int),(0:Int))))=false from lsB_not.2 hls]; rfl)]
     exact ⟨xs,rfl,hd.done (fun j h0 hj hp => ls_trans hls (hmin j h0 hj hp)),hx,fun _ => Iff.rfl⟩
   rw [f71.l56]
   simp only [hw1,hw2,hw3]
   by_cases hc:n≤2*i+1
   ·rw [if_t (by simp; omega)]
    exact ⟨xs,rfl,hd.done (fun j h0 hj hp => by omega),hx,fun _ => Iff.rfl⟩
   ·rw [if_f (by simp; omega)]
    by_cases hc2:2*i+2 < n
    ·have hd1:decide ((((2*i+2:Nat):Int)) < (n:Int))=true:=by simp; omega
     simp only [hd1,Int.toNat_natCast,e75]
     rw [if_t (fun _ => ⟨by omega,by omega⟩),if_t (fun _ => ⟨by omega,by omega⟩),if_t trivial,Option.bind_some,cond_true]
     by_cases hls:ls (X xs (2*i+2)) (X xs (2*i+1))
     ·rw [if_t (by exact lsB_iff.2 hls)]
      refine child (2*i+2) hc2 (by omega) (by omega) fun j h0 hj hp => ?_
      have:j=2*i+1∨j=2*i+2:=by omega
      rcases this with rfl | rfl
      ·exact ls_asym hls
      ·exact fun h => ls_asym h h
     ·rw [if_f (by rw [show lsB (xs.getD (2*i+2) ((0:Int),((0:Int),(0:Int)))) (xs.getD (2*i+1) ((0:Int),((0:Int),(0:Int))))=false from lsB_not.2 hls]; decide)]
      refine child (2*i+1) (by omega) (by omega) (by omega) fun j h0 hj hp => ?_
      have:j=2*i+1∨j=2*i+2:=by omega
      rcases this with rfl | rfl
      ·exact fun h => ls_asym h h
      ·exact hls
    ·have hd1:decide ((((2*i+2:Nat):Int)) < (n:Int))=false:=by simp; omega
     simp only [hd1,Bool.false_eq_true,false_implies,if_true,if_false,Option.bind_some,cond_false]
     refine child (2*i+1) (by omega) (by omega) (by omega) fun j h0 hj hp => ?_
     have:j=2*i+1:=by omega
     subst this
     exact fun h => ls_asym h h
theorem pop_ok (k:Nat) (hk:1099511627776 < k) {xs:List It} (h:HP xs) (h0:0 < xs.length) (hl:xs.length≤1073741824) :
 ∃ ys,f71 k (xs,())=some (X xs 0,(ys,()))∧HP ys∧ys.length=xs.length - 1 ∧ (∀ u,Has ys u→Has xs u) ∧ (∀ u,Has xs u→u=X xs 0∨Has ys u)∧∀ u,Has xs u→¬ ls u (X xs 0):=by
 have hw:IntKind.i64.wrap ((xs.length:Int) - 1) = ((xs.length - 1:Nat):Int):=by rw [wrap_in (by omega) (by omega)]; omega
 obtain ⟨zs,hz⟩:∃ zs,zs = (xs.set 0 (xs.getD (xs.length - 1) itD)).take (xs.length - 1):=⟨_,rfl⟩
 have zl:zs.length=xs.length - 1:=by rw [hz]; simp
 have za:∀ j,j < xs.length - 1→X zs j=if j=0 then X xs (xs.length - 1) else X xs j:=fun j hj => by
  show zs.getD j itD=_
  rw [hz,getD_take hj,getD_set]
  by_cases hj0:j=0
  ·rw [if_pos ⟨hj0.symm,h0⟩,if_pos hj0]
  ·rw [if_neg (fun e => hj0 e.1.symm),if_neg hj0]
 have hdn:Down zs 0:=⟨fun j hj0 hj hne => by
  rw [zl] at hj
  rw [za j hj,za _ (by omega),if_neg (by omega),if_neg hne]
  exact h j hj0 (by omega),fun j _ _ _ h => by omega⟩
 obtain ⟨ys,q1,q2,q3,q4⟩:=pop_go k (xs,()) (xs.length - 1) (by show xs.length=_; omega) (by omega) (xs.length - 1) 0 k zs zl hdn (by omega) (by omega) (by omega)
 have hasz:∀ u,Has zs u→Has xs u:=by
  rintro u ⟨j,hj,rfl⟩
  rw [zl] at hj
  rw [za j hj]
  split
  ·exact ⟨_,by omega,rfl⟩
  ·exact ⟨j,by omega,rfl⟩
 refine ⟨ys,?_,q2,q3,fun u hu => hasz u ((q4 u).1 hu),fun u hu => ?_,fun u ⟨j,hj,e⟩ => by rw [← e]; exact h.root j j (Nat.le_refl _) hj⟩
 ·unfold f71
  simp only [hw,Int.toNat_natCast,List.length_set]
  rw [if_t ⟨by omega,by omega⟩,if_t ⟨by omega,by omega⟩,if_t ⟨by omega,by omega⟩,if_t ⟨by omega,by omega⟩]
  rw [hz] at q1
  exact q1
 ·obtain ⟨j,hj,rfl⟩:=hu
  by_cases hj0:j=0
  ·exact .inl (by rw [hj0])
  ·right; rw [q4]
   by_cases hjl:j=xs.length - 1
   ·exact ⟨0,by omega,by rw [za 0 (by omega),if_pos rfl,hjl]⟩
   ·exact ⟨j,by omega,by rw [za j (by omega),if_neg hj0]⟩
def Zr (ct:List Int):Prop:=∀ e,T ct e=0
theorem Zr.set {ct:List Int} (h:Zr ct) (x e:Nat):Zr (ct.set e (T ct x+0)):=fun y => by
 show (ct.set e (T ct x+0)).getD y 0=0
 rw [getD_set,h x]; split
 ·rfl
 ·exact h y
theorem mem_out {g:Graph} {s e:Nat}:e ∈ outN g s↔e < g.2.1.length ∧ (g.2.1.getD e dR).1 = (s:Int):=by
 unfold outN; rw [List.mem_filter]; simp
theorem out_nodup (g:Graph) (s:Nat):(outN g s).Nodup:=List.Nodup.sublist List.filter_sublist List.nodup_range
theorem relax60 {g:Graph} (hg:GOk g) (k:Nat) (hk:1048576 < k) (s:Nat) {x:Nat} (hx:x < g.2.1.length) {es:List (List Int)} (hes:Ends g false es) (op0:List Int) (kk:Nat) (hop:op0.getD kk 0 = (x:Int)) (dn0:List Bool) (hdl:dn0.length=g.2.1.length) (out:List Int)
 (q:(List Int × List Int × List Bool × List Int)→Option (List Int)) (tm ct op:List Int) (hI:Inv (dgF g hg s) (partX (dgF g hg s) x []) tm ct (dn0.set x true)) (hR:Row (dgF g hg s) tm (dn0.set x true) op) (hc:Cur (dgF g hg s) tm ct (dn0.set x true) x) (hz:Zr ct) :
 ∃ tm' ct' op',f60.l1668 k es g op0 (kk:Int) dn0 out q k (tm,op,(0:Int))=q (out,tm',dn0.set x true,op')∧Inv (dgF g hg s) (dgF g hg s).adj tm' ct' (dn0.set x true)∧Row (dgF g hg s) tm' (dn0.set x true) op'∧Zr ct'∧∀ y,D (dn0.set x true) y=true→T tm' y=T tm y:=by
 have n1:=hg.n1
 have n2:=hg.n2
 have hxr:=road_nat hx
 have hend:=road_ends hg hxr
 have hadj:es.getD (g.2.1.getD x dR).2.1.toNat [] = ((dgF g hg s).adj x).map fun (r:Nat) => (r:Int):=by
  have h1:(roadAt g (x:Int)).2.1 = (g.2.1.getD x dR).2.1:=by unfold roadAt; rw [Int.toNat_natCast]
  rw [h1] at hend
  rw [hes.2 _ (by omega)]
  exact outs_eq g _
 have hlen:((dgF g hg s).adj x).length≤g.2.1.length:=Nat.le_trans (List.length_filter_le _ _) (by simp)
 obtain ⟨tm',ct',op',q1,q2,q3,q4,q5⟩:=relaxRow (G:=dgF g hg s) (P:=Zr) hx (dn:=dn0.set x true)
  (L:=fun m tm ct op i => f60.l1668 k es g op0 (kk:Int) dn0 out q m (tm,op,(i:Int))) (Q:=fun tm ct op => q (out,tm,dn0.set x true,op))
  (fun m tm ct op i hi hI hR hz hc => by
   have he:=getD_in' hi
   have hl1:=hI.l1; have hl2:=hI.l2
   have hai:((dgF g hg s).adj x).getD i 0 < g.2.1.length:=(dgF g hg s).hadj x hx _ he
   have hci:decide ((i:Int) < ((((dgF g hg s).adj x).map fun (r:Nat) => (r:Int)).length:Int))=true:=by simpa using hi
   have hbi:(0:Int) ≤ (i:Int) ∧ (i:Int) < ((((dgF g hg s).adj x).map fun (r:Nat) => (r:Int)).length:Int):=⟨by omega,by simpa using hi⟩
   have hb1:=bnd_num (G:=dgF g hg s) rfl n2 hI hx
   have hb0:=hI.pos x hx (hI.dfin x hx hc.don)
   have hcv:(dgF g hg s).cost x (((dgF g hg s).adj x).getD i 0)=if ((dgF g hg s).adj x).getD i 0 < g.2.1.length then costN g x (((dgF g hg s).adj x).getD i 0) (((dgF g hg s).adj x).getD i 0) else -1:=rfl
   have hcd:=castD ((dgF g hg s).adj x) i
   have hol:op.length≤g.2.1.length:=hR.len
   generalize ((dgF g hg s).adj x).getD i 0=e at *
   rw [if_pos hai] at hcv
   have htm:=time_bd hg hai
   have htr:=turn_range g (x:Int) (e:Int)
   have e67':=e67 hg k hk hxr (road_nat hai)
   have hdl':(dgF g hg s).dl=0:=rfl
   have tl1:tm.length=g.2.1.length:=hl1
   have be:(0:Int) ≤ (e:Int) ∧ (e:Int) < (g.2.1.length:Int):=⟨by omega,by omega⟩
   have bx:(0:Int) ≤ (x:Int) ∧ (x:Int) < (g.2.1.length:Int):=⟨by omega,by omega⟩
   have w0:IntKind.i64.wrap ((i:Int)+1) = ((i+1:Nat):Int):=wrap_s (by have:i < ((dgF g hg s).adj x).length:=hi; omega)
   have w1:IntKind.i64.wrap (T tm x+turnOf g (x:Int) (e:Int))=T tm x+turnOf g (x:Int) (e:Int):=wrap_in (by omega) (by omega)
   have w2:IntKind.i64.wrap (T tm x+turnOf g (x:Int) (e:Int)+timeOf g e)=T tm x+turnOf g (x:Int) (e:Int)+timeOf g e:=wrap_in (by omega) (by omega)
   have hgt:(g.2.1.getD e dR).2.2.2.1=timeOf g e:=rfl
   have key:f60.l1668 k es g op0 (kk:Int) dn0 out q (m+1) (tm,op,(i:Int)) =
    if D (dn0.set x true) e=true∨turnOf g (x:Int) (e:Int) < 0 then f60.l1668 k es g op0 (kk:Int) dn0 out q m (tm,op,((i+1:Nat):Int)) else
    if T tm e < 0 then f60.l1668 k es g op0 (kk:Int) dn0 out q m (tm.set e (T tm x+turnOf g (x:Int) (e:Int)+timeOf g e),op ++ [(e:Int)],((i+1:Nat):Int)) else
    if T tm e≤T tm x+turnOf g (x:Int) (e:Int)+timeOf g e then f60.l1668 k es g op0 (kk:Int) dn0 out q m (tm,op,((i+1:Nat):Int)) else
    f60.l1668 k es g op0 (kk:Int) dn0 out q m (tm.set e (T tm x+turnOf g (x:Int) (e:Int)+timeOf g e),op,((i+1:Nat):Int)):=by
    rw [f60.l1668]
    simp only [Int.toNat_natCast,hop,hadj,hcd,e67',Option.bind_some,f60.j1817,f60.j1825,w0,List.length_set,hdl,tl1,hgt,w1,w2,if_t hci,if_t hbi,if_t be,if_t bx]
    by_cases h1:D (dn0.set x true) e=true∨turnOf g (x:Int) (e:Int) < 0
    ·rw [if_t,if_pos h1]
     rcases h1 with h1 | h1
     ·rw [show (dn0.set x true).getD e false=true from h1]; rfl
     ·rw [decide_eq_true h1]; cases (dn0.set x true).getD e false <;> rfl
    ·rw [if_f (fun hx => h1 (by
      cases hd:(dn0.set x true).getD e false with
      | true => exact .inl hd
      | false => rw [hd] at hx; exact .inr (by simpa using hx))),if_neg h1]
     by_cases h2:T tm e < 0
     ·rw [if_t (by simpa using h2),if_t (by simp; omega),if_pos h2]
     ·rw [if_f (by simpa using h2),if_neg h2]
      by_cases h3:T tm e≤T tm x+turnOf g (x:Int) (e:Int)+timeOf g e
      ·rw [if_t (decide_eq_true (show T tm x+turnOf g (x:Int) (e:Int)+timeOf g e ≥ T tm e from h3)),if_pos h3]
      ·rw [if_f (by rw [decide_eq_true_eq]; exact h3),if_neg h3]
   have hcn:costN g x e e < 0↔turnOf g (x:Int) (e:Int) < 0:=by unfold costN; split <;> omega
   have hcp:¬ turnOf g (x:Int) (e:Int) < 0→costN g x e e=turnOf g (x:Int) (e:Int)+timeOf g e:=fun h => by unfold costN; rw [if_neg h]
   rw [hcv,hdl',hz e,hz x]
   have hLe:∀ a b:Int,Le a 0 b (0+0)↔a≤b:=fun a b => by unfold Le; omega
   rw [hLe]
   refine ⟨fun h => ?_,fun hd h0 h1 => ?_,fun hd h0 h1 h2 => ?_,fun hd h0 h1 h2 => ?_⟩
   ·show f60.l1668 k es g op0 (kk:Int) dn0 out q (m+1) (tm,op,(i:Int))=_
    rw [key,if_pos (by rw [hcn] at h; exact h)]
   ·have ht:¬ turnOf g (x:Int) (e:Int) < 0:=by rw [← hcn]; omega
    show f60.l1668 k es g op0 (kk:Int) dn0 out q (m+1) (tm,op,(i:Int))=_
    rw [key,if_neg (by rw [hd]; simpa using ht),if_pos h1,hcp ht,show T tm x + (turnOf g (x:Int) (e:Int)+timeOf g e)=T tm x+turnOf g (x:Int) (e:Int)+timeOf g e by omega]
   ·have ht:¬ turnOf g (x:Int) (e:Int) < 0:=by rw [← hcn]; omega
    show f60.l1668 k es g op0 (kk:Int) dn0 out q (m+1) (tm,op,(i:Int))=_
    rw [hcp ht] at h2
    rw [key,if_neg (by rw [hd]; simpa using ht),if_neg (by omega),if_pos (by omega)]
   ·have ht:¬ turnOf g (x:Int) (e:Int) < 0:=by rw [← hcn]; omega
    show f60.l1668 k es g op0 (kk:Int) dn0 out q (m+1) (tm,op,(i:Int))=_
    rw [hcp ht] at h2
    rw [key,if_neg (by rw [hd]; simpa using ht),if_neg (by omega),if_neg (by omega),hcp ht,show T tm x + (turnOf g (x:Int) (e:Int)+timeOf g e)=T tm x+turnOf g (x:Int) (e:Int)+timeOf g e by omega])
  (fun ct e h => h.set x e)
  (fun m tm ct op _ _ => by
   show f60.l1668 k es g op0 (kk:Int) dn0 out q (m+1) (tm,op,(((dgF g hg s).adj x).length:Int))=_
   rw [f60.l1668]
   simp only [Int.toNat_natCast,hop,hadj,List.length_map]
   rw [if_f (by simp)])
  _ 0 k tm ct op (Nat.zero_add _) (by omega) (by rw [List.take_zero]; exact hI) hR hz hc
 exact ⟨tm',ct',op',q1,q2,q3,q4,q5⟩
def upd (out:List Int) (p:Nat) (v:Int):List Int:=if T out p < 0∨v < T out p then out.set p v else out
theorem min60 {g:Graph} (hg:GOk g) (k:Nat) (hk:1048576 < k) {es:List (List Int)} (hel:es.length=g.1.length) (out op tm:List Int) (dn:List Bool) (h0':out.length=g.1.length) (h1:tm.length=g.2.1.length) (h3:dn.length=g.2.1.length)
 (hop:∀ i,i < op.length→∃ e:Nat,op.getD i 0 = (e:Int)∧e < g.2.1.length) (h0:0 < op.length) (hl:op.length≤g.2.1.length) (q:(List Int × List Int × List Bool × List Int)→Option (List Int)) :
 ∃ kk x:Nat,kk < op.length∧op.getD kk 0 = (x:Int)∧x < g.2.1.length∧f60.l1624 k op tm dn g out es q k ((0:Int),(1:Int))=f60.l1668 k es g op (kk:Int) dn (upd out (g.2.1.getD x dR).2.1.toNat (T tm x)) q k (tm,remK op kk,(0:Int)) ∧
   ∀ j,j < op.length→¬ (T tm (op.getD j 0).toNat < T tm (op.getD kk 0).toNat ∨ (T tm (op.getD j 0).toNat=T tm (op.getD kk 0).toNat ∧ (0:Int) < 0)):=by
 have n2:=hg.n2
 obtain ⟨kk,q1,q2,q3⟩:=minRow (n:=op.length) (a:=fun j => T tm (op.getD j 0).toNat) (b:=fun j => 0)
  (L:=fun m kk i => f60.l1624 k op tm dn g out es q m ((kk:Int),(i:Int))) (Q:=fun kk => f60.l1668 k es g op (kk:Int) dn (upd out (g.2.1.getD (op.getD kk 0).toNat dR).2.1.toNat (T tm (op.getD kk 0).toNat)) q k (tm,remK op kk,(0:Int)))
  (fun m kk i hki hi => by
   obtain ⟨e,e1,e2⟩:=hop i hi
   obtain ⟨f,f1,f2⟩:=hop kk (by omega)
   have bi:(0:Int) ≤ (i:Int) ∧ (i:Int) < (op.length:Int):=⟨by omega,by omega⟩
   have bk:(0:Int) ≤ (kk:Int) ∧ (kk:Int) < (op.length:Int):=⟨by omega,by omega⟩
   have be:(0:Int) ≤ (e:Int) ∧ (e:Int) < (g.2.1.length:Int):=⟨by omega,by omega⟩
   have bf:(0:Int) ≤ (f:Int) ∧ (f:Int) < (g.2.1.length:Int):=⟨by omega,by omega⟩
   have hci:decide ((i:Int) < (op.length:Int))=true:=by simpa using hi
   have w0:IntKind.i64.wrap ((i:Int)+1) = ((i+1:Nat):Int):=wrap_s (by omega)
   have key:f60.l1624 k op tm dn g out es q (m+1) ((kk:Int),(i:Int))=if T tm e < T tm f ∨ (T tm e=T tm f ∧ (0:Int) < 0) then f60.l1624 k op tm dn g out es q m ((i:Int),((i+1:Nat):Int)) else f60.l1624 k op tm dn g out es q m ((kk:Int),((i+1:Nat):Int)):=by
    rw [f60.l1624]
    simp only [Int.toNat_natCast,e1,f1,h1,if_t hci,if_t bi,if_t bk,if_t be,if_t bf,f60.j1658,w0]
    by_cases c1:T tm e < T tm f
    ·rw [if_t (show decide (tm.getD e 0 < tm.getD f 0)=true from decide_eq_true c1),if_pos (.inl c1)]
    ·rw [if_f (show ¬ decide (tm.getD e 0 < tm.getD f 0)=true by rw [decide_eq_true_eq]; exact c1),if_neg (by omega)]
   show (_→f60.l1624 k op tm dn g out es q (m+1) ((kk:Int),(i:Int))=f60.l1624 k op tm dn g out es q m ((i:Int),((i+1:Nat):Int))) ∧ (_→f60.l1624 k op tm dn g out es q (m+1) ((kk:Int),(i:Int))=f60.l1624 k op tm dn g out es q m ((kk:Int),((i+1:Nat):Int)))
   rw [e1,f1,Int.toNat_natCast,Int.toNat_natCast,key]
   exact ⟨fun h => if_pos h,fun h => if_neg h⟩)
  (fun m kk hkk => by
   obtain ⟨f,f1,f2⟩:=hop kk hkk
   have bk:(0:Int) ≤ (kk:Int) ∧ (kk:Int) < (op.length:Int):=⟨by omega,by omega⟩
   have bf:(0:Int) ≤ (f:Int) ∧ (f:Int) < (g.2.1.length:Int):=⟨by omega,by omega⟩
   have w1:IntKind.i64.wrap ((op.length:Int) - 1) = ((op.length - 1:Nat):Int):=by rw [wrap_in (by omega) (by omega)]; omega
   have hend:=road_ends hg (road_nat f2)
   have hfr:(roadAt g (f:Int)).2.1 = (g.2.1.getD f dR).2.1:=by unfold roadAt; rw [Int.toNat_natCast]
   rw [hfr] at hend
   have hend:=hend.2
   show f60.l1624 k op tm dn g out es q (m+1) ((kk:Int),(op.length:Int))=_
   rw [f60.l1624,if_f (by simp)]
   simp only [Int.toNat_natCast,f1,h1,h3,h0',List.length_set,w1,if_t bk,if_t bf,f60.j1667,hel]
   rw [if_t ⟨by omega,by omega⟩,if_t ⟨by omega,by omega⟩,if_t hend,if_t (fun _ => bf),if_t (fun _ => hend),Option.bind_some]
   unfold upd
   by_cases c1:T out (g.2.1.getD f dR).2.1.toNat < 0
   ·rw [if_t (by rw [show decide (out.getD (g.2.1.getD f dR).2.1.toNat 0 < 0)=true from decide_eq_true c1]; rfl),if_t hend,if_t hend,if_pos (.inl c1)]
    rfl
   ·rw [show decide (out.getD (g.2.1.getD f dR).2.1.toNat 0 < 0)=false from decide_eq_false c1]
    by_cases c2:T tm f < T out (g.2.1.getD f dR).2.1.toNat
    ·rw [if_t (by rw [show decide (tm.getD f 0 < out.getD (g.2.1.getD f dR).2.1.toNat 0)=true from decide_eq_true c2]; rfl),if_t hend,if_t hend,if_pos (.inr c2)]
     rfl
    ·rw [if_f (by rw [show decide (tm.getD f 0 < out.getD (g.2.1.getD f dR).2.1.toNat 0)=false from decide_eq_false c2]; simp),if_t hend,if_neg (by omega)]
     rfl)
  (op.length - 1) 0 1 k (by omega) (by omega) (by omega) (fun j hj => by
   obtain rfl:j=0:=by omega
   intro h; omega)
 obtain ⟨x,x1,x2⟩:=hop kk q1
 rw [x1,Int.toNat_natCast] at q2
 exact ⟨kk,x,q1,x1,x2,q2,q3⟩
def Outs (g:Graph) (s:Nat) (S:Nat→Prop) (tm out:List Int):Prop :=
 out.length=g.1.length∧T out s=0∧∀ p,p < g.1.length→p≠s→MinAt (fun r => r < g.2.1.length∧S r ∧ (g.2.1.getD r dR).2.1 = (p:Int)) (T tm) (T out p)
theorem Outs.uniq {g:Graph} {s:Nat} (hs:s < g.1.length) {S S':Nat→Prop} {tm tm' out out':List Int} (h:Outs g s S tm out) (h':Outs g s S' tm' out') (hS:∀ r,r < g.2.1.length → (S' r↔S r)) (ht:∀ r,r < g.2.1.length→S r→T tm' r=T tm r):out=out':=by
 refine ext_getD (d:=0) (by rw [h.1,h'.1]) fun p hp => ?_
 rw [h.1] at hp
 by_cases hps:p=s
 ·subst hps; exact h.2.1.trans h'.2.1.symm
 ·refine MinAt.uniq (MinAt.congr (h.2.2 p hp hps) (fun r => ?_) (fun r hr => ht r hr.1 hr.2.1)) (h'.2.2 p hp hps)
  constructor
  ·rintro ⟨a,b,c⟩; exact ⟨a,(hS r a).1 b,c⟩
  ·rintro ⟨a,b,c⟩; exact ⟨a,(hS r a).2 b,c⟩
theorem run60 {g:Graph} (hg:GOk g) (k:Nat) (hk:1048576 < k) (s:Nat) (hs:s < g.1.length) {es:List (List Int)} (hes:Ends g false es) (out tm ct op:List Int) (hz:Zr ct)
 (hI:Inv (dgF g hg s) (dgF g hg s).adj tm ct (List.replicate g.2.1.length false)) (hR:Row (dgF g hg s) tm (List.replicate g.2.1.length false) op) (hO:Outs g s (fun _ => False) tm out) :
 ∃ out' tm' ct',f60.l1028 k g es k (out,tm,List.replicate g.2.1.length false,op)=some out'∧Final (dgF g hg s) tm' ct'∧Zr ct'∧Outs g s (fun r => 0≤T tm' r) tm' out':=by
 have n2:=hg.n2
 obtain ⟨out',tm',ct',dn',q1,q2,q3,q4,q5,q6⟩:=rowRun (G:=dgF g hg s) (P:=Zr) (σ:=List Int) (K:=fun out tm dn => Outs g s (fun r => D dn r=true) tm out) (L:=fun m out tm ct dn op => f60.l1028 k g es m (out,tm,dn,op)) (F:=fun out tm ct => some out)
  (fun m out tm ct dn op hI hR hz hK h0 => by
   obtain ⟨kk,x,c1,c2,c3,c4,c5⟩:=min60 hg k hk hes.1 out op tm dn hK.1 hI.l1 hI.l3 (fun i hi => by obtain ⟨e,e1,e2,_⟩:=hR.in_ hi; exact ⟨e,e1,e2⟩) h0 hR.len (f60.l1028 k g es m)
   obtain ⟨d1,d2,d3,d4,d5⟩:=rowMark hI hR c1 c2 (fun j hj => by rw [hz,hz]; exact c5 j hj)
   obtain ⟨tm',ct',op',r1,r2,r3,r4,r5⟩:=relax60 hg k hk s c3 hes op kk c2 dn hI.l3 (upd out (g.2.1.getD x dR).2.1.toNat (T tm x)) (f60.l1028 k g es m) tm ct (remK op kk) d3 d4 d5 hz
   refine ⟨x,upd out (g.2.1.getD x dR).2.1.toNat (T tm x),tm',ct',op',d1,d2,?_,r2,r3,r4,?_⟩
   ·show f60.l1028 k g es (m+1) (out,tm,dn,op)=_
    rw [f60.l1028,if_t (by simp; omega),c4,r1]
   ·have hend:=(road_ends hg (road_nat c3)).2
    rw [show (roadAt g (x:Int)).2.1 = (g.2.1.getD x dR).2.1 by unfold roadAt; rw [Int.toNat_natCast]] at hend
    have hDx:D (dn.set x true) x=true:=d5.don
    have hDo:∀ r,x≠r→D (dn.set x true) r=D dn r:=fun r h => getD_set_other h _ _
    have hpx:=hI.pos x d1 (by have:=d3.dfin x d1 hDx; exact this)
    obtain ⟨k1,k2,k3⟩:=hK
    have hlen:(upd out (g.2.1.getD x dR).2.1.toNat (T tm x)).length=g.1.length:=by unfold upd; split <;> simp [k1]
    refine ⟨hlen,?_,fun p hp hps => ?_⟩
    ·unfold upd
     by_cases hts:(g.2.1.getD x dR).2.1.toNat=s
     ·rw [hts,if_neg (by rw [k2]; omega)]; exact k2
     ·split
      ·show (out.set _ _).getD s 0=0
       rw [getD_set_other hts]; exact k2
      ·exact k2
    ·have hold:=k3 p hp hps
     by_cases hto:(g.2.1.getD x dR).2.1.toNat=p
     ·have e1:T (upd out (g.2.1.getD x dR).2.1.toNat (T tm x)) p=if T out p < 0∨T tm x < T out p then T tm x else T out p:=by
       rw [hto]; unfold upd; split
       ·exact getD_set_same (by rw [k1]; exact hp) _ _
       ·rfl
      rw [e1]
      refine MinAt.congr (MinAt.add hold (x:=x) (S':=fun r => (r < g.2.1.length∧D dn r=true ∧ (g.2.1.getD r dR).2.1 = (p:Int))∨r=x) (fun r => Iff.rfl) (fun r hr => hI.dfin r hr.1 hr.2.1)) (fun r => ?_) (fun r hr => ?_)
      ·by_cases hrx:x=r
       ·subst hrx; exact ⟨fun _ => .inr rfl,fun _ => ⟨c3,hDx,by omega⟩⟩
       ·dsimp only; rw [hDo r hrx]; exact ⟨fun h => .inl h,fun h => h.resolve_right (fun h => hrx h.symm)⟩
      ·refine r5 r ?_
       rcases hr with hr | hr
       ·by_cases hrx:x=r
        ·rw [← hrx]; exact hDx
        ·rw [hDo r hrx]; exact hr.2.1
       ·rw [hr]; exact hDx
     ·have e1:T (upd out (g.2.1.getD x dR).2.1.toNat (T tm x)) p=T out p:=by
       unfold upd; split
       ·exact getD_set_other hto _ _
       ·rfl
      rw [e1]
      refine MinAt.congr hold (fun r => ?_) (fun r hr => ?_)
      ·by_cases hrx:x=r
       ·subst hrx
        constructor
        ·rintro ⟨a,b,c⟩; exact absurd (by omega) hto
        ·rintro ⟨a,b,c⟩; exact absurd (by omega) hto
       ·dsimp only; rw [hDo r hrx]
      ·refine r5 r ?_
       by_cases hrx:x=r
       ·rw [← hrx]; exact hDx
       ·rw [hDo r hrx]; exact hr.2.1)
  (fun m out tm ct dn op h0 => by
   show f60.l1028 k g es (m+1) (out,tm,dn,op)=_
   rw [f60.l1028,if_f (by simp [h0])])
  g.2.1.length k out tm ct _ op (by show g.2.1.length - _≤_; omega) (by omega) hI hR hz ⟨hO.1,hO.2.1,fun p hp hps => MinAt.congr (hO.2.2 p hp hps) (fun r => by dsimp only; rw [D_rep]; simp) (fun _ _ => rfl)⟩
 refine ⟨out',tm',ct',q1,q2,q3,q4.1,q4.2.1,fun p hp hps => MinAt.congr (q4.2.2 p hp hps) (fun r => ?_) (fun _ _ => rfl)⟩
 constructor
 ·rintro ⟨a,b,c⟩; exact ⟨a,(q6 r a).1 b,c⟩
 ·rintro ⟨a,b,c⟩; exact ⟨a,(q6 r a).2 b,c⟩
theorem zr_rep (n:Nat):Zr (List.replicate n 0):=fun e => by
 show (List.replicate n (0:Int)).getD e 0=0
 rw [List.getD_eq_getElem?_getD,List.getElem?_replicate]; split <;> rfl
theorem cast_mem {l:List Nat} {e:Nat}:(e:Int) ∈ (l.map fun (r:Nat) => (r:Int))↔e ∈ l:=by
 rw [List.mem_map]
 exact ⟨fun ⟨a,h1,h2⟩ => by obtain rfl:a=e:=by omega
                            exact h1,fun h => ⟨e,h,rfl⟩⟩
theorem nd_take {l:List Nat} (h:l.Nodup) {i:Nat} (hi:i < l.length):l.getD i 0 ∉ l.take i:=by
 have h1:(l.take (i+1)).Nodup:=List.Nodup.sublist (List.take_sublist _ _) h
 rw [take_snoc hi,List.nodup_append] at h1
 exact fun hm => h1.2.2 _ hm _ (List.mem_singleton.2 rfl) rfl
theorem nd_cast:∀ {l:List Nat},l.Nodup→∀ i,i≤l.length→Nd ((l.take i).map fun (r:Nat) => (r:Int))
 | l,h,0,_ => by intro i j hi; simp at hi
 | l,h,i+1,hi => by
   rw [take_snoc (by omega),List.map_append]
   exact (nd_cast h i (by omega)).app (fun hm => nd_take h (by omega) (cast_mem.1 hm))
structure Beg (g:Graph) (s:Nat) (i:Nat) (tm:List Int):Prop where
 len:tm.length=g.2.1.length
 yes:∀ e,e ∈ (outN g s).take i→T tm e=timeOf g e
 no:∀ e,e < g.2.1.length→e ∉ (outN g s).take i→T tm e = -1
theorem Beg.step {g:Graph} {s i:Nat} {tm:List Int} (h:Beg g s i tm) (hi:i < (outN g s).length):Beg g s (i+1) (tm.set ((outN g s).getD i 0) (timeOf g ((outN g s).getD i 0))):=by
 have he:=(mem_out.1 (getD_in' hi)).1
 have hts:=take_snoc hi
 refine ⟨by rw [List.length_set]; exact h.len,fun f hf => ?_,fun f hf hn => ?_⟩
 ·rw [hts,List.mem_append,List.mem_singleton] at hf
  by_cases hfe:(outN g s).getD i 0=f
  ·rw [hfe]; exact getD_set_same (by rw [h.len]; omega) _ _
  ·rw [show T (tm.set _ _) f=T tm f from getD_set_other hfe _ _]
   exact h.yes f (hf.resolve_right (fun e => hfe e.symm))
 ·rw [hts,List.mem_append,List.mem_singleton] at hn
  rw [show T (tm.set _ _) f=T tm f from getD_set_other (fun e => hn (.inr e.symm)) _ _]
  exact h.no f hf (fun hm => hn (.inl hm))
theorem Beg.inv {g:Graph} (hg:GOk g) {s:Nat} {tm:List Int} (h:Beg g s (outN g s).length tm):Inv (dgF g hg s) (dgF g hg s).adj tm (List.replicate g.2.1.length 0) (List.replicate g.2.1.length false):=by
 have hst:∀ e,(dgF g hg s).start e=if e < g.2.1.length ∧ (g.2.1.getD e dR).1 = (s:Int) then some (timeOf g e) else none:=fun _ => rfl
 refine Inv.init (G:=dgF g hg s) h.len (by simp; rfl) (fun e v he hv => ?_) (fun e he hv => ?_)
 ·rw [hst] at hv
  by_cases hc:e < g.2.1.length ∧ (g.2.1.getD e dR).1 = (s:Int)
  ·rw [if_pos hc] at hv
   exact ⟨by rw [h.yes e (by rw [List.take_length]; exact mem_out.2 hc)]; simpa using hv,zr_rep _ e⟩
  ·rw [if_neg hc] at hv; cases hv
 ·rw [hst] at hv
  by_cases hc:e < g.2.1.length ∧ (g.2.1.getD e dR).1 = (s:Int)
  ·rw [if_pos hc] at hv; cases hv
  ·exact ⟨h.no e he (by rw [List.take_length]; exact fun hm => hc (mem_out.1 hm)),zr_rep _ e⟩
theorem e60 {g:Graph} (hg:GOk g) (k:Nat) (hk:1048576 < k) (s:Nat) (hs:s < g.1.length) :
 ∃ out tm ct,f60 k g (s:Int)=some out∧Final (dgF g hg s) tm ct∧Zr ct∧Outs g s (fun r => 0≤T tm r) tm out:=by
 have n1:=hg.n1
 have n2:=hg.n2
 have c8:(0:Int) ≤ (g.2.1.length:Int)∧Int.toNat (g.2.1.length:Int)*8≤140737488355328:=⟨by omega,by rw [Int.toNat_natCast]; omega⟩
 have c8':(0:Int) ≤ (g.1.length:Int)∧Int.toNat (g.1.length:Int)*8≤140737488355328:=⟨by omega,by rw [Int.toNat_natCast]; omega⟩
 have c1:(0:Int) ≤ (g.2.1.length:Int)∧Int.toNat (g.2.1.length:Int)*1≤140737488355328:=⟨by omega,by rw [Int.toNat_natCast]; omega⟩
 obtain ⟨es,es1,es2,es3⟩:=e66 hg k hk false
 have hadj:es.getD s [] = (outN g s).map fun (r:Nat) => (r:Int):=by rw [es3 s hs]; exact outs_eq g s
 have bs:(0:Int) ≤ (s:Int) ∧ (s:Int) < (es.length:Int):=⟨by omega,by omega⟩
 have hol:(outN g s).length≤g.2.1.length:=Nat.le_trans (List.length_filter_le _ _) (by simp)
 have go:∀ (out:List Int),out.length=g.1.length → (∀ p,p < g.1.length→T out p = -1)→∀ (d i m:Nat) (tm:List Int),i+d = (outN g s).length→d < m→Beg g s i tm →
  ∃ out' tm' ct',f60.l132 k (s:Int) es g out m (tm,((outN g s).take i).map (fun (r:Nat) => (r:Int)),(i:Int))=some out'∧Final (dgF g hg s) tm' ct'∧Zr ct'∧Outs g s (fun r => 0≤T tm' r) tm' out':=by
  intro out o1 o2 d
  induction d with
  | zero =>
    intro i m tm a1 a2 a3
    obtain ⟨m,rfl⟩:∃ q,m=q+1:=⟨m - 1,by omega⟩
    obtain rfl:i = (outN g s).length:=by omega
    rw [f60.l132]
    simp only [Int.toNat_natCast,hadj,List.length_map,if_t bs]
    rw [if_f (by simp),List.take_length]
    refine run60 hg k hk s hs ⟨es2,es3⟩ _ tm _ _ (zr_rep _) (a3.inv hg) (Row.init (by have:=nd_cast (out_nodup g s) _ (Nat.le_refl _); rwa [List.take_length] at this) (fun v => ?_)) ⟨by simp [o1],getD_set_same (by omega) _ _,fun p hp hps => .inl ⟨?_,fun r hr => hr.2.1⟩⟩
    ·rw [List.mem_map]
     constructor
     ·rintro ⟨e,h1,rfl⟩
      have h2:=(mem_out.1 h1).1
      exact ⟨e,rfl,h2,by rw [a3.yes e (by rw [List.take_length]; exact h1)]; have:=time_bd hg h2; omega⟩
     ·rintro ⟨e,rfl,h2,h3⟩
      refine ⟨e,?_,rfl⟩
      by_cases hm:e ∈ outN g s
      ·exact hm
      ·have:=a3.no e h2 (by rw [List.take_length]; exact hm)
       omega
    ·show (out.set s 0).getD p 0 = -1
     rw [getD_set_other (fun h => hps h.symm)]; exact o2 p hp
  | succ d ih =>
    intro i m tm a1 a2 a3
    obtain ⟨m,rfl⟩:∃ q,m=q+1:=⟨m - 1,by omega⟩
    have hi:i < (outN g s).length:=by omega
    have he:=(mem_out.1 (getD_in' hi)).1
    have hcd:=castD (outN g s) i
    have hts:=take_snoc hi
    have hst:=a3.step hi
    have hlt:((outN g s).take i).length≤8000:=by rw [List.length_take]; omega
    have a4:=a3.len
    generalize (outN g s).getD i 0=e at *
    have be:(0:Int) ≤ (e:Int) ∧ (e:Int) < (g.2.1.length:Int):=⟨by omega,by omega⟩
    have bi:(0:Int) ≤ (i:Int) ∧ (i:Int) < ((outN g s).length:Int):=⟨by omega,by omega⟩
    have hci:decide ((i:Int) < ((outN g s).length:Int))=true:=by simpa using hi
    rw [f60.l132]
    simp only [Int.toNat_natCast,hadj,hcd,List.length_map,a4,if_t bs,if_t hci,if_t bi,if_t be]
    rw [if_t (by simp only [List.length_singleton]; omega),wrap_s (by omega)]
    have:=ih (i+1) m _ (by omega) (by omega) hst
    rw [hts,List.map_append] at this
    exact this
 have go47:∀ (out:List Int),out.length=g.1.length → (∀ p,p < g.1.length→T out p = -1)→∃ out' tm' ct',f60.l47 k g (s:Int) es out k (List.replicate g.2.1.length (0:Int),(0:Int))=some out'∧Final (dgF g hg s) tm' ct'∧Zr ct'∧Outs g s (fun r => 0≤T tm' r) tm' out':=by
  intro out o1 o2
  obtain ⟨t',⟨s1,s2⟩,s3⟩:=foldLoop (L:=f60.l47 k g (s:Int) es out) (n:=g.2.1.length) (g:=fun i t => t.set i (-1)) (fin:=fun t => f60.l132 k (s:Int) es g out k (t,([]:List Int),(0:Int)))
   (Inv:=fun i t => t.length=g.2.1.length∧∀ j,j < i→T t j = -1)
   (fun m i t hi ⟨q1,q2⟩ => by
    have bi:(0:Int) ≤ (i:Int) ∧ (i:Int) < (g.2.1.length:Int):=⟨by omega,by omega⟩
    refine ⟨⟨by rw [List.length_set]; exact q1,fun j hj => ?_⟩,?_⟩
    ·by_cases hji:i=j
     ·subst hji; exact getD_set_same (by omega) _ _
     ·rw [show T (t.set i (-1)) j=T t j from getD_set_other hji _ _]; exact q2 j (by omega)
    ·rw [f60.l47,if_t (by simpa using hi),q1,if_t bi,wrap_s (by omega)]; rfl)
   (fun m t hs => by rw [f60.l47,if_f (by simp)]) k 0 (List.replicate g.2.1.length (0:Int)) ⟨by simp,fun j hj => by omega⟩ (by omega) (by omega)
  rw [show ((0:Nat):Int)=0 from rfl] at s3
  rw [s3]
  exact go out o1 o2 (outN g s).length 0 k t' (by omega) (by omega) ⟨s1,fun e he => by simp at he,fun e he _ => s2 e he⟩
 unfold f60
 rw [if_t c8',Int.toNat_natCast]
 obtain ⟨o',⟨s1,s2⟩,s3⟩:=foldLoop (L:=f60.l16 k (s:Int) g) (n:=g.1.length) (g:=fun i t => t.set i (-1)) (fin:=fun o => f60.l47 k g (s:Int) es o k (List.replicate g.2.1.length (0:Int),(0:Int)))
  (Inv:=fun i t => t.length=g.1.length∧∀ j,j < i→T t j = -1)
  (fun m i t hi ⟨q1,q2⟩ => by
   have bi:(0:Int) ≤ (i:Int) ∧ (i:Int) < (g.1.length:Int):=⟨by omega,by omega⟩
   refine ⟨⟨by rw [List.length_set]; exact q1,fun j hj => ?_⟩,?_⟩
   ·by_cases hji:i=j
    ·subst hji; exact getD_set_same (by omega) _ _
    ·rw [show T (t.set i (-1)) j=T t j from getD_set_other hji _ _]; exact q2 j (by omega)
   ·rw [f60.l16,q1,if_t (by simpa using hi),if_t bi,wrap_s (by omega)]; rfl)
  (fun m t hs' => by rw [f60.l16,hs'.1,if_f (by simp),if_t ⟨by omega,by omega⟩,if_t c8,if_t c1,es1,Option.bind_some,Int.toNat_natCast]) k 0 (List.replicate g.1.length (0:Int)) ⟨by simp,fun j hj => by omega⟩ (by omega) (by omega)
 rw [show ((0:Nat):Int)=0 from rfl] at s3
 rw [s3]
 exact go47 o' s1 s2
theorem relax64 {g:Graph} (hg:GOk g) (k:Nat) (hk:1099511627776 < k) (s:Nat) {net:Net} (hn:NetOf g net) {x:Nat} (hx:x < g.2.1.length) (A:Int) (rest:List It × Unit) (dn0:List Bool) (hdl:dn0.length=g.2.1.length)
 (q:(List Int × List Bool × (List It × Unit))→Option (List Int)) (tm ct:List Int) (xs:List It) (hI:Inv (dgF g hg s) (partX (dgF g hg s) x []) tm ct (dn0.set x true)) (hR:Heap (dgF g hg s) tm ct (dn0.set x true) xs) (hc:Cur (dgF g hg s) tm ct (dn0.set x true) x)
 (hA:T tm x=A) (hz:Zr ct) (hxl:xs.length≤536870912) :
 ∃ tm' ct' ys,f64.l716 k net ((A,((0:Int),(x:Int))),rest) dn0 q k (tm,(xs,()),(0:Int))=q (tm',dn0.set x true,(ys,()))∧Inv (dgF g hg s) (dgF g hg s).adj tm' ct' (dn0.set x true)∧Heap (dgF g hg s) tm' ct' (dn0.set x true) ys∧Zr ct'∧ys.length≤xs.length+g.2.1.length:=by
 have n1:=hg.n1
 have n2:=hg.n2
 have hxr:=road_nat hx
 have hend:=road_ends hg hxr
 have h1:(roadAt g (x:Int)).2.1 = (g.2.1.getD x dR).2.1:=by unfold roadAt; rw [Int.toNat_natCast]
 obtain ⟨g',o,ii,mm⟩:=net
 obtain rfl:g'=g:=hn.fst
 have hout:=hn.out
 have hadj:o.getD (g'.2.1.getD x dR).2.1.toNat [] = ((dgF g' hg s).adj x).map fun (r:Nat) => (r:Int):=by
  rw [h1] at hend
  rw [show o.getD (g'.2.1.getD x dR).2.1.toNat []=outs g' g'.2.1.length (g'.2.1.getD x dR).2.1.toNat from hout.2 _ (by omega)]
  exact outs_eq g' _
 have hlen:((dgF g' hg s).adj x).length≤g'.2.1.length:=Nat.le_trans (List.length_filter_le _ _) (by simp)
 obtain ⟨tm',ct',ys,q1,q2,q3,q4,q5⟩:=relaxHeap (G:=dgF g' hg s) (P:=Zr) (A:=A) (A':=0) hx (dn:=dn0.set x true) (PU:=fun xs v ys => f70 k (xs,()) v=some (ys,())) (B:=1073741824)
  (fun xs v h hl => push_ok k hk h hl)
  (L:=fun m tm ct xs i => f64.l716 k (g',(o,(ii,mm))) ((A,((0:Int),(x:Int))),rest) dn0 q m (tm,(xs,()),(i:Int))) (Q:=fun tm ct xs => q (tm,dn0.set x true,(xs,())))
  (fun m tm ct xs i hi hI hz hc hA _ => by
   have he:=getD_in' hi
   have hl1:=hI.l1; have hl2:=hI.l2
   have hai:((dgF g' hg s).adj x).getD i 0 < g'.2.1.length:=(dgF g' hg s).hadj x hx _ he
   have hci:decide ((i:Int) < ((((dgF g' hg s).adj x).map fun (r:Nat) => (r:Int)).length:Int))=true:=by simpa using hi
   have hbi:(0:Int) ≤ (i:Int) ∧ (i:Int) < ((((dgF g' hg s).adj x).map fun (r:Nat) => (r:Int)).length:Int):=⟨by omega,by simpa using hi⟩
   have hb1:=bnd_num (G:=dgF g' hg s) rfl n2 hI hx
   have hb0:=hI.pos x hx (hI.dfin x hx hc.don)
   have hcv:(dgF g' hg s).cost x (((dgF g' hg s).adj x).getD i 0)=if ((dgF g' hg s).adj x).getD i 0 < g'.2.1.length then costN g' x (((dgF g' hg s).adj x).getD i 0) (((dgF g' hg s).adj x).getD i 0) else -1:=rfl
   have hcd:=castD ((dgF g' hg s).adj x) i
   have hends:(g'.2.1.getD (((dgF g' hg s).adj x).getD i 0) dR).1 = ((g'.2.1.getD x dR).2.1.toNat:Int):=(mem_out.1 he).2
   generalize ((dgF g' hg s).adj x).getD i 0=e at *
   rw [if_pos hai] at hcv
   have htm:=time_bd hg hai
   have htr:=turn_range g' (x:Int) (e:Int)
   have e72':f72 k (g',(o,(ii,mm))) (x:Int) (e:Int)=some (turnOf g' (x:Int) (e:Int)):=by
    rw [e72 hg k hn hxr (road_nat hai),if_pos]
    rw [h1] at hend ⊢
    unfold roadAt; rw [Int.toNat_natCast]
    have:=hends
    have h3:=hend.2
    rw [show (g'.2.1.getD e ((0:Int),((0:Int),((0:Int),((0:Int),((0:Int),(⟨#[]⟩:ByteArray))))))).1 = (g'.2.1.getD e dR).1 from rfl]
    omega
   have hdl':(dgF g' hg s).dl=0:=rfl
   have tl1:tm.length=g'.2.1.length:=hl1
   have be:(0:Int) ≤ (e:Int) ∧ (e:Int) < (g'.2.1.length:Int):=⟨by omega,by omega⟩
   have w0:IntKind.i64.wrap ((i:Int)+1) = ((i+1:Nat):Int):=wrap_s (by have:i < ((dgF g' hg s).adj x).length:=hi; omega)
   have w1:IntKind.i64.wrap (A+turnOf g' (x:Int) (e:Int))=A+turnOf g' (x:Int) (e:Int):=wrap_in (by omega) (by omega)
   have w2:IntKind.i64.wrap (A+turnOf g' (x:Int) (e:Int)+timeOf g' e)=A+turnOf g' (x:Int) (e:Int)+timeOf g' e:=wrap_in (by omega) (by omega)
   have hgt:(g'.2.1.getD e dR).2.2.2.1=timeOf g' e:=rfl
   have key:f64.l716 k (g',(o,(ii,mm))) ((A,((0:Int),(x:Int))),rest) dn0 q (m+1) (tm,(xs,()),(i:Int)) =
    if D (dn0.set x true) e=true∨turnOf g' (x:Int) (e:Int) < 0 ∨ (0≤T tm e∧T tm e≤A+turnOf g' (x:Int) (e:Int)+timeOf g' e) then f64.l716 k (g',(o,(ii,mm))) ((A,((0:Int),(x:Int))),rest) dn0 q m (tm,(xs,()),((i+1:Nat):Int)) else
    (f70 k (xs,()) (A+turnOf g' (x:Int) (e:Int)+timeOf g' e,((0:Int),(e:Int)))).bind fun r => f64.l716 k (g',(o,(ii,mm))) ((A,((0:Int),(x:Int))),rest) dn0 q m (tm.set e (A+turnOf g' (x:Int) (e:Int)+timeOf g' e),r,((i+1:Nat):Int)):=by
    rw [f64.l716]
    simp only [Int.toNat_natCast,hadj,hcd,e72',Option.bind_some,f64.j807,w0,List.length_set,hdl,tl1,hgt,w1,w2,if_t hci,if_t hbi,if_t be]
    by_cases h1:D (dn0.set x true) e=true
    ·rw [if_t (show (dn0.set x true).getD e false=true from h1),if_pos (.inl h1)]
    ·rw [if_f (show ¬ (dn0.set x true).getD e false=true from h1)]
     by_cases h2:turnOf g' (x:Int) (e:Int) < 0
     ·rw [if_t (by simpa using h2),if_pos (.inr (.inl h2))]
     ·rw [if_f (by simpa using h2),if_t (fun _ => be)]
      by_cases h3:T tm e < 0
      ·rw [show decide (tm.getD e 0 < 0)=true from decide_eq_true h3,if_t (by rfl),if_neg (fun h => by rcases h with h | h | h; exact h1 h; exact h2 h; omega)]
      ·rw [show decide (tm.getD e 0 < 0)=false from decide_eq_false h3]
       by_cases h4:T tm e≤A+turnOf g' (x:Int) (e:Int)+timeOf g' e
       ·rw [if_f,if_pos (.inr (.inr ⟨by omega,h4⟩))]
        rw [show decide (A+turnOf g' (x:Int) (e:Int)+timeOf g' e < tm.getD e 0)=false from decide_eq_false (show ¬ (A+turnOf g' (x:Int) (e:Int)+timeOf g' e < T tm e) by omega)]
        decide
       ·rw [if_t,if_neg (fun h => by rcases h with h | h | h; exact h1 h; exact h2 h; exact h4 h.2)]
        rw [show decide (A+turnOf g' (x:Int) (e:Int)+timeOf g' e < tm.getD e 0)=true from decide_eq_true (show A+turnOf g' (x:Int) (e:Int)+timeOf g' e < T tm e by omega)]; rfl
   have hcn:costN g' x e e < 0↔turnOf g' (x:Int) (e:Int) < 0:=by unfold costN; split <;> omega
   have hcp:¬ turnOf g' (x:Int) (e:Int) < 0→costN g' x e e=turnOf g' (x:Int) (e:Int)+timeOf g' e:=fun h => by unfold costN; rw [if_neg h]
   rw [hcv,hA,hdl',hz x,hz e]
   have hLe:∀ a b:Int,Le a 0 b (0+0)↔a≤b:=fun a b => by unfold Le; omega
   rw [hLe]
   refine ⟨fun h => ?_,fun hd h0 hb ys hy => ?_⟩
   ·show f64.l716 k (g',(o,(ii,mm))) ((A,((0:Int),(x:Int))),rest) dn0 q (m+1) (tm,(xs,()),(i:Int))=_
    rw [key,if_pos]
    rcases h with h | h | h
    ·exact .inl h
    ·exact .inr (.inl (hcn.1 h))
    ·by_cases h2:turnOf g' (x:Int) (e:Int) < 0
     ·exact .inr (.inl h2)
     ·rw [hcp h2] at h
      exact .inr (.inr ⟨h.1,by omega⟩)
   ·have ht:¬ turnOf g' (x:Int) (e:Int) < 0:=by rw [← hcn]; omega
    show f64.l716 k (g',(o,(ii,mm))) ((A,((0:Int),(x:Int))),rest) dn0 q (m+1) (tm,(xs,()),(i:Int))=_
    rw [hcp ht,show A + (turnOf g' (x:Int) (e:Int)+timeOf g' e)=A+turnOf g' (x:Int) (e:Int)+timeOf g' e by omega] at hy hb ⊢
    rw [key,if_neg (fun h => by
     rcases h with h | h | h
     ·rw [hd] at h; cases h
     ·exact ht h
     ·omega)]
    rw [show ((0:Int)+0)=0 from rfl] at hy
    rw [hy,Option.bind_some])
  (fun ct e h => h.set x e)
  (fun m tm ct xs => by
   show f64.l716 k (g',(o,(ii,mm))) ((A,((0:Int),(x:Int))),rest) dn0 q (m+1) (tm,(xs,()),(((dgF g' hg s).adj x).length:Int))=_
   rw [f64.l716]
   simp only [Int.toNat_natCast,hadj,List.length_map]
   rw [if_f (by simp)])
  _ 0 k tm ct xs (Nat.zero_add _) (by omega) (by omega) (by rw [List.take_zero]; exact hI) hR hz hc hA (hz x)
 exact ⟨tm',ct',ys,q1,q2,q3,q4,by omega⟩
theorem run64 {g:Graph} (hg:GOk g) (k:Nat) (hk:1099511627776 < k) (s:Nat) {net:Net} (hn:NetOf g net) (tm ct:List Int) (xs:List It) (hxl:xs.length≤g.2.1.length) (hz:Zr ct)
 (hI:Inv (dgF g hg s) (dgF g hg s).adj tm ct (List.replicate g.2.1.length false)) (hR:Heap (dgF g hg s) tm ct (List.replicate g.2.1.length false) xs) :
 ∃ tm' ct',f64.l478 k net k (tm,List.replicate g.2.1.length false,(xs,()))=some tm'∧Final (dgF g hg s) tm' ct'∧Zr ct':=by
 have n2:=hg.n2
 have hout:=hn.out
 have hfst:=hn.fst
 have hnn:(g.2.1.length - cnt (List.replicate g.2.1.length false)) * (g.2.1.length+1)≤64008000:=by
  rw [cnt_rep]
  exact Nat.le_trans (Nat.mul_le_mul (show g.2.1.length - 0≤8000 by omega) (show g.2.1.length+1≤8001 by omega)) (by decide)
 obtain ⟨tm',ct',q1,q2,q3⟩:=heapRun (G:=dgF g hg s) (P:=Zr) (B:=134217728) (L:=fun m tm ct dn xs => f64.l478 k net m (tm,dn,(xs,()))) (F:=fun tm ct => some tm)
  (fun m tm ct dn xs hI hR hz h0 hb => by
   obtain ⟨ys,p1,p2,p3,p4,p5,p6⟩:=pop_ok k hk hR.hp h0 (by omega)
   obtain ⟨x,x1,x2,x3,x4⟩:=heapPop hI hR h0 p2 p4 p5 p6
   have l3:dn.length=g.2.1.length:=hI.l3
   have bx:(0:Int) ≤ (x:Int) ∧ (x:Int) < (g.2.1.length:Int):=⟨by omega,by have:x < g.2.1.length:=x2; omega⟩
   have hc:decide (((xs.length:Int)) > 0)=true:=by simpa using h0
   have hend:=road_ends hg (road_nat (show x < g.2.1.length from x2))
   rw [show (roadAt g (x:Int)).2.1 = (g.2.1.getD x dR).2.1 by unfold roadAt; rw [Int.toNat_natCast]] at hend
   have bend:(0:Int) ≤ (g.2.1.getD x dR).2.1 ∧ (g.2.1.getD x dR).2.1 < (net.2.1.length:Int):=by rw [hout.1]; exact hend.2
   cases hd:D dn x with
   | true =>
     refine .inl ⟨ys,?_,x3 hd,by omega⟩
     show f64.l478 k net (m+1) (tm,dn,(xs,()))=_
     rw [f64.l478]
     simp only [if_t hc,p1,Option.bind_some,x1,Int.toNat_natCast,l3,if_t bx]
     rw [if_t (show dn.getD x false=true from hd)]
   | false =>
     obtain ⟨y1,y2,y3,y4⟩:=x4 hd
     obtain ⟨tm',ct',zs,r1,r2,r3,r5,r4⟩:=relax64 hg k hk s hn x2 (T tm x) (ys,()) dn l3 (f64.l478 k net m) tm ct ys y2 y3 y4 rfl hz (by omega)
     refine .inr ⟨x,tm',ct',zs,x2,hd,?_,r2,r3,r5,by show zs.length < xs.length+g.2.1.length; omega⟩
     show f64.l478 k net (m+1) (tm,dn,(xs,()))=_
     rw [f64.l478]
     simp only [if_t hc,p1,Option.bind_some,x1,Int.toNat_natCast,l3,hfst,if_t bx]
     rw [if_f (show ¬ dn.getD x false=true by rw [show dn.getD x false=false from hd]; decide),if_t bend,y1,hz x]
     exact r1)
  (fun m tm ct dn xs h0 => by
   show f64.l478 k net (m+1) (tm,dn,(xs,()))=_
   rw [f64.l478,if_f (by simp [h0])])
  134217728 k tm ct _ xs (by show xs.length + (g.2.1.length - _) * (g.2.1.length+1)≤_; omega) (by omega) (by omega) hI hR hz
 exact ⟨tm',ct',q1,q2,q3⟩
theorem e64 {g:Graph} (hg:GOk g) (k:Nat) (hk:1099511627776 < k) (s:Nat) (hs:s < g.1.length) {net:Net} (hn:NetOf g net):∃ tm ct,f64 k net (s:Int)=some tm∧Final (dgF g hg s) tm ct∧Zr ct:=by
 have n2:=hg.n2
 have c8:(0:Int) ≤ (g.2.1.length:Int)∧Int.toNat (g.2.1.length:Int)*8≤140737488355328:=⟨by omega,by rw [Int.toNat_natCast]; omega⟩
 have c1:(0:Int) ≤ (g.2.1.length:Int)∧Int.toNat (g.2.1.length:Int)*1≤140737488355328:=⟨by omega,by rw [Int.toNat_natCast]; omega⟩
 have hfst:=hn.fst
 have hout:=hn.out
 have hadj:net.2.1.getD s [] = (outN g s).map fun (r:Nat) => (r:Int):=by rw [hout.2 s hs]; exact outs_eq g s
 have bs:(0:Int) ≤ (s:Int) ∧ (s:Int) < (net.2.1.length:Int):=⟨by omega,by rw [hout.1]; omega⟩
 have hol:(outN g s).length≤g.2.1.length:=Nat.le_trans (List.length_filter_le _ _) (by simp)
 have go:∀ (d i m:Nat) (tm:List Int) (xs:List It),i+d = (outN g s).length→d < m→Beg g s i tm→xs.length≤i→HP xs → (∀ u,Has xs u↔∃ e,e ∈ (outN g s).take i∧u = (timeOf g e,0,(e:Int))) →
  ∃ tm' ct',f64.l80 k net (s:Int) m (tm,(xs,()),(i:Int))=some tm'∧Final (dgF g hg s) tm' ct'∧Zr ct':=by
  intro d
  induction d with
  | zero =>
    intro i m tm xs a1 a2 a3 a4 a5 a6
    obtain ⟨m,rfl⟩:∃ q,m=q+1:=⟨m - 1,by omega⟩
    obtain rfl:i = (outN g s).length:=by omega
    rw [f64.l80]
    simp only [Int.toNat_natCast,hadj,List.length_map,hfst]
    rw [if_f (by simp)]
    refine run64 hg k hk s hn tm _ xs (by omega) (zr_rep _) (a3.inv hg) ⟨a5,fun j hj => ?_,fun e he hf _ => (a6 _).2 ⟨e,?_,?_⟩⟩
    ·obtain ⟨e,h1,h2⟩:=(a6 _).1 ⟨j,hj,rfl⟩
     have hen:=(mem_out.1 (List.mem_of_mem_take h1)).1
     have:=time_bd hg hen
     rw [h2]
     exact ⟨e,rfl,hen,by rw [a3.yes e h1]; omega,.inr ⟨a3.yes e h1,by rw [zr_rep _ e]; exact Int.le_refl _⟩⟩
    ·by_cases hm:e ∈ (outN g s).take (outN g s).length
     ·exact hm
     ·have:=a3.no e he hm; omega
    ·by_cases hm:e ∈ (outN g s).take (outN g s).length
     ·rw [a3.yes e hm,zr_rep _ e]
     ·have:=a3.no e he hm; omega
  | succ d ih =>
    intro i m tm xs a1 a2 a3 a4 a5 a6
    obtain ⟨m,rfl⟩:∃ q,m=q+1:=⟨m - 1,by omega⟩
    have hi:i < (outN g s).length:=by omega
    have he:=(mem_out.1 (getD_in' hi)).1
    have hcd:=castD (outN g s) i
    have hts:=take_snoc hi
    have hst:=a3.step hi
    have a7:=a3.len
    generalize (outN g s).getD i 0=e at *
    have be:(0:Int) ≤ (e:Int) ∧ (e:Int) < (g.2.1.length:Int):=⟨by omega,by omega⟩
    have bi:(0:Int) ≤ (i:Int) ∧ (i:Int) < ((outN g s).length:Int):=⟨by omega,by omega⟩
    have hci:decide ((i:Int) < ((outN g s).length:Int))=true:=by simpa using hi
    have hsame:(tm.set e (g.2.1.getD e dR).2.2.2.1).getD e 0=timeOf g e:=getD_set_same (by omega) _ _
    obtain ⟨ys,p1,p2,p3,p4⟩:=push_ok k hk (v:=(timeOf g e,0,(e:Int))) a5 (by omega)
    rw [f64.l80]
    simp only [Int.toNat_natCast,hadj,hcd,List.length_map,List.length_set,a7,hfst,if_t hci,if_t bi,if_t be,hsame,p1,Option.bind_some]
    rw [wrap_s (by omega)]
    refine ih (i+1) m _ ys (by omega) (by omega) hst (by omega) p2 (fun u => ?_)
    rw [p4,a6,hts]
    constructor
    ·rintro (⟨f,h1,h2⟩ | h1)
     ·exact ⟨f,List.mem_append_left _ h1,h2⟩
     ·exact ⟨e,List.mem_append_right _ (List.mem_singleton.2 rfl),h1⟩
    ·rintro ⟨f,h1,h2⟩
     rw [List.mem_append,List.mem_singleton] at h1
     rcases h1 with h1 | h1
     ·exact .inl ⟨f,h1,h2⟩
     ·subst h1; exact .inr h2
 unfold f64
 rw [hfst,if_t c8,if_t c1,Int.toNat_natCast]
 obtain ⟨t',⟨s1,s2⟩,s3⟩:=foldLoop (L:=f64.l16 k net (s:Int)) (n:=g.2.1.length) (g:=fun i t => t.set i (-1)) (fin:=fun t => f64.l80 k net (s:Int) k (t,(([]:List It),()),(0:Int)))
  (Inv:=fun i t => t.length=g.2.1.length∧∀ j,j < i→T t j = -1)
  (fun m i t hi ⟨q1,q2⟩ => by
   have bi:(0:Int) ≤ (i:Int) ∧ (i:Int) < (g.2.1.length:Int):=⟨by omega,by omega⟩
   refine ⟨⟨by rw [List.length_set]; exact q1,fun j hj => ?_⟩,?_⟩
   ·by_cases hji:i=j
    ·subst hji; exact getD_set_same (by omega) _ _
    ·rw [show T (t.set i (-1)) j=T t j from getD_set_other hji _ _]; exact q2 j (by omega)
   ·rw [f64.l16,hfst,List.length_replicate,Int.toNat_natCast,if_t (by simpa using hi),q1,if_t bi,wrap_s (by omega)]; rfl)
  (fun m t hs' => by rw [f64.l16,hfst,List.length_replicate,Int.toNat_natCast,if_f (by simp),if_t bs]) k 0 (List.replicate g.2.1.length (0:Int)) ⟨by simp,fun j hj => by omega⟩ (by omega) (by omega)
 rw [show ((0:Nat):Int)=0 from rfl] at s3
 rw [s3]
 exact go (outN g s).length 0 k t' [] (by omega) (by omega) ⟨s1,fun e he => by simp at he,fun e he _ => s2 e he⟩ (by simp) (fun j _ h => by simp at h) (fun u => by
  constructor
  ·rintro ⟨j,hj,_⟩; simp at hj
  ·rintro ⟨e,h,_⟩; simp at h)
theorem e52 {g:Graph} (hg:GOk g) (k:Nat) (hk:1099511627776 < k) (s:Nat) (hs:s < g.1.length) {net:Net} (hn:NetOf g net):∃ out tm ct,f52 k net (s:Int)=some out∧Final (dgF g hg s) tm ct∧Zr ct∧Outs g s (fun r => 0≤T tm r) tm out:=by
 have n1:=hg.n1
 have n2:=hg.n2
 obtain ⟨tm,ct,t1,t2,t3⟩:=e64 hg k hk s hs hn
 have tl:tm.length=g.2.1.length:=t2.l1
 have hfst:=hn.fst
 have c8:(0:Int) ≤ (g.1.length:Int)∧Int.toNat (g.1.length:Int)*8≤140737488355328:=⟨by omega,by rw [Int.toNat_natCast]; omega⟩
 unfold f52
 rw [t1,Option.bind_some,hfst,if_t c8,Int.toNat_natCast]
 have main:∀ (out:List Int),out.length=g.1.length → (∀ p,p < g.1.length→T out p = -1)→∃ out',f52.l101 k net tm (s:Int) k (out,(0:Int))=some out'∧Outs g s (fun r => 0≤T tm r) tm out':=by
  intro out o1 o2
  obtain ⟨z,⟨z1,z2⟩,z3⟩:=foldLoop (L:=f52.l101 k net tm (s:Int)) (n:=g.2.1.length) (g:=fun i z => if 0≤T tm i then upd z (g.2.1.getD i dR).2.1.toNat (T tm i) else z) (fin:=fun z => some (z.set s 0))
   (Inv:=fun i z => z.length=g.1.length∧∀ p,p < g.1.length→MinAt (fun r => r < i∧0≤T tm r ∧ (g.2.1.getD r dR).2.1 = (p:Int)) (T tm) (T z p))
   (fun m i z hi ⟨q1,q2⟩ => by
    have bi:(0:Int) ≤ (i:Int) ∧ (i:Int) < (g.2.1.length:Int):=⟨by omega,by omega⟩
    have hci:decide ((i:Int) < (g.2.1.length:Int))=true:=by simpa using hi
    have hend:=(road_ends hg (road_nat hi)).2
    rw [show (roadAt g (i:Int)).2.1 = (g.2.1.getD i dR).2.1 by unfold roadAt; rw [Int.toNat_natCast]] at hend
    have hend':0 ≤ (g.2.1.getD i dR).2.1 ∧ (g.2.1.getD i dR).2.1 < (z.length:Int):=by rw [q1]; exact hend
    refine ⟨⟨?_,fun p hp => ?_⟩,?_⟩
    ·split
     ·unfold upd; split <;> simp [q1]
     ·exact q1
    ·have hold:=q2 p hp
     by_cases hf:0≤T tm i
     ·rw [if_pos hf]
      by_cases hto:(g.2.1.getD i dR).2.1.toNat=p
      ·have e1:T (upd z (g.2.1.getD i dR).2.1.toNat (T tm i)) p=if T z p < 0∨T tm i < T z p then T tm i else T z p:=by
        rw [hto]; unfold upd; split
        ·exact getD_set_same (by rw [q1]; exact hp) _ _
        ·rfl
       rw [e1]
       refine MinAt.add hold (x:=i) (fun r => ?_) (fun r hr => hr.2.1)
       constructor
       ·rintro ⟨a,b,c⟩
        by_cases hri:r=i
        ·exact .inr hri
        ·exact .inl ⟨by omega,b,c⟩
       ·rintro (⟨a,b,c⟩ | rfl)
        ·exact ⟨by omega,b,c⟩
        ·exact ⟨by omega,hf,by omega⟩
      ·have e1:T (upd z (g.2.1.getD i dR).2.1.toNat (T tm i)) p=T z p:=by
        unfold upd; split
        ·exact getD_set_other hto _ _
        ·rfl
       rw [e1]
       refine MinAt.congr hold (fun r => ?_) (fun _ _ => rfl)
       constructor
       ·rintro ⟨a,b,c⟩
        by_cases hri:r=i
        ·subst hri; exact absurd (by omega) hto
        ·exact ⟨by omega,b,c⟩
       ·rintro ⟨a,b,c⟩; exact ⟨by omega,b,c⟩
     ·rw [if_neg hf]
      refine MinAt.congr hold (fun r => ?_) (fun _ _ => rfl)
      constructor
      ·rintro ⟨a,b,c⟩
       by_cases hri:r=i
       ·subst hri; exact absurd b hf
       ·exact ⟨by omega,b,c⟩
      ·rintro ⟨a,b,c⟩; exact ⟨by omega,b,c⟩
    ·rw [f52.l101]
     simp only [hfst,if_t hci,if_t bi,Int.toNat_natCast,tl,f52.j160]
     rw [if_t (fun _ => hend'),if_t (fun _ => bi),if_t (fun _ => hend'),Option.bind_some,wrap_s (by omega)]
     by_cases hf:0≤T tm i
     ·rw [show decide (tm.getD i 0 ≥ 0)=true from decide_eq_true hf,cond_true,if_pos hf]
      unfold upd
      by_cases c1:T z (g.2.1.getD i dR).2.1.toNat < 0
      ·rw [if_t (by rw [show decide (z.getD (g.2.1.getD i dR).2.1.toNat 0 < 0)=true from decide_eq_true c1]; rfl),if_t hend',if_pos (.inl c1)]
      ·rw [show decide (z.getD (g.2.1.getD i dR).2.1.toNat 0 < 0)=false from decide_eq_false c1]
       by_cases c2:T tm i < T z (g.2.1.getD i dR).2.1.toNat
       ·rw [if_t (by rw [show decide (tm.getD i 0 < z.getD (g.2.1.getD i dR).2.1.toNat 0)=true from decide_eq_true c2]; rfl),if_t hend',if_pos (.inr c2)]
       ·rw [if_f (by rw [show decide (tm.getD i 0 < z.getD (g.2.1.getD i dR).2.1.toNat 0)=false from decide_eq_false c2]; simp),if_neg (by omega)]
     ·rw [show decide (tm.getD i 0 ≥ 0)=false from decide_eq_false hf,cond_false,if_f (by simp),if_neg hf])
   (fun m z hz => by rw [f52.l101,hfst,if_f (by simp),hz.1,if_t ⟨by omega,by omega⟩,Int.toNat_natCast]) k 0 out ⟨o1,fun p hp => .inl ⟨o2 p hp,fun r hr => by omega⟩⟩ (by omega) (by omega)
  rw [show ((0:Nat):Int)=0 from rfl] at z3
  refine ⟨_,z3,by rw [List.length_set]; exact z1,getD_set_same (by omega) _ _,fun p hp hps => ?_⟩
  rw [show T (z.set s 0) p=T z p from getD_set_other (fun h => hps h.symm) _ _]
  exact z2 p hp
 obtain ⟨o',⟨s1,s2⟩,s3⟩:=foldLoop (L:=f52.l17 k net tm (s:Int)) (n:=g.1.length) (g:=fun i t => t.set i (-1)) (fin:=fun o => f52.l101 k net tm (s:Int) k (o,(0:Int)))
  (Inv:=fun i t => t.length=g.1.length∧∀ j,j < i→T t j = -1)
  (fun m i t hi ⟨q1,q2⟩ => by
   have bi:(0:Int) ≤ (i:Int) ∧ (i:Int) < (g.1.length:Int):=⟨by omega,by omega⟩
   refine ⟨⟨by rw [List.length_set]; exact q1,fun j hj => ?_⟩,?_⟩
   ·by_cases hji:i=j
    ·subst hji; exact getD_set_same (by omega) _ _
    ·rw [show T (t.set i (-1)) j=T t j from getD_set_other hji _ _]; exact q2 j (by omega)
   ·rw [f52.l17,hfst,List.length_replicate,Int.toNat_natCast,if_t (by simpa using hi),q1,if_t bi,wrap_s (by omega)]; rfl)
  (fun m t hs' => by rw [f52.l17,hfst,List.length_replicate,Int.toNat_natCast,if_f (by simp)]) k 0 (List.replicate g.1.length (0:Int)) ⟨by simp,fun j hj => by omega⟩ (by omega) (by omega)
 rw [show ((0:Nat):Int)=0 from rfl] at s3
 rw [s3]
 obtain ⟨out',m1,m2⟩:=main o' s1 s2
 exact ⟨out',tm,ct,m1,t2,t3,m2⟩
theorem same_reach0 {g:Graph} (hg:GOk g) (k:Nat) (hk:1099511627776 < k) (s:Nat) (hs:s < g.1.length) {net:Net} (hn:NetOf g net):∃ out,f60 k g (s:Int)=some out∧f52 k net (s:Int)=some out∧out.length=g.1.length:=by
 obtain ⟨a,tm,ct,q1,q2,q3,q4⟩:=e60 hg k (by omega) s hs
 obtain ⟨b,tm',ct',r1,r2,r3,r4⟩:=e52 hg k hk s hs hn
 obtain ⟨rfl,rfl⟩:=q2.uniq r2
 obtain rfl:=q4.uniq hs r4 (fun _ _ => Iff.rfl) (fun _ _ _ => rfl)
 exact ⟨a,q1,r1,q4.1⟩
end Go.Proofs.Ytajigednlopmjaa
end
section
set_option linter.unusedVariables false
set_option linter.unusedSimpArgs false
namespace Go.Proofs.Ytajigednlopmjaa
open Go Go.Vm Go.Proofs V
abbrev Task:=Int × (Int × (Int × (Int × Int)))
abbrev Fleet:=Int × (Int × (Int × (Int × List Task)))
abbrev dT:Task:=((0:Int),((0:Int),((0:Int),((0:Int),(0:Int)))))
def taskOk (n:Int) (t:Task):Bool:=decide (0≤t.1) && decide (t.1 < n) && decide (0≤t.2.1) && decide (t.2.1≤1000) && decide (0≤t.2.2.1) && decide (t.2.2.1≤t.2.2.2.1) && decide (t.2.2.2.1≤1000000) && decide (0≤t.2.2.2.2) && decide (t.2.2.2.2≤100000)
def fleetHead (n:Int) (f:Fleet):Bool:=decide (0≤f.1) && decide (f.1 < n) && decide (0≤f.2.1) && decide (f.2.1≤1000000) && decide (1≤f.2.2.1) && decide (f.2.2.1≤4) && decide (0≤f.2.2.2.1) && decide (f.2.2.2.1≤10000) && decide (f.2.2.2.2.length≤6)
def fleetOk (g:Graph) (f:Fleet):Bool:=graphOk g && fleetHead (g.1.length:Int) f && allTo (fun i => taskOk (g.1.length:Int) (f.2.2.2.2.getD i dT)) f.2.2.2.2.length
theorem tasks24 (k:Nat) (g:Graph) (f:Fleet) (hf:f.2.2.2.2.length≤1048576) (m i:Nat) (hi:i < f.2.2.2.2.length):f24.l38 k f g (m+1) (i:Int)=bif taskOk (g.1.length:Int) (f.2.2.2.2.getD i dT) then f24.l38 k f g m ((i+1:Nat):Int) else some false:=by
 rw [f24.l38,if_t (by simpa using hi),if_t ⟨by omega,by omega⟩,wrap_s (by omega)]
 have hr:f.2.2.2.2.getD i dT=List.getD f.2.2.2.2 (Int.toNat (i:Int)) dT:=by rw [Int.toNat_natCast]
 rw [hr]
 generalize List.getD f.2.2.2.2 (Int.toNat (i:Int)) dT=t
 unfold taskOk
 have a1:=lt_not t.2.1 0
 have a2:=gt_not t.2.1 1000
 have a3:=lt_not t.2.2.1 0
 have a4:=lt_not t.2.2.2.1 t.2.2.1
 have a5:=gt_not t.2.2.2.1 1000000
 have a6:=lt_not t.2.2.2.2 0
 have a7:=gt_not t.2.2.2.2 100000
 simp only [f42,Option.bind_some,a1,a2,a3,a4,a5,a6,a7,ge_iff_le]
 clear a1 a2 a3 a4 a5 a6 a7
 generalize decide (0≤t.1)=B1
 generalize decide (t.1 < (g.1.length:Int))=B2
 generalize decide (0≤t.2.1)=B3
 generalize decide (t.2.1≤1000)=B4
 generalize decide (0≤t.2.2.1)=B5
 generalize decide (t.2.2.1≤t.2.2.2.1)=B6
 generalize decide (t.2.2.2.1≤1000000)=B7
 generalize decide (0≤t.2.2.2.2)=B8
 generalize decide (t.2.2.2.2≤100000)=B9
 cases B1 <;> cases B2 <;> cases B3 <;> cases B4 <;> simp
 cases B5 <;> cases B6 <;> cases B7 <;> cases B8 <;> cases B9 <;> simp
theorem tasks63 (k:Nat) (n:Int) (f:Fleet) (hf:f.2.2.2.2.length≤1048576) (m i:Nat) (hi:i < f.2.2.2.2.length):f63.l25 k f n (m+1) (i:Int)=bif taskOk n (f.2.2.2.2.getD i dT) then f63.l25 k f n m ((i+1:Nat):Int) else some false:=by
 rw [f63.l25,if_t (by simpa using hi),if_t ⟨by omega,by omega⟩,wrap_s (by omega)]
 have hr:f.2.2.2.2.getD i dT=List.getD f.2.2.2.2 (Int.toNat (i:Int)) dT:=by rw [Int.toNat_natCast]
 rw [hr]
 generalize List.getD f.2.2.2.2 (Int.toNat (i:Int)) dT=t
 unfold taskOk
 have a1:=lt_not t.2.1 0
 have a2:=gt_not t.2.1 1000
 have a3:=lt_not t.2.2.1 0
 have a4:=lt_not t.2.2.2.1 t.2.2.1
 have a5:=gt_not t.2.2.2.1 1000000
 have a6:=lt_not t.2.2.2.2 0
 have a7:=gt_not t.2.2.2.2 100000
 have a8:=lt_not t.1 0
 have a9:=ge_not t.1 n
 simp only [a1,a2,a3,a4,a5,a6,a7,a8,a9]
 clear a1 a2 a3 a4 a5 a6 a7 a8 a9
 generalize decide (0≤t.1)=B1
 generalize decide (t.1 < n)=B2
 generalize decide (0≤t.2.1)=B3
 generalize decide (t.2.1≤1000)=B4
 generalize decide (0≤t.2.2.1)=B5
 generalize decide (t.2.2.1≤t.2.2.2.1)=B6
 generalize decide (t.2.2.2.1≤1000000)=B7
 generalize decide (0≤t.2.2.2.2)=B8
 generalize decide (t.2.2.2.2≤100000)=B9
 cases B1 <;> cases B2 <;> cases B3 <;> cases B4 <;> simp
 cases B5 <;> cases B6 <;> cases B7 <;> cases B8 <;> cases B9 <;> simp
theorem spec24 (k:Nat) (hk:1048576 < k) (g:Graph) (f:Fleet) (h1:g.1.length≤1048576) (h2:g.2.1.length≤1048576) (h3:g.2.2.length≤1048576) (hf:f.2.2.2.2.length≤1048576):f24 k g f=some (fleetOk g f):=by
 have q1:=allLoop (L:=f24.l38 k f g) (p:=fun i => taskOk (g.1.length:Int) (f.2.2.2.2.getD i dT)) (fun m i hi => tasks24 k g f hf m i hi) (fun m => by rw [f24.l38,if_f (by simp)]) (show f.2.2.2.2.length < k by omega)
 have a1:=lt_not f.2.1 0
 have a2:=gt_not f.2.1 1000000
 have a3:=lt_not f.2.2.1 1
 have a4:=gt_not f.2.2.1 4
 have a5:=lt_not f.2.2.2.1 0
 have a6:=gt_not f.2.2.2.1 10000
 have a7:=gt_lit f.2.2.2.2.length 6 6 rfl
 unfold f24 fleetOk fleetHead
 rw [spec41 k hk g h1 h2 h3,q1]
 simp only [f42,Option.bind_some,a1,a2,a3,a4,a5,a6,a7,ge_iff_le]
 clear a1 a2 a3 a4 a5 a6 a7
 generalize graphOk g=G
 generalize allTo (fun i => taskOk (g.1.length:Int) (f.2.2.2.2.getD i dT)) f.2.2.2.2.length=A
 generalize decide (0≤f.1)=B1
 generalize decide (f.1 < (g.1.length:Int))=B2
 generalize decide (0≤f.2.1)=B3
 generalize decide (f.2.1≤1000000)=B4
 generalize decide (1≤f.2.2.1)=B5
 generalize decide (f.2.2.1≤4)=B6
 generalize decide (0≤f.2.2.2.1)=B7
 generalize decide (f.2.2.2.1≤10000)=B8
 generalize decide (f.2.2.2.2.length≤6)=B9
 cases G <;> cases B1 <;> cases B2 <;> simp
 cases B3 <;> cases B4 <;> cases B5 <;> cases B6 <;> simp
 cases B7 <;> cases B8 <;> cases B9 <;> cases A <;> simp
theorem impl50 (k:Nat) (hk:1048576 < k) (g:Graph) (f:Fleet) (h1:g.1.length≤1048576) (h2:g.2.1.length≤1048576) (h3:g.2.2.length≤1048576) (hf:f.2.2.2.2.length≤1048576):f50 k g f=some (fleetOk g f):=by
 have q1:=allLoop (L:=f63.l25 k f (g.1.length:Int)) (p:=fun i => taskOk (g.1.length:Int) (f.2.2.2.2.getD i dT)) (fun m i hi => tasks63 k _ f hf m i hi) (fun m => by rw [f63.l25,if_f (by simp)]) (show f.2.2.2.2.length < k by omega)
 have a1:=lt_not f.2.1 0
 have a2:=gt_not f.2.1 1000000
 have a3:=lt_not f.2.2.1 1
 have a4:=gt_not f.2.2.1 4
 have a5:=lt_not f.2.2.2.1 0
 have a6:=gt_not f.2.2.2.1 10000
 have a7:=gt_lit f.2.2.2.2.length 6 6 rfl
 have a8:=lt_not f.1 0
 have a9:=ge_not f.1 (g.1.length:Int)
 unfold f50 f63 fleetOk fleetHead
 rw [impl62 k hk g h1 h2 h3,q1]
 simp only [Option.bind_some,a1,a2,a3,a4,a5,a6,a7,a8,a9]
 clear a1 a2 a3 a4 a5 a6 a7 a8 a9
 generalize graphOk g=G
 generalize allTo (fun i => taskOk (g.1.length:Int) (f.2.2.2.2.getD i dT)) f.2.2.2.2.length=A
 generalize decide (0≤f.1)=B1
 generalize decide (f.1 < (g.1.length:Int))=B2
 generalize decide (0≤f.2.1)=B3
 generalize decide (f.2.1≤1000000)=B4
 generalize decide (1≤f.2.2.1)=B5
 generalize decide (f.2.2.1≤4)=B6
 generalize decide (0≤f.2.2.2.1)=B7
 generalize decide (f.2.2.2.1≤10000)=B8
 generalize decide (f.2.2.2.2.length≤6)=B9
 cases G <;> cases B1 <;> cases B2 <;> simp
 cases B3 <;> cases B4 <;> cases B5 <;> cases B6 <;> simp
 cases B7 <;> cases B8 <;> cases B9 <;> cases A <;> simp
def spotsOk (g:Graph) (l:List Int):Bool:=allTo (fun i => spotIs g (l.getD i 0)) l.length
theorem spotsOk_iff {g:Graph} {l:List Int}:spotsOk g l=true↔∀ i,i < l.length→spotIs g (l.getD i 0)=true:=allTo_iff
def rch (k:Nat) (net:Net) (p:Int):List Int:=(f52 k net p).getD []
theorem rch_ok {g:Graph} (hg:GOk g) (k:Nat) (hk:1099511627776 < k) {net:Net} (hn:NetOf g net) {p:Int} (hp:spotIs g p=true):f60 k g p=some (rch k net p)∧f52 k net p=some (rch k net p) ∧ (rch k net p).length=g.1.length:=by
 obtain ⟨h0,h1⟩:=spotIs_iff.1 hp
 obtain ⟨s,rfl⟩:∃ s:Nat,p = (s:Int):=⟨p.toNat,by omega⟩
 obtain ⟨out,q1,q2,q3⟩:=same_reach0 hg k hk s (by omega) hn
 unfold rch
 rw [q1,q2]
 exact ⟨rfl,rfl,q3⟩
theorem take_map_succ {α:Type} (f:Int→α) {l:List Int} {i:Nat} (h:i < l.length):(l.take (i+1)).map f = (l.take i).map f ++ [f (l.getD i 0)]:=by
 rw [List.take_succ_eq_append_getElem h,List.map_append]; simp [List.getD_eq_getElem?_getD,h]
def rowOf (k:Nat) (net:Net) (b:List Int) (p:Int):List Int:=b.map fun q => (rch k net p).getD q.toNat 0
theorem e45 {g:Graph} (hg:GOk g) (k:Nat) (hk:1099511627776 < k) {net:Net} (hn:NetOf g net) (a b:List Int) (ha:a.length≤100) (hb:b.length≤100) (ra:spotsOk g a=true) (rb:spotsOk g b=true):f45 k g a b=some (a.map (rowOf k net b)):=by
 have ra':=spotsOk_iff.1 ra
 have rb':=spotsOk_iff.1 rb
 unfold f45
 obtain ⟨t,t1,t2⟩:=foldLoop (L:=f45.l358 k a g b) (n:=a.length) (g:=fun i t => t ++ [rowOf k net b (a.getD i 0)]) (fin:=fun t => some t) (Inv:=fun i t => t = (a.take i).map (rowOf k net b))
  (fun m i t hi ht => by
   refine ⟨by rw [ht,take_map_succ _ hi],?_⟩
   have hbi:(0:Int) ≤ (i:Int) ∧ (i:Int) < (a.length:Int):=⟨by omega,by omega⟩
   have hci:decide ((i:Int) < (a.length:Int))=true:=by simpa using hi
   obtain ⟨r1,r2,r3⟩:=rch_ok hg k hk hn (ra' i hi)
   have htl:t.length≤100:=by rw [ht,List.length_map,List.length_take]; omega
   rw [f45.l358]
   simp only [if_t hci,if_t hbi,Int.toNat_natCast,r1,Option.bind_some]
   obtain ⟨u,u1,u2⟩:=foldLoop (L:=f45.l685 k b (rch k net (a.getD i 0)) t (i:Int) (f45.l358 k a g b m)) (n:=b.length) (g:=fun j u => u ++ [(rch k net (a.getD i 0)).getD (b.getD j 0).toNat 0]) (fin:=fun u => f45.l358 k a g b m (t ++ [u],((i+1:Nat):Int)))
    (Inv:=fun j u => u = (b.take j).map fun q => (rch k net (a.getD i 0)).getD q.toNat 0)
    (fun m' j u hj hu => by
     refine ⟨by rw [hu,take_map_succ (fun q:Int => (rch k net (a.getD i 0)).getD q.toNat 0) hj],?_⟩
     have hbj:(0:Int) ≤ (j:Int) ∧ (j:Int) < (b.length:Int):=⟨by omega,by omega⟩
     have hcj:decide ((j:Int) < (b.length:Int))=true:=by simpa using hj
     have hbp:0≤b.getD j 0∧b.getD j 0 < ((rch k net (a.getD i 0)).length:Int):=by rw [r3]; exact spotIs_iff.1 (rb' j hj)
     have hul:u.length≤100:=by rw [hu,List.length_map,List.length_take]; omega
     rw [f45.l685]
     simp only [if_t hcj,if_t hbj,Int.toNat_natCast,if_t hbp]
     rw [if_t (by simp only [List.length_singleton]; omega),wrap_s (by omega)])
    (fun m' u hu => by
     rw [f45.l685,if_f (by simp),if_t (by simp only [List.length_singleton]; omega),wrap_s (by omega)]) k 0 [] rfl (by omega) (by omega)
   rw [show ((0:Nat):Int)=0 from rfl] at u2
   rw [u2,u1,List.take_length]
   rfl)
  (fun m t ht => by rw [f45.l358,if_f (by simp)]) k 0 [] rfl (by omega) (by omega)
 rw [show ((0:Nat):Int)=0 from rfl] at t2
 rw [t2,t1,List.take_length]
structure FOk (g:Graph) (f:Fleet):Prop where
 gk:GOk g
 n6:f.2.2.2.2.length≤6
 dep:spotIs g f.1=true
 task:∀ i,i < f.2.2.2.2.length→spotIs g (f.2.2.2.2.getD i dT).1=true ∧ (f.2.2.2.2.getD i dT).2.2.1 ≤ (f.2.2.2.2.getD i dT).2.2.2.1
 veh:f.2.2.1≤4
theorem fok {g:Graph} {f:Fleet} (h:fleetOk g f=true):FOk g f:=by
 unfold fleetOk fleetHead at h
 simp only [Bool.and_eq_true,decide_eq_true_eq] at h
 obtain ⟨⟨h1,h2⟩,h3⟩:=h
 have h3':=allTo_iff.1 h3
 refine ⟨gok h1,h2.2,spotIs_iff.2 ⟨h2.1.1.1.1.1.1.1.1,h2.1.1.1.1.1.1.1.2⟩,fun i hi => ?_,h2.1.1.1.2⟩
 have:=h3' i hi
 unfold taskOk at this
 simp only [Bool.and_eq_true,decide_eq_true_eq] at this
 exact ⟨spotIs_iff.2 ⟨this.1.1.1.1.1.1.1.1,this.1.1.1.1.1.1.1.2⟩,this.1.1.1.2⟩
def spots (f:Fleet):List Int:=f.2.2.2.2.map (·.1) ++ [f.1]
theorem spots_len (f:Fleet):(spots f).length=f.2.2.2.2.length+1:=by simp [spots]
theorem spots_task {f:Fleet} {i:Nat} (h:i < f.2.2.2.2.length):(spots f).getD i 0 = (f.2.2.2.2.getD i dT).1:=by
 unfold spots
 rw [List.getD_eq_getElem?_getD,List.getElem?_append_left (by simpa using h),List.getElem?_map,List.getElem?_eq_getElem h,List.getD_eq_getElem?_getD,List.getElem?_eq_getElem h]
 rfl
theorem spots_dep (f:Fleet):(spots f).getD f.2.2.2.2.length 0=f.1:=by
 unfold spots
 rw [List.getD_eq_getElem?_getD,List.getElem?_append_right (by simp)]
 simp
theorem FOk.spot {g:Graph} {f:Fleet} (h:FOk g f) {i:Nat} (hi:i≤f.2.2.2.2.length):spotIs g ((spots f).getD i 0)=true:=by
 by_cases h':i < f.2.2.2.2.length
 ·rw [spots_task h']; exact (h.task i h').1
 ·obtain rfl:i=f.2.2.2.2.length:=by omega
  rw [spots_dep]; exact h.dep
theorem FOk.spots {g:Graph} {f:Fleet} (h:FOk g f):spotsOk g (spots f)=true:=spotsOk_iff.2 fun i hi => h.spot (by rw [spots_len] at hi; omega)
def tm (k:Nat) (net:Net) (p q:Int):Int:=(rch k net p).getD q.toNat 0
def table (k:Nat) (net:Net) (f:Fleet):List (List Int):=(spots f).map (rowOf k net (spots f))
theorem table_len (k:Nat) (net:Net) (f:Fleet):(table k net f).length=f.2.2.2.2.length+1:=by unfold table; rw [List.length_map,spots_len]
theorem table_row {k:Nat} {net:Net} {f:Fleet} {i:Nat} (hi:i≤f.2.2.2.2.length):((table k net f).getD i []).length=f.2.2.2.2.length+1∧∀ j,j≤f.2.2.2.2.length → ((table k net f).getD i []).getD j 0=tm k net ((spots f).getD i 0) ((spots f).getD j 0):=by
 have hi':i < (spots f).length:=by rw [spots_len]; omega
 have e1:(table k net f).getD i []=rowOf k net (spots f) ((spots f).getD i 0):=by
  unfold table
  rw [List.getD_eq_getElem?_getD,List.getElem?_map,List.getElem?_eq_getElem hi',List.getD_eq_getElem?_getD,List.getElem?_eq_getElem hi']
  rfl
 rw [e1]
 unfold rowOf
 refine ⟨by rw [List.length_map,spots_len],fun j hj => ?_⟩
 have hj':j < (spots f).length:=by rw [spots_len]; omega
 rw [List.getD_eq_getElem?_getD,List.getElem?_map,List.getElem?_eq_getElem hj',List.getD_eq_getElem?_getD (l:=spots f) (i:=j),List.getElem?_eq_getElem hj']
 rfl
theorem e26 {g:Graph} {f:Fleet} (hF:FOk g f) (k:Nat) (hk:1099511627776 < k) {net:Net} (hn:NetOf g net):f26 k g f=some (table k net f):=by
 have n6:=hF.n6
 unfold f26
 obtain ⟨s,s1,s2⟩:=foldLoop (L:=f26.l22 k f g) (n:=f.2.2.2.2.length) (g:=fun i t => t ++ [(f.2.2.2.2.getD i dT).1]) (fin:=fun v37 => if ((List.length v37+List.length [f.1])*8≤140737488355328) then ((f45 k g (v37 ++ [f.1]) (v37 ++ [f.1])).bind fun r43 => (some r43)) else none) (Inv:=fun i t => t = (f.2.2.2.2.take i).map (·.1))
  (fun m i t hi ht => by
   have hb:(0:Int) ≤ (i:Int) ∧ (i:Int) < (f.2.2.2.2.length:Int):=⟨by omega,by omega⟩
   have hc:decide ((i:Int) < (f.2.2.2.2.length:Int))=true:=by simpa using hi
   refine ⟨?_,?_⟩
   ·rw [ht,List.take_add_one,List.map_append,List.getD_eq_getElem?_getD,List.getElem?_eq_getElem hi]; rfl
   ·have htl:t.length≤6:=by rw [ht,List.length_map,List.length_take]; omega
    rw [f26.l22]
    simp only [if_t hc,if_t hb,Int.toNat_natCast]
    rw [if_t (by simp only [List.length_singleton]; omega),wrap_s (by omega)])
  (fun m t ht => by rw [f26.l22,if_f (by simp)]) k 0 [] rfl (by omega) (by omega)
 rw [show ((0:Nat):Int)=0 from rfl] at s2
 rw [List.take_length] at s1
 have hsp:s ++ [f.1]=spots f:=by rw [s1]; rfl
 rw [s2,hsp,if_t (by rw [s1,List.length_map,List.length_singleton]; omega),e45 hF.gk k hk hn (spots f) (spots f) (by rw [spots_len]; omega) (by rw [spots_len]; omega) hF.spots hF.spots,Option.bind_some]
 rfl
abbrev Rows_:=List (Int × List Int)
def RowsOk (k:Nat) (net:Net) (M:Rows_) (l:List Int):Prop:=(∀ p,mFind (Sh.beq (.int .i64)) p M=some (rch k net p)∨mFind (Sh.beq (.int .i64)) p M=none)∧∀ p ∈ l,mFind (Sh.beq (.int .i64)) p M=some (rch k net p)
theorem RowsOk.put {k:Nat} {net:Net} {M:Rows_} {l:List Int} (h:RowsOk k net M l) (p:Int):RowsOk k net (mput (Sh.beq (.int .i64)) p (rch k net p) M) (p :: l):=by
 have key:∀ q,mFind (Sh.beq (.int .i64)) q (mput (Sh.beq (.int .i64)) p (rch k net p) M)=if q=p then some (rch k net p) else mFind (Sh.beq (.int .i64)) q M:=fun q => by
  rw [mFind_put (beq_int .i64)]
  by_cases hq:q=p
  ·rw [(beq_int .i64 q p).2 hq,if_pos hq]; rfl
  ·rw [if_neg hq]
   cases hb:Sh.beq (.int .i64) q p with
   | true => exact absurd ((beq_int .i64 q p).1 hb) hq
   | false => rfl
 refine ⟨fun q => ?_,fun q hq => ?_⟩
 ·rw [key]
  by_cases e:q=p
  ·rw [if_pos e,e]; exact .inl rfl
  ·rw [if_neg e]; exact h.1 q
 ·rw [key]
  by_cases e:q=p
  ·rw [if_pos e,e]
  ·rw [if_neg e]; exact h.2 q ((List.mem_cons.1 hq).resolve_left e)
theorem RowsOk.get {k:Nat} {net:Net} {M:Rows_} {l:List Int} (h:RowsOk k net M l) {p:Int} (hp:p ∈ l):mget (Sh.beq (.int .i64)) (some M) p []=rch k net p:=by
 simp only [mget,h.2 p hp]
 rfl
theorem e31_loop {g:Graph} {f:Fleet} (hF:FOk g f) (k:Nat) (hk:1099511627776 < k) {net:Net} (hn:NetOf g net):∀ (d m i:Nat) (M:Rows_),f.2.2.2.2.length - i=d→d < m→i≤f.2.2.2.2.length→RowsOk k net M (f.1 :: (f.2.2.2.2.take i).map (·.1)) →
 ∃ M',f31.l37 k f net m (M,(i:Int))=some (some (f,some M'))∧RowsOk k net M' (spots f):=by
 have n6:=hF.n6
 intro d
 induction d with
 | zero =>
   intro m i M h1 h2 h3 hM
   obtain ⟨m,rfl⟩:∃ q,m=q+1:=⟨m - 1,by omega⟩
   obtain rfl:i=f.2.2.2.2.length:=by omega
   refine ⟨M,by rw [f31.l37,if_f (by simp)],hM.1,fun p hp => hM.2 p ?_⟩
   unfold spots at hp
   rw [List.take_length]
   rcases List.mem_append.1 hp with hp | hp
   ·exact List.mem_cons_of_mem _ hp
   ·rw [List.mem_singleton.1 hp]; exact List.mem_cons_self
 | succ d ih =>
   intro m i M h1 h2 h3 hM
   obtain ⟨m,rfl⟩:∃ q,m=q+1:=⟨m - 1,by omega⟩
   have hi:i < f.2.2.2.2.length:=by omega
   have hb:(0:Int) ≤ (i:Int) ∧ (i:Int) < (f.2.2.2.2.length:Int):=⟨by omega,by omega⟩
   have hc:decide ((i:Int) < (f.2.2.2.2.length:Int))=true:=by simpa using hi
   have hsp:=hF.task i hi
   obtain ⟨_,r2,_⟩:=rch_ok hF.gk k hk hn hsp.1
   have htk:(f.2.2.2.2.take (i+1)).map (·.1) = (f.2.2.2.2.take i).map (·.1) ++ [(f.2.2.2.2.getD i dT).1]:=by
    rw [List.take_add_one,List.map_append,List.getD_eq_getElem?_getD,List.getElem?_eq_getElem hi]; rfl
   rw [f31.l37]
   simp only [if_t hc,if_t hb,Int.toNat_natCast,r2,Option.bind_some,f31.j66]
   rw [wrap_s (by omega)]
   by_cases hh:mhas (Sh.beq (.int .i64)) (some M) (f.2.2.2.2.getD i dT).1=true
   ·rw [if_f (by rw [hh]; simp)]
    refine ih m (i+1) M (by omega) (by omega) (by omega) ⟨hM.1,fun p hp => ?_⟩
    rw [htk] at hp
    rcases List.mem_cons.1 hp with rfl | hp
    ·exact hM.2 _ List.mem_cons_self
    ·rcases List.mem_append.1 hp with hp | hp
     ·exact hM.2 p (List.mem_cons_of_mem _ hp)
     ·rw [List.mem_singleton.1 hp]
      rcases hM.1 (f.2.2.2.2.getD i dT).1 with h' | h'
      ·exact h'
      ·simp only [mhas,h',Option.isSome_none] at hh
       cases hh
   ·rw [if_t (by rw [Bool.eq_false_iff.2 hh]; rfl)]
    have hput:=hM.put (f.2.2.2.2.getD i dT).1
    refine ih m (i+1) _ (by omega) (by omega) (by omega) ⟨hput.1,fun p hp => hput.2 p ?_⟩
    rw [htk] at hp
    rcases List.mem_cons.1 hp with rfl | hp
    ·exact List.mem_cons_of_mem _ List.mem_cons_self
    ·rcases List.mem_append.1 hp with hp | hp
     ·exact List.mem_cons_of_mem _ (List.mem_cons_of_mem _ hp)
     ·rw [List.mem_singleton.1 hp]; exact List.mem_cons_self
theorem e31 (k:Nat) (hk:1099511627776 < k) (g:Graph) (f:Fleet) (h1:g.1.length≤1048576) (h2:g.2.1.length≤1048576) (h3:g.2.2.length≤1048576) (hf:f.2.2.2.2.length≤1048576) :
 (fleetOk g f=false∧f31 k g f=some none) ∨ (fleetOk g f=true∧FOk g f∧∃ net M,NetOf g net∧f31 k g f=some (some (f,some M))∧RowsOk k net M (spots f)):=by
 have q1:=impl50 k (by omega) g f h1 h2 h3 hf
 cases hfo:fleetOk g f with
 | false =>
   refine .inl ⟨rfl,?_⟩
   unfold f31
   rw [q1,hfo,Option.bind_some,if_t (show (!false)=true from rfl)]
 | true =>
   have hF:=fok hfo
   obtain ⟨net,t1,t2⟩:=e51 hF.gk k (by omega)
   obtain ⟨_,r2,_⟩:=rch_ok hF.gk k hk t2 hF.dep
   have h0:RowsOk k net [] []:=⟨fun p => .inr rfl,fun p hp => absurd hp List.not_mem_nil⟩
   obtain ⟨M,m1,m2⟩:=e31_loop hF k hk t2 f.2.2.2.2.length k 0 _ (by omega) (by have:=hF.n6; omega) (by omega) (h0.put f.1)
   refine .inr ⟨rfl,hF,net,M,t2,?_,m2⟩
   unfold f31
   rw [q1,hfo,Option.bind_some,if_f (by simp),t1,Option.bind_some,r2,Option.bind_some]
   exact m1
end Go.Proofs.Ytajigednlopmjaa
end
section
set_option linter.unusedVariables false
set_option linter.unusedSimpArgs false
namespace Go.Proofs.Ytajigednlopmjaa
open Go Go.Vm Go.Proofs V
theorem e38 (k:Nat) (hk:1048576 < k) (a:List Int) (ha:a.length≤1048576) (x:Int):f38 k a x=some (decide (x ∈ a)):=by
 have go:∀ (d i m:Nat),i+d=a.length→d < m→f38.l12 k a x m (i:Int)=some (decide (x ∈ a.drop i)):=by
  intro d
  induction d with
  | zero =>
    intro i m h1 h2
    obtain ⟨m,rfl⟩:∃ q,m=q+1:=⟨m - 1,by omega⟩
    obtain rfl:i=a.length:=by omega
    rw [f38.l12,if_f (by simp)]; simp
  | succ d ih =>
    intro i m h1 h2
    obtain ⟨m,rfl⟩:∃ q,m=q+1:=⟨m - 1,by omega⟩
    have hlt:i < a.length:=by omega
    have hb:(0:Int) ≤ (i:Int) ∧ (i:Int) < (a.length:Int):=⟨by omega,by omega⟩
    have hd:a.drop i=a.getD i 0 :: a.drop (i+1):=by
     rw [List.drop_eq_getElem_cons hlt,List.getD_eq_getElem?_getD,List.getElem?_eq_getElem hlt]; rfl
    rw [f38.l12,if_t (by simpa using hlt),if_t hb,Int.toNat_natCast,wrap_s (by omega),hd]
    by_cases hx:a.getD i 0=x
    ·rw [if_t (by simpa using hx)]; simp only [List.mem_cons,hx.symm,true_or,decide_true]
    ·rw [if_f (by simpa using hx),ih (i+1) m (by omega) (by omega)]
     congr 2
     rw [List.mem_cons,eq_iff_iff]
     exact ⟨fun h => .inr h,fun h => h.resolve_left (fun h => hx h.symm)⟩
 have:=go a.length 0 k (by omega) (by omega)
 rw [List.drop_zero] at this
 exact this
def Mk6 (X:Array Nat) (l:List Int):Prop:=X.size=6∧∀ j:Nat,j < 6 → (X.getD j 0 != 0)=decide ((j:Int) ∈ l)
theorem Mk6.nil:Mk6 (Array.replicate 6 (0:Nat)) []:=⟨by simp,fun j hj => by
 have:(Array.replicate 6 (0:Nat)).getD j 0=0:=by simp [Array.getD_eq_getD_getElem?,Array.getElem?_replicate,hj]
 rw [this]; simp⟩
theorem Mk6.set {X:Array Nat} {l:List Int} (h:Mk6 X l) {k:Nat} (hk:k < 6):Mk6 (X.setIfInBounds k 1) (l ++ [(k:Int)]):=by
 refine ⟨by rw [Array.size_setIfInBounds]; exact h.1,fun j hj => ?_⟩
 by_cases e:k=j
 ·subst e
  have:(X.setIfInBounds k 1).getD k 0=1:=by simp [Array.getD_eq_getD_getElem?,h.1,hk]
  rw [this]
  have:decide ((k:Int) ∈ l ++ [(k:Int)])=true:=decide_eq_true (by simp)
  rw [this]; rfl
 ·have:(X.setIfInBounds k 1).getD j 0=X.getD j 0:=by
   simp [Array.getD_eq_getD_getElem?,Array.getElem?_setIfInBounds,e]
  rw [this,h.2 j hj]
  congr 1
  rw [List.mem_append,List.mem_singleton,eq_iff_iff]
  exact ⟨.inl,fun h => h.resolve_right (by omega)⟩
theorem take_at {l:List Int} {i:Nat} (h:i < l.length):l.take (i+1)=l.take i ++ [l.getD i 0]:=by
 rw [List.take_add_one,List.getD_eq_getElem?_getD,List.getElem?_eq_getElem h]; rfl
def Tail (n:Nat) (x:List Int) (i:Nat):Prop:=∀ j,i≤j→j < x.length → (0≤x.getD j 0∧x.getD j 0 < (n:Int))∧x.getD j 0 ∉ x.take j
theorem a_end {g:Graph} {f:Fleet} (hF:FOk g f) (k:Nat) (hk:1099511627776 < k) {net:Net} (hn:NetOf g net) {M:Rows_} (hM:RowsOk k net M (spots f)) (x:List Int) (hx0:x.length≠0) (hx:x.length≤1048576) {at_:Nat} (hat:at_≤f.2.2.2.2.length) (m:Nat) (drive now load:Int):f25.l65 k x f (table k net f) (m+1) ((drive,(now,(load,(at_:Int)))),(x.length:Int)) =
 if tm k net ((spots f).getD at_ 0) f.1 < 0 then some (-1) else some (IntKind.i64.wrap (drive+tm k net ((spots f).getD at_ 0) f.1)):=by
 obtain ⟨t1,t2⟩:=table_row (k:=k) (net:=net) hat
 have hhome:=t2 f.2.2.2.2.length (Nat.le_refl _)
 rw [spots_dep] at hhome
 have hz:(((x.length:Int)) == (0:Int))=false:=by rw [beq_eq_false_iff_ne]; omega
 rw [f25.l65,if_f (by simp)]
 simp only [hz,cond_false,Int.toNat_natCast,hhome]
 rw [if_t ⟨by omega,by rw [table_len]; omega⟩,if_t ⟨by omega,by rw [t1]; omega⟩]
 by_cases hd:tm k net ((spots f).getD at_ 0) f.1 < 0
 ·rw [if_t (decide_eq_true hd),if_pos hd]
 ·rw [if_f (by rw [decide_eq_true_eq]; exact hd),if_neg hd]
theorem b_end {g:Graph} {f:Fleet} (hF:FOk g f) (k:Nat) (hk:1099511627776 < k) {net:Net} (hn:NetOf g net) {M:Rows_} (hM:RowsOk k net M (spots f)) (x:List Int) (hx0:x.length≠0) (hx:x.length≤1048576) {at_:Nat} (hat:at_≤f.2.2.2.2.length) (m:Nat) (drive now load:Int) (X:Array Nat):f32.l93 k x (f,some M) (m+1) (X,(spots f).getD at_ 0,now,drive,load,(x.length:Int)) =
 if tm k net ((spots f).getD at_ 0) f.1 < 0 then some (-1) else some (IntKind.i64.wrap (drive+tm k net ((spots f).getD at_ 0) f.1)):=by
 have hmem:(spots f).getD at_ 0 ∈ spots f:=getD_in (by rw [spots_len]; omega)
 obtain ⟨_,_,rl⟩:=rch_ok hF.gk k hk hn (hF.spot hat)
 have hmg:mget (Sh.beq (.int .i64)) (some M) ((spots f).getD at_ 0) []=rch k net ((spots f).getD at_ 0):=hM.get hmem
 have hdep:=spotIs_iff.1 hF.dep
 rw [f32.l93,if_f (by simp)]
 simp only [hmg]
 rw [if_t ⟨hdep.1,by rw [rl]; exact hdep.2⟩]
 show (if decide (tm k net ((spots f).getD at_ 0) f.1 < 0)=true then _ else _)=_
 by_cases hd:tm k net ((spots f).getD at_ 0) f.1 < 0
 ·rw [if_t (decide_eq_true hd),if_pos hd]
 ·rw [if_f (by rw [decide_eq_true_eq]; exact hd),if_neg hd]
  rfl
theorem out_range {g:Graph} {f:Fleet} (hF:FOk g f) (k:Nat) (hk:1099511627776 < k) {net:Net} (hn:NetOf g net) {M:Rows_} (hM:RowsOk k net M (spots f)) (x:List Int) (hx0:x.length≠0) (hx:x.length≤1048576) {kk:Int} (hr:¬ (0≤kk∧kk < (f.2.2.2.2.length:Int))):(bif decide (kk < 0) then true else decide (kk ≥ (f.2.2.2.2.length:Int)))=true:=by
 by_cases h0:kk < 0
 ·rw [decide_eq_true h0]; rfl
 ·have:decide (kk ≥ (f.2.2.2.2.length:Int))=true:=decide_eq_true (by omega)
  rw [this]; cases decide (kk < 0) <;> rfl
theorem a_bad {g:Graph} {f:Fleet} (hF:FOk g f) (k:Nat) (hk:1099511627776 < k) {net:Net} (hn:NetOf g net) {M:Rows_} (hM:RowsOk k net M (spots f)) (x:List Int) (hx0:x.length≠0) (hx:x.length≤1048576) {i:Nat} (hi:i < x.length) (hr:¬ (0≤x.getD i 0∧x.getD i 0 < (f.2.2.2.2.length:Int))∨x.getD i 0 ∈ x.take i) (m:Nat) (a:Int × (Int × (Int × Int))):f25.l65 k x f (table k net f) (m+1) (a,(i:Int))=some (-1):=by
 have hb:(0:Int) ≤ (i:Int) ∧ (i:Int) < (x.length:Int):=⟨by omega,by omega⟩
 obtain ⟨kk,hkk⟩:∃ kk,List.getD x i 0=kk:=⟨_,rfl⟩
 rw [hkk] at hr
 rw [f25.l65,if_t (by simpa using hi),if_t hb]
 simp only [Int.toNat_natCast,hkk]
 rw [if_t (fun _ => hb)]
 by_cases hrr:0≤kk∧kk < (f.2.2.2.2.length:Int)
 ·have hin:kk ∈ x.take i:=hr.resolve_left (fun h => h hrr)
  have htk:List.drop 0 (List.take i x)=x.take i:=List.drop_zero
  have a0:(bif decide (kk < 0) then true else decide (kk ≥ (f.2.2.2.2.length:Int)))=false:=by
   have h1:decide (kk < 0)=false:=by rw [decide_eq_false_iff_not]; omega
   have h2:decide (kk ≥ (f.2.2.2.2.length:Int))=false:=by rw [decide_eq_false_iff_not]; omega
   rw [h1,h2]; rfl
  rw [if_t (fun _ => ⟨trivial,by omega,by omega,by omega⟩),if_t (fun _ => hb),if_t a0,htk,e38 k (by omega) _ (by rw [List.length_take]; omega),Option.bind_some,if_t (by rw [a0,cond_false]; exact decide_eq_true hin)]
 ·have a0:=out_range hF k hk hn hM x hx0 hx hrr
  rw [if_t (fun h => by rw [a0] at h; cases h),if_t (fun h => by rw [a0] at h; cases h),if_f (by rw [a0]; simp),Option.bind_some,if_t (by rw [a0]; rfl)]
theorem b_bad {g:Graph} {f:Fleet} (hF:FOk g f) (k:Nat) (hk:1099511627776 < k) {net:Net} (hn:NetOf g net) {M:Rows_} (hM:RowsOk k net M (spots f)) (x:List Int) (hx0:x.length≠0) (hx:x.length≤1048576) {i:Nat} (hi:i < x.length) {X:Array Nat} (hX:Mk6 X (x.take i)) (hr:¬ (0≤x.getD i 0∧x.getD i 0 < (f.2.2.2.2.length:Int))∨x.getD i 0 ∈ x.take i) (m:Nat) (p now drive load:Int):f32.l93 k x (f,some M) (m+1) (X,p,now,drive,load,(i:Int))=some (-1):=by
 have n6:=hF.n6
 have hb:(0:Int) ≤ (i:Int) ∧ (i:Int) < (x.length:Int):=⟨by omega,by omega⟩
 obtain ⟨kk,hkk⟩:∃ kk,List.getD x i 0=kk:=⟨_,rfl⟩
 rw [hkk] at hr
 rw [f32.l93,if_t (by simpa using hi),if_t hb]
 simp only [Int.toNat_natCast,hkk]
 by_cases hrr:0≤kk∧kk < (f.2.2.2.2.length:Int)
 ·have hin:kk ∈ x.take i:=hr.resolve_left (fun h => h hrr)
  obtain ⟨q,rfl⟩:∃ q:Nat,kk = (q:Int):=⟨kk.toNat,by omega⟩
  have hXq:=hX.2 q (by omega)
  rw [if_t (fun _ => ⟨by omega,by omega⟩),if_t (fun _ => by rw [hX.1,Int.toNat_natCast]; omega),Int.toNat_natCast,hXq]
  rw [if_t (by rw [decide_eq_true hin]; cases (bif decide ((q:Int) < 0) then true else decide ((q:Int) ≥ (f.2.2.2.2.length:Int))) <;> rfl)]
 ·have a0:=out_range hF k hk hn hM x hx0 hx hrr
  rw [if_t (fun h => by rw [a0] at h; cases h),if_t (fun h => by rw [a0] at h; cases h),if_t (by rw [a0]; rfl)]
theorem a_go {g:Graph} {f:Fleet} (hF:FOk g f) (k:Nat) (hk:1099511627776 < k) {net:Net} (hn:NetOf g net) {M:Rows_} (hM:RowsOk k net M (spots f)) (x:List Int) (hx0:x.length≠0) (hx:x.length≤1048576) {i:Nat} (hi:i < x.length) {q:Nat} (hkk:List.getD x i 0 = (q:Int)) (hq:q < f.2.2.2.2.length) (hin:(q:Int) ∉ x.take i) {at_:Nat} (hat:at_≤f.2.2.2.2.length) (m:Nat) (drive now load:Int) :
 f25.l65 k x f (table k net f) (m+1) ((drive,(now,(load,(at_:Int)))),(i:Int)) =
  if tm k net ((spots f).getD at_ 0) (f.2.2.2.2.getD q dT).1 < 0 then some (-1) else
  if (bif decide ((if IntKind.i64.wrap (now+tm k net ((spots f).getD at_ 0) (f.2.2.2.2.getD q dT).1) < (f.2.2.2.2.getD q dT).2.2.1 then (f.2.2.2.2.getD q dT).2.2.1 else IntKind.i64.wrap (now+tm k net ((spots f).getD at_ 0) (f.2.2.2.2.getD q dT).1)) > (f.2.2.2.2.getD q dT).2.2.2.1) then true else decide (IntKind.i64.wrap (load + (f.2.2.2.2.getD q dT).2.1) > f.2.2.2.1))=true then some (-1) else
  f25.l65 k x f (table k net f) m ((IntKind.i64.wrap (drive+tm k net ((spots f).getD at_ 0) (f.2.2.2.2.getD q dT).1),(IntKind.i64.wrap ((if IntKind.i64.wrap (now+tm k net ((spots f).getD at_ 0) (f.2.2.2.2.getD q dT).1) < (f.2.2.2.2.getD q dT).2.2.1 then (f.2.2.2.2.getD q dT).2.2.1 else IntKind.i64.wrap (now+tm k net ((spots f).getD at_ 0) (f.2.2.2.2.getD q dT).1)) + (f.2.2.2.2.getD q dT).2.2.2.2),(IntKind.i64.wrap (load + (f.2.2.2.2.getD q dT).2.1),(q:Int)))),((i+1:Nat):Int)):=by
 have hb:(0:Int) ≤ (i:Int) ∧ (i:Int) < (x.length:Int):=⟨by omega,by omega⟩
 have bq:(0:Int) ≤ (q:Int) ∧ (q:Int) < (f.2.2.2.2.length:Int):=⟨by omega,by omega⟩
 obtain ⟨t1,t2⟩:=table_row (k:=k) (net:=net) hat
 have hd:=t2 q (by omega)
 rw [spots_task hq] at hd
 have htk:List.drop 0 (List.take i x)=x.take i:=List.drop_zero
 have a0:(bif decide ((q:Int) < 0) then true else decide ((q:Int) ≥ (f.2.2.2.2.length:Int)))=false:=by
  have h1:decide ((q:Int) < 0)=false:=by rw [decide_eq_false_iff_not]; omega
  have h2:decide ((q:Int) ≥ (f.2.2.2.2.length:Int))=false:=by rw [decide_eq_false_iff_not]; omega
  rw [h1,h2]; rfl
 rw [f25.l65,if_t (by simpa using hi),if_t hb]
 simp only [Int.toNat_natCast,hkk]
 rw [if_t (fun _ => hb),if_t (fun _ => ⟨trivial,by omega,by omega,by omega⟩),if_t (fun _ => hb),if_t a0,htk,e38 k (by omega) _ (by rw [List.length_take]; omega),Option.bind_some,
  if_f (by rw [a0,cond_false,decide_eq_true_eq]; exact hin),if_t hb]
 unfold f44
 simp only [f44.j2,Int.toNat_natCast]
 rw [if_t bq,if_t ⟨by omega,by rw [table_len]; omega⟩,if_t ⟨by omega,by rw [t1]; omega⟩]
 simp only [hd]
 generalize tm k net ((spots f).getD at_ 0) (f.2.2.2.2.getD q dT).1=D
 by_cases hD:D < 0
 ·rw [if_t (decide_eq_true hD),if_pos hD,Option.bind_some]
  rfl
 ·have hD':¬ decide (D < 0)=true:=by rw [decide_eq_true_eq]; exact hD
  rw [if_f hD',if_neg hD]
  by_cases ho:IntKind.i64.wrap (now+D) < (f.2.2.2.2.getD q dT).2.2.1
  ·rw [if_t (decide_eq_true ho),if_pos ho]
   by_cases hcl:(bif decide ((f.2.2.2.2.getD q dT).2.2.1 > (f.2.2.2.2.getD q dT).2.2.2.1) then true else decide (IntKind.i64.wrap (load + (f.2.2.2.2.getD q dT).2.1) > f.2.2.2.1))=true
   ·rw [if_t hcl,if_pos hcl,Option.bind_some]; rfl
   ·rw [if_f hcl,if_neg hcl,Option.bind_some,wrap_s (by omega)]; rfl
  ·have ho':¬ decide (IntKind.i64.wrap (now+D) < (f.2.2.2.2.getD q dT).2.2.1)=true:=by rw [decide_eq_true_eq]; exact ho
   rw [if_f ho',if_neg ho]
   by_cases hcl:(bif decide (IntKind.i64.wrap (now+D) > (f.2.2.2.2.getD q dT).2.2.2.1) then true else decide (IntKind.i64.wrap (load + (f.2.2.2.2.getD q dT).2.1) > f.2.2.2.1))=true
   ·rw [if_t hcl,if_pos hcl,Option.bind_some]; rfl
   ·rw [if_f hcl,if_neg hcl,Option.bind_some,wrap_s (by omega)]; rfl
theorem b_go {g:Graph} {f:Fleet} (hF:FOk g f) (k:Nat) (hk:1099511627776 < k) {net:Net} (hn:NetOf g net) {M:Rows_} (hM:RowsOk k net M (spots f)) (x:List Int) (hx0:x.length≠0) (hx:x.length≤1048576) {i:Nat} (hi:i < x.length) {X:Array Nat} (hX:Mk6 X (x.take i)) {q:Nat} (hkk:List.getD x i 0 = (q:Int)) (hq:q < f.2.2.2.2.length) (hin:(q:Int) ∉ x.take i) {at_:Nat} (hat:at_≤f.2.2.2.2.length) (m:Nat) (drive now load:Int) :
 f32.l93 k x (f,some M) (m+1) (X,(spots f).getD at_ 0,now,drive,load,(i:Int)) =
  if tm k net ((spots f).getD at_ 0) (f.2.2.2.2.getD q dT).1 < 0 then some (-1) else
  if (bif decide ((if IntKind.i64.wrap (now+tm k net ((spots f).getD at_ 0) (f.2.2.2.2.getD q dT).1) < (f.2.2.2.2.getD q dT).2.2.1 then (f.2.2.2.2.getD q dT).2.2.1 else IntKind.i64.wrap (now+tm k net ((spots f).getD at_ 0) (f.2.2.2.2.getD q dT).1)) > (f.2.2.2.2.getD q dT).2.2.2.1) then true else decide (IntKind.i64.wrap (load + (f.2.2.2.2.getD q dT).2.1) > f.2.2.2.1))=true then some (-1) else
  f32.l93 k x (f,some M) m (X.setIfInBounds q 1,(spots f).getD q 0,IntKind.i64.wrap ((if IntKind.i64.wrap (now+tm k net ((spots f).getD at_ 0) (f.2.2.2.2.getD q dT).1) < (f.2.2.2.2.getD q dT).2.2.1 then (f.2.2.2.2.getD q dT).2.2.1 else IntKind.i64.wrap (now+tm k net ((spots f).getD at_ 0) (f.2.2.2.2.getD q dT).1)) + (f.2.2.2.2.getD q dT).2.2.2.2),IntKind.i64.wrap (drive+tm k net ((spots f).getD at_ 0) (f.2.2.2.2.getD q dT).1),IntKind.i64.wrap (load + (f.2.2.2.2.getD q dT).2.1),((i+1:Nat):Int)):=by
 have n6:=hF.n6
 have hb:(0:Int) ≤ (i:Int) ∧ (i:Int) < (x.length:Int):=⟨by omega,by omega⟩
 have bq:(0:Int) ≤ (q:Int) ∧ (q:Int) < (f.2.2.2.2.length:Int):=⟨by omega,by omega⟩
 have hmem:(spots f).getD at_ 0 ∈ spots f:=getD_in (by rw [spots_len]; omega)
 obtain ⟨_,_,rl⟩:=rch_ok hF.gk k hk hn (hF.spot hat)
 have hmg:mget (Sh.beq (.int .i64)) (some M) ((spots f).getD at_ 0) []=rch k net ((spots f).getD at_ 0):=hM.get hmem
 have htask:=hF.task q hq
 have hsq:=spotIs_iff.1 htask.1
 have a0:(bif decide ((q:Int) < 0) then true else decide ((q:Int) ≥ (f.2.2.2.2.length:Int)))=false:=by
  have h1:decide ((q:Int) < 0)=false:=by rw [decide_eq_false_iff_not]; omega
  have h2:decide ((q:Int) ≥ (f.2.2.2.2.length:Int))=false:=by rw [decide_eq_false_iff_not]; omega
  rw [h1,h2]; rfl
 have hXq:=hX.2 q (by omega)
 have b6:(0:Int) ≤ (q:Int) ∧ (q:Int) < 6:=⟨by omega,by omega⟩
 have bX:q < X.size:=by rw [hX.1]; omega
 rw [f32.l93,if_t (by simpa using hi),if_t hb]
 simp only [Int.toNat_natCast,hkk,hmg,f32.j175]
 rw [if_t (fun _ => b6),if_t (fun _ => bX),if_f (by rw [a0,cond_false,hXq,decide_eq_true_eq]; exact hin),if_t b6,if_t bX,if_t bq,if_t ⟨hsq.1,by rw [rl]; exact hsq.2⟩]
 have hrow:List.getD (rch k net ((spots f).getD at_ 0)) (Int.toNat (f.2.2.2.2.getD q dT).1) 0=tm k net ((spots f).getD at_ 0) (f.2.2.2.2.getD q dT).1:=rfl
 simp only [hrow]
 rw [spots_task hq]
 generalize tm k net ((spots f).getD at_ 0) (f.2.2.2.2.getD q dT).1=D
 have hle:=htask.2
 by_cases hD:D < 0
 ·rw [if_t (decide_eq_true hD),if_pos hD]
 ·have hD':¬ decide (D < 0)=true:=by rw [decide_eq_true_eq]; exact hD
  rw [if_f hD',if_neg hD,Option.bind_some,wrap_s (by omega)]
  by_cases ho:IntKind.i64.wrap (now+D) < (f.2.2.2.2.getD q dT).2.2.1
  ·have c3:decide (IntKind.i64.wrap (now+D) > (f.2.2.2.2.getD q dT).2.2.2.1)=false:=by rw [decide_eq_false_iff_not]; omega
   have c4:decide ((f.2.2.2.2.getD q dT).2.2.1 > (f.2.2.2.2.getD q dT).2.2.2.1)=false:=by rw [decide_eq_false_iff_not]; omega
   rw [if_pos ho,c3,c4]
   by_cases hcl:(bif false then true else decide (IntKind.i64.wrap (load + (f.2.2.2.2.getD q dT).2.1) > f.2.2.2.1))=true
   ·rw [if_t hcl,if_pos hcl]
   ·rw [if_f hcl,if_neg hcl,if_t (decide_eq_true ho)]
  ·have ho':¬ decide (IntKind.i64.wrap (now+D) < (f.2.2.2.2.getD q dT).2.2.1)=true:=by rw [decide_eq_true_eq]; exact ho
   rw [if_neg ho]
   by_cases hcl:(bif decide (IntKind.i64.wrap (now+D) > (f.2.2.2.2.getD q dT).2.2.2.1) then true else decide (IntKind.i64.wrap (load + (f.2.2.2.2.getD q dT).2.1) > f.2.2.2.1))=true
   ·rw [if_t hcl,if_pos hcl]
   ·rw [if_f hcl,if_neg hcl,if_f ho']
theorem rd {g:Graph} {f:Fleet} (hF:FOk g f) (k:Nat) (hk:1099511627776 < k) {net:Net} (hn:NetOf g net) {M:Rows_} (hM:RowsOk k net M (spots f)) (x:List Int) (hx0:x.length≠0) (hx:x.length≤1048576):∀ (d m m' i at_:Nat) (drive now load:Int) (X:Array Nat),x.length - i=d→d < m→d < m'→i≤x.length→at_≤f.2.2.2.2.length→Mk6 X (x.take i) →
 ∃ t,f25.l65 k x f (table k net f) m ((drive,(now,(load,(at_:Int)))),(i:Int))=some t∧f32.l93 k x (f,some M) m' (X,(spots f).getD at_ 0,now,drive,load,(i:Int))=some t ∧ (t = -1∨Tail f.2.2.2.2.length x i):=by
 have n6:=hF.n6
 intro d
 induction d with
 | zero =>
   intro m m' i at_ drive now load X h1 h2 h2' h3 hat hX
   obtain ⟨m,rfl⟩:∃ q,m=q+1:=⟨m - 1,by omega⟩
   obtain ⟨m',rfl⟩:∃ q,m'=q+1:=⟨m' - 1,by omega⟩
   obtain rfl:i=x.length:=by omega
   rw [a_end hF k hk hn hM x hx0 hx hat,b_end hF k hk hn hM x hx0 hx hat]
   by_cases hd:tm k net ((spots f).getD at_ 0) f.1 < 0
   ·rw [if_pos hd]; exact ⟨_,rfl,rfl,.inl rfl⟩
   ·rw [if_neg hd]; exact ⟨_,rfl,rfl,.inr (fun j a b => by omega)⟩
 | succ d ih =>
   intro m m' i at_ drive now load X h1 h2 h2' h3 hat hX
   obtain ⟨m,rfl⟩:∃ q,m=q+1:=⟨m - 1,by omega⟩
   obtain ⟨m',rfl⟩:∃ q,m'=q+1:=⟨m' - 1,by omega⟩
   have hi:i < x.length:=by omega
   by_cases hr:¬ (0≤x.getD i 0∧x.getD i 0 < (f.2.2.2.2.length:Int))∨x.getD i 0 ∈ x.take i
   ·rw [a_bad hF k hk hn hM x hx0 hx hi hr,b_bad hF k hk hn hM x hx0 hx hi hX hr]
    exact ⟨_,rfl,rfl,.inl rfl⟩
   ·have hr1:0≤x.getD i 0∧x.getD i 0 < (f.2.2.2.2.length:Int):=Classical.byContradiction fun h => hr (.inl h)
    have hin:x.getD i 0 ∉ x.take i:=fun h => hr (.inr h)
    obtain ⟨q,hkk⟩:∃ q:Nat,x.getD i 0 = (q:Int):=⟨(x.getD i 0).toNat,by omega⟩
    rw [hkk] at hr1 hin
    have hq:q < f.2.2.2.2.length:=by omega
    have htail:∀ t:Int,(t = -1∨Tail f.2.2.2.2.length x (i+1)) → (t = -1∨Tail f.2.2.2.2.length x i):=fun t h => h.imp id fun h j a b => by
     by_cases e:j=i
     ·subst e
      rw [hkk]
      exact ⟨hr1,hin⟩
     ·exact h j (by omega) b
    have hXs:=hX.set (k:=q) (by omega)
    have htk2:x.take (i+1)=x.take i ++ [(q:Int)]:=by rw [take_at hi,hkk]
    rw [← htk2] at hXs
    rw [a_go hF k hk hn hM x hx0 hx hi hkk hq hin hat,b_go hF k hk hn hM x hx0 hx hi hX hkk hq hin hat]
    generalize tm k net ((spots f).getD at_ 0) (f.2.2.2.2.getD q dT).1=D
    generalize (if IntKind.i64.wrap (now+D) < (f.2.2.2.2.getD q dT).2.2.1 then (f.2.2.2.2.getD q dT).2.2.1 else IntKind.i64.wrap (now+D))=W
    by_cases hD:D < 0
    ·rw [if_pos hD,if_pos hD]; exact ⟨_,rfl,rfl,.inl rfl⟩
    ·rw [if_neg hD,if_neg hD]
     by_cases hcl:(bif decide (W > (f.2.2.2.2.getD q dT).2.2.2.1) then true else decide (IntKind.i64.wrap (load + (f.2.2.2.2.getD q dT).2.1) > f.2.2.2.1))=true
     ·rw [if_pos hcl,if_pos hcl]; exact ⟨_,rfl,rfl,.inl rfl⟩
     ·rw [if_neg hcl,if_neg hcl]
      obtain ⟨t,p1,p2,p3⟩:=ih m m' (i+1) q (IntKind.i64.wrap (drive+D)) (IntKind.i64.wrap (W + (f.2.2.2.2.getD q dT).2.2.2.2)) (IntKind.i64.wrap (load + (f.2.2.2.2.getD q dT).2.1)) _ (by omega) (by omega) (by omega) (by omega) (by omega) hXs
      exact ⟨t,p1,p2,htail t p3⟩
theorem round_eq {g:Graph} {f:Fleet} (hF:FOk g f) (k:Nat) (hk:1099511627776 < k) {net:Net} (hn:NetOf g net) {M:Rows_} (hM:RowsOk k net M (spots f)) (x:List Int) (hx:x.length≤1048576) :
 ∃ t,f25 k f (table k net f) x=some t∧f32 k (f,some M) x=some t ∧ (t = -1 ∨ (x.length≠0∧Tail f.2.2.2.2.length x 0)):=by
 have n6:=hF.n6
 unfold f25 f32 f43
 rw [Option.bind_some]
 by_cases hx0:x.length=0
 ·have hz:(((x.length:Int)) == (0:Int))=true:=by rw [hx0]; rfl
  have hnil:x=[]:=List.eq_nil_of_length_eq_zero hx0
  subst hnil
  refine ⟨-1,?_,if_t hz,.inl rfl⟩
  obtain ⟨k',rfl⟩:∃ q,k=q+1:=⟨k - 1,by omega⟩
  obtain ⟨t1,t2⟩:=table_row (k:=k'+1) (net:=net) (f:=f) (Nat.le_refl f.2.2.2.2.length)
  rw [f25.l65,if_f (by simp)]
  simp only [Int.toNat_natCast]
  rw [if_t ⟨by omega,by rw [table_len]; omega⟩,if_t ⟨by omega,by rw [t1]; omega⟩]
  rfl
 ·have hz:(((x.length:Int)) == (0:Int))=false:=by rw [beq_eq_false_iff_ne]; omega
  obtain ⟨t,p1,p2,p3⟩:=rd hF k hk hn hM x hx0 hx x.length k k 0 f.2.2.2.2.length 0 f.2.1 0 (Array.replicate 6 0) (by omega) (by omega) (by omega) (by omega) (Nat.le_refl _) (by rw [List.take_zero]; exact Mk6.nil)
  rw [spots_dep] at p2
  refine ⟨t,p1,?_,p3.imp id fun h => ⟨hx0,h⟩⟩
  rw [if_f (by rw [hz]; simp)]
  exact p2
theorem tail_nodup {n:Nat} {x:List Int} (h:Tail n x 0):x.Nodup∧∀ y ∈ x,0≤y∧y < (n:Int):=by
 have hmem:∀ y ∈ x,0≤y∧y < (n:Int):=fun y hy => by
  obtain ⟨j,hj,rfl⟩:=mem_getD (d:=0) hy
  exact (h j (by omega) hj).1
 refine ⟨?_,hmem⟩
 rw [List.nodup_iff_pairwise_ne,List.pairwise_iff_getElem]
 intro i j hi hj hij e
 have:=(h j (by omega) hj).2
 apply this
 rw [List.getD_eq_getElem?_getD,List.getElem?_eq_getElem hj,Option.getD_some,← e]
 exact List.mem_take_iff_getElem.2 ⟨i,by omega,rfl⟩
theorem nodup_range_len {n:Nat} {x:List Int} (hn:x.Nodup) (h:∀ y ∈ x,0≤y∧y < (n:Int)):x.length≤n:=by
 have h1:(x.map Int.toNat).Nodup:=by
  rw [List.nodup_iff_pairwise_ne,List.pairwise_map]
  exact List.Pairwise.imp_of_mem (fun {a b} ha hb hab e => hab (by have:=h a ha; have:=h b hb; omega)) (List.nodup_iff_pairwise_ne.1 hn)
 have:=nodupO_len h1 (n:=n) (fun i hi => by
  obtain ⟨y,hy,rfl⟩:=List.mem_map.1 hi
  have:=h y hy
  omega)
 rwa [List.length_map] at this
end Go.Proofs.Ytajigednlopmjaa
end
section
set_option linter.unusedVariables false
set_option linter.unusedSimpArgs false
namespace Go.Proofs.Ytajigednlopmjaa
open Go Go.Vm Go.Proofs V
theorem same_round (k:Nat) (hk:1099511627776 < k) (g:Graph) (f:Fleet) (x:List Int) (h1:g.1.length≤1048576) (h2:g.2.1.length≤1048576) (h3:g.2.2.length≤1048576) (hf:f.2.2.2.2.length≤1048576) (hx:x.length≤1048576) :
 ∃ t,f7 k g f x=some t∧f11 k g f x=some t:=by
 have q1:=spec24 k (by omega) g f h1 h2 h3 hf
 unfold f7 f11
 rcases e31 k hk g f h1 h2 h3 hf with ⟨hfo,e1⟩ | ⟨hfo,hF,net,M,hn,e1,hM⟩
 ·rw [q1,e1,hfo,Option.bind_some,Option.bind_some]
  exact ⟨_,if_t rfl,rfl⟩
 ·rw [q1,e1,hfo,Option.bind_some,Option.bind_some]
  obtain ⟨t,p1,p2,p3⟩:=round_eq hF k hk hn hM x hx
  have e2:optC (some (f,some M)) (some (-1:Int)) (fun y2 => (f32 k y2 x).bind fun r3 => (some r3))=some t:=by
   show (f32 k (f,some M) x).bind _=_
   rw [p2,Option.bind_some]
  rw [e2]
  by_cases hl:(x.length:Int) > 6
  ·have ht:t = -1:=by
    rcases p3 with h | ⟨_,hT⟩
    ·exact h
    ·obtain ⟨n1,n2⟩:=tail_nodup hT
     have:=nodup_range_len n1 n2
     have:=hF.n6
     omega
   refine ⟨t,?_,rfl⟩
   rw [if_t (by rw [decide_eq_true hl]; rfl),ht]
  ·have c1:decide ((x.length:Int) > 6)=false:=by rw [decide_eq_false_iff_not]; exact hl
   refine ⟨t,?_,rfl⟩
   rw [if_f (by rw [c1]; simp),e26 hF k hk hn,Option.bind_some,p1,Option.bind_some]
end Go.Proofs.Ytajigednlopmjaa
end
