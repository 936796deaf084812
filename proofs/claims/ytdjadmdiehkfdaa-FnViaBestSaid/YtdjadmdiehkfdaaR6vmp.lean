/-
  Laws of the graph statements, turned to this seat's numbers by a program of this project (port4.py). No condition.
-/
import Derived.Test.YtdjadmdiehkfdaaR6vlb
set_option linter.unusedVariables false
set_option linter.unusedSimpArgs false
namespace Go.Proofs.Ytdjadmdiehkfdaa
open Go Go.Vm Go.Proofs V
abbrev Tags:=List (ByteArray × ByteArray)
abbrev Nod:=Int × ((Int × Int) × Tags)
abbrev Wy:=Int × (List Int × Tags)
abbrev Ar:=Int × (List (Int × Bool) × Tags)
abbrev Mp:=List Nod × (List Wy × List Ar)
abbrev dT:ByteArray × ByteArray:=((⟨#[]⟩:ByteArray),(⟨#[]⟩:ByteArray))
abbrev dN:Nod:=((0:Int),(((0:Int),(0:Int)),([]:(List (ByteArray × ByteArray)))))
abbrev dW:Wy:=((0:Int),(([]:List Int),([]:(List (ByteArray × ByteArray)))))
abbrev dA:Ar:=((0:Int),(([]:List (Int × Bool)),([]:(List (ByteArray × ByteArray)))))
abbrev dP:Int × Bool:=((0:Int),false)
def chB (b:Int):Bool:=bif (bif (bif (bif (decide ((b:Int) ≥ (97:Int))) then (decide ((b:Int) ≤ (122:Int))) else false) then true else (bif (decide ((b:Int) ≥ (48:Int))) then (decide ((b:Int) ≤ (57:Int))) else false)) then true else ((b:Int) == (58:Int))) then true else ((b:Int) == (95:Int))
def vaB (b:Int):Bool:=!(bif (decide ((b:Int) < (32:Int))) then true else (decide ((b:Int) > (126:Int))))
def wordB (s:ByteArray):Bool:=(decide (1≤s.size) && decide (s.size≤40)) && allTo (fun i => chB (byteAt s (i:Int))) s.size
def valB (s:ByteArray):Bool:=(decide (1≤s.size) && decide (s.size≤100)) && allTo (fun i => vaB (byteAt s (i:Int))) s.size
theorem sz_ge (s:ByteArray):decide ((ByteArray.size s:Int) ≥ (1:Int))=decide (1≤s.size):=decide_eq_decide.2 (by omega)
theorem sz_le (s:ByteArray) (n:Nat) (N:Int) (h:N = (n:Int)):decide ((ByteArray.size s:Int)≤N)=decide (s.size≤n):=by subst h; exact decide_eq_decide.2 (by omega)
theorem e117 (k:Nat) (hk:1048576 < k) (s:ByteArray) (hs:s.size≤1048576):f117 k s=some (wordB s):=by
 have q:=allLoop (L:=f117.l12 k s) (n:=s.size) (p:=fun i => chB (byteAt s (i:Int))) (fin:=some (bif (decide ((ByteArray.size s:Int) ≥ (1:Int))) then (decide ((ByteArray.size s:Int) ≤ (40:Int))) else false)) (fun m i hi => by
  have hb:(0:Int) ≤ (i:Int) ∧ (i:Int) < (ByteArray.size s:Int):=⟨by omega,by omega⟩
  have hc:decide ((i:Int) < (ByteArray.size s:Int))=true:=decide_eq_true hb.2
  rw [f117.l12,if_t hc,if_t hb,wrap_s (by omega)]
  show (if (!chB (byteAt s (i:Int)))=true then _ else _)=_
  cases chB (byteAt s (i:Int)) <;> rfl) (fun m => by rw [f117.l12,if_f (by simp)]) (k:=k) (by omega)
 unfold f117 wordB
 rw [q,sz_ge,sz_le s 40 40 rfl]
 generalize allTo (fun i => chB (byteAt s (i:Int))) s.size=A
 generalize decide (1≤s.size)=B
 generalize decide (s.size≤40)=C
 cases A <;> cases B <;> cases C <;> rfl
theorem e118 (k:Nat) (hk:1048576 < k) (s:ByteArray) (hs:s.size≤1048576):f118 k s=some (valB s):=by
 have q:=allLoop (L:=f118.l18 k s) (n:=s.size) (p:=fun i => vaB (byteAt s (i:Int))) (fin:=some (bif (decide ((ByteArray.size s:Int) ≥ (1:Int))) then (decide ((ByteArray.size s:Int) ≤ (100:Int))) else false)) (fun m i hi => by
  have hb:(0:Int) ≤ (i:Int) ∧ (i:Int) < (ByteArray.size s:Int):=⟨by omega,by omega⟩
  have hc:decide ((i:Int) < (ByteArray.size s:Int))=true:=decide_eq_true hb.2
  rw [f118.l18,if_t hc,if_t hb,if_t (fun _ => hb),wrap_s (by omega)]
  unfold vaB
  by_cases hA:(bif (decide ((byteAt s (i:Int):Int) < (32:Int))) then true else (decide ((byteAt s (i:Int):Int) > (126:Int))))=true
  ·rw [if_t hA,hA]; rfl
  ·rw [if_f hA,eq_false_of_ne_true hA]; rfl) (fun m => by rw [f118.l18,if_f (by simp)]) (k:=k) (by omega)
 unfold f118 valB
 rw [q,sz_ge,sz_le s 100 100 rfl]
 generalize allTo (fun i => vaB (byteAt s (i:Int))) s.size=A
 generalize decide (1≤s.size)=B
 generalize decide (s.size≤100)=C
 cases A <;> cases B <;> cases C <;> rfl
def ascT (ts:Tags) (i:Nat):Bool:=decide (i=0) || Op.bytesLess (ByteArray.toList (ts.getD (i - 1) dT).1) (ByteArray.toList (ts.getD i dT).1)
def okTag (ts:Tags) (i:Nat):Bool:=(wordB (ts.getD i dT).1 && valB (ts.getD i dT).2) && ascT ts i
def tagsOk (ts:Tags):Bool:=decide (ts.length≤30) && allTo (okTag ts) ts.length
def TSz (ts:Tags):Prop:=∀ t ∈ ts,t.1.size≤1048576∧t.2.size≤1048576
theorem in_getD {α:Type} {d:α} {l:List α} {i:Nat} (h:i < l.length):l.getD i d ∈ l:=by
 simp [List.getD_eq_getElem?_getD,h]
theorem e110 (k:Nat) (hk:1048576 < k) (ts:Tags) (hz:TSz ts):f110 k ts=some (tagsOk ts):=by
 unfold f110 tagsOk
 by_cases hl:ts.length≤30
 ·have hl':decide ((List.length ts:Int) ≤ (30:Int))=true:=decide_eq_true (by omega)
  have q:=allLoop (L:=f110.l54 k ts) (n:=ts.length) (p:=okTag ts) (fin:=some true) (fun m i hi => by
   have hb:(0:Int) ≤ (i:Int) ∧ (i:Int) < (ts.length:Int):=⟨by omega,by omega⟩
   have hc:decide ((i:Int) < (ts.length:Int))=true:=decide_eq_true hb.2
   have h1:=hz _ (in_getD (d:=dT) hi)
   rw [f110.l54,hc,cond_true,if_t hl',if_t hb,wrap_s (by omega)]
   simp only [Int.toNat_natCast,e117 k hk _ h1.1,e118 k hk _ h1.2,Option.bind_some]
   unfold okTag ascT
   generalize wordB (ts.getD i dT).1=A
   generalize valB (ts.getD i dT).2=B
   rcases i with _ | j
   ·have hne:¬ ts=[]:=fun h => by rw [h] at hi; simp at hi
    cases A <;> cases B <;> simp [hne]
   ·have hj:(0:Int) ≤ (j:Int) ∧ (j:Int) < (ts.length:Int):=⟨by omega,by omega⟩
    have hb':(0:Int) ≤ (j:Int)+1 ∧ (j:Int)+1 < (ts.length:Int):=⟨by omega,by omega⟩
    simp only [wrap_p j (by omega),pos_succ,Int.toNat_natCast,Nat.add_sub_cancel]
    generalize Op.bytesLess (ByteArray.toList (ts.getD j dT).1) (ByteArray.toList (ts.getD (j+1) dT).1)=C
    cases A <;> cases B <;> cases C <;> simp [hb',hj]) (fun m => by
   have hc:decide ((ts.length:Int) < (ts.length:Int))=false:=decide_eq_false (by omega)
   rw [f110.l54,hc,cond_false,if_f (by simp),hl']) (k:=k) (by omega)
  rw [q,decide_eq_true hl]
  cases allTo (okTag ts) ts.length <;> rfl
 ·have hl':decide ((List.length ts:Int) ≤ (30:Int))=false:=decide_eq_false (by omega)
  obtain ⟨k',rfl⟩:∃ q,k=q+1:=⟨k - 1,by omega⟩
  rw [f110.l54,hl',decide_eq_false hl]
  cases decide ((0:Int) < (List.length ts:Int)) <;> rfl
def hasNode (m:Mp) (x:Int):Bool:=decide (x ∈ m.1.map (·.1))
def hasWay (m:Mp) (x:Int):Bool:=decide (x ∈ m.2.1.map (·.1))
def okNode (m:Mp) (i:Nat):Bool:=((idB (m.1.getD i dN).1 && ptB (m.1.getD i dN).2.1) && tagsOk (m.1.getD i dN).2.2) && (decide (i=0) || decide ((m.1.getD (i - 1) dN).1 < (m.1.getD i dN).1))
def okStop (m:Mp) (l:List Int) (j:Nat):Bool:=hasNode m (l.getD j 0) && (decide (j=0) || !decide (l.getD j 0=l.getD (j - 1) 0))
def okWay (m:Mp) (i:Nat):Bool:=((((idB (m.2.1.getD i dW).1 && tagsOk (m.2.1.getD i dW).2.2) && decide (2 ≤ (m.2.1.getD i dW).2.1.length)) && decide ((m.2.1.getD i dW).2.1.length≤2000)) && allTo (okStop m (m.2.1.getD i dW).2.1) (m.2.1.getD i dW).2.1.length) && (decide (i=0) || decide ((m.2.1.getD (i - 1) dW).1 < (m.2.1.getD i dW).1))
def okPart (m:Mp) (l:List (Int × Bool)) (j:Nat):Bool:=hasWay m (l.getD j dP).1 && allTo (fun q => !decide ((l.getD q dP).1 = (l.getD j dP).1)) j
def okArea (m:Mp) (i:Nat):Bool:=((((idB (m.2.2.getD i dA).1 && tagsOk (m.2.2.getD i dA).2.2) && decide (1 ≤ (m.2.2.getD i dA).2.1.length)) && decide ((m.2.2.getD i dA).2.1.length≤30)) && allTo (okPart m (m.2.2.getD i dA).2.1) (m.2.2.getD i dA).2.1.length) && (decide (i=0) || decide ((m.2.2.getD (i - 1) dA).1 < (m.2.2.getD i dA).1))
def lensOk (m:Mp):Bool:=(decide (m.1.length≤5000) && decide (m.2.1.length≤1000)) && decide (m.2.2.length≤300)
def mapOk (m:Mp):Bool:=((lensOk m && allTo (okNode m) m.1.length) && allTo (okWay m) m.2.1.length) && allTo (okArea m) m.2.2.length
structure MSz (m:Mp):Prop where
 n:∀ x ∈ m.1,TSz x.2.2
 w:∀ x ∈ m.2.1,TSz x.2.2
 a:∀ x ∈ m.2.2,TSz x.2.2
 wl:∀ x ∈ m.2.1,x.2.1.length≤1048576
 al:∀ x ∈ m.2.2,x.2.1.length≤1048576
theorem len_lt (n:Nat) (c:Nat) (C:Int) (h:C = (c:Int)):decide ((n:Int) < C)=!decide (c≤n):=by
 subst h; rw [← decide_not]; exact decide_eq_decide.2 (by omega)
theorem node_id {m:Mp} (hs:allTo (okNode m) m.1.length=true) {i j:Nat} (hij:i < j) (hj:j < m.1.length):(m.1.getD i dN).1 < (m.1.getD j dN).1:=by
 obtain ⟨d,rfl⟩:∃ d,j=i+d+1:=⟨j - i - 1,by omega⟩
 clear hij
 induction d with
 | zero =>
   have:=allTo_iff.1 hs (i+0+1) hj
   unfold okNode at this
   simp only [Bool.and_eq_true,Bool.or_eq_true,decide_eq_true_eq] at this
   rcases this.2 with h | h
   ·omega
   ·exact h
 | succ d ih =>
   have h1:=ih (by omega)
   have:=allTo_iff.1 hs (i + (d+1)+1) hj
   unfold okNode at this
   simp only [Bool.and_eq_true,Bool.or_eq_true,decide_eq_true_eq] at this
   rcases this.2 with h | h
   ·omega
   ·rw [show i + (d+1)+1 - 1=i+d+1 by omega] at h
    omega
theorem has_iff {m:Mp} {x:Int}:hasNode m x=true↔∃ i,i < m.1.length ∧ (m.1.getD i dN).1=x:=by
 unfold hasNode
 rw [decide_eq_true_eq,List.mem_map]
 constructor
 ·rintro ⟨y,hy,rfl⟩
  obtain ⟨i,hi,rfl⟩:=List.mem_iff_getElem.1 hy
  exact ⟨i,hi,by simp [List.getD_eq_getElem?_getD,hi]⟩
 ·rintro ⟨i,hi,rfl⟩
  exact ⟨_,in_getD hi,rfl⟩
theorem hasW_iff {m:Mp} {x:Int}:hasWay m x=true↔∃ i,i < m.2.1.length ∧ (m.2.1.getD i dW).1=x:=by
 unfold hasWay
 rw [decide_eq_true_eq,List.mem_map]
 constructor
 ·rintro ⟨y,hy,rfl⟩
  obtain ⟨i,hi,rfl⟩:=List.mem_iff_getElem.1 hy
  exact ⟨i,hi,by simp [List.getD_eq_getElem?_getD,hi]⟩
 ·rintro ⟨i,hi,rfl⟩
  exact ⟨_,in_getD hi,rfl⟩
theorem half {lo hi:Nat} (h:lo < hi) (hm:hi≤1048576):IntKind.i64.wrap (Int.tdiv (IntKind.i64.wrap ((lo:Int) + (hi:Int))) 2) = (((lo+hi) / 2:Nat):Int):=by
 rw [wrap_in (n:=(lo:Int) + (hi:Int)) (by omega) (by omega),Int.tdiv_eq_ediv_of_nonneg (by omega),wrap_in (by omega) (by omega)]
 omega
theorem find138 (k:Nat) (m:Mp) (x:Int) (hm:m.1.length≤1048576) (hasc:∀ i j,i < j→j < m.1.length → (m.1.getD i dN).1 < (m.1.getD j dN).1):∀ (f lo hi:Nat),lo≤hi→hi≤m.1.length→hi - lo < f → (∀ j,j < lo → (m.1.getD j dN).1 < x) → (∀ j,hi≤j→j < m.1.length→x ≤ (m.1.getD j dN).1) →
 ∃ r,f99.l16 k m x f ((lo:Int),(hi:Int))=some r ∧ ((hasNode m x=true∧∃ i:Nat,r = (i:Int)∧i < m.1.length ∧ (m.1.getD i dN).1=x) ∨ (hasNode m x=false∧r = -1))
 | 0,lo,hi,_,_,h,_,_ => by omega
 | f+1,lo,hi,h1,h2,h3,hlo,hhi => by
   rw [f99.l16]
   by_cases hlt:lo < hi
   ·have c1:decide ((lo:Int) < (hi:Int))=true:=decide_eq_true (by omega)
    have hb:(0:Int) ≤ (((lo+hi) / 2:Nat):Int) ∧ (((lo+hi) / 2:Nat):Int) < (m.1.length:Int):=⟨by omega,by omega⟩
    rw [if_t c1,if_t (by decide),half hlt (by omega),if_t hb,Int.toNat_natCast]
    by_cases hx:(m.1.getD ((lo+hi) / 2) dN).1 < x
    ·rw [if_t (decide_eq_true hx),wrap_s (by omega)]
     refine find138 k m x hm hasc f ((lo+hi) / 2+1) hi (by omega) h2 (by omega) (fun j hj => ?_) hhi
     by_cases hje:j = (lo+hi) / 2
     ·subst hje; exact hx
     ·have:=hasc j ((lo+hi) / 2) (by omega) (by omega)
      omega
    ·rw [if_f (by simpa using hx)]
     refine find138 k m x hm hasc f lo ((lo+hi) / 2) (by omega) (by omega) (by omega) hlo (fun j hj hj2 => ?_)
     by_cases hje:j = (lo+hi) / 2
     ·subst hje; omega
     ·have:=hasc ((lo+hi) / 2) j (by omega) hj2
      omega
   ·have hle:lo=hi:=by omega
    subst hle
    have c1:¬ (decide ((lo:Int) < (lo:Int))=true):=by simp
    rw [if_f c1]
    by_cases hl:lo < m.1.length
    ·have hb:(0:Int) ≤ (lo:Int) ∧ (lo:Int) < (m.1.length:Int):=⟨by omega,by omega⟩
     have c2:decide ((lo:Int) < (m.1.length:Int))=true:=decide_eq_true hb.2
     rw [if_t (fun _ => hb),c2,cond_true,Int.toNat_natCast]
     by_cases hx:(m.1.getD lo dN).1=x
     ·rw [if_t (beq_iff_eq.2 hx)]
      exact ⟨_,rfl,.inl ⟨has_iff.2 ⟨lo,hl,hx⟩,lo,rfl,hl,hx⟩⟩
     ·rw [if_f (fun h => hx (beq_iff_eq.1 h))]
      refine ⟨_,rfl,.inr ⟨?_,rfl⟩⟩
      cases hh:hasNode m x with
      | false => rfl
      | true =>
        obtain ⟨i,hi,he⟩:=has_iff.1 hh
        rcases Nat.lt_trichotomy i lo with h | h | h
        ·have:=hlo i h; omega
        ·subst h; exact absurd he hx
        ·have:=hhi lo (Nat.le_refl _) hl
         have:=hasc lo i h hi
         omega
    ·have c2:decide ((lo:Int) < (m.1.length:Int))=false:=decide_eq_false (by omega)
     rw [c2,if_t (by simp),cond_false,if_f (by simp)]
     refine ⟨_,rfl,.inr ⟨?_,rfl⟩⟩
     cases hh:hasNode m x with
     | false => rfl
     | true =>
       obtain ⟨i,hi,he⟩:=has_iff.1 hh
       have:=hlo i (by omega)
       omega
theorem e99 (k:Nat) (hk:1048576 < k) (m:Mp) (x:Int) (hm:m.1.length≤1048576) (hasc:∀ i j,i < j→j < m.1.length → (m.1.getD i dN).1 < (m.1.getD j dN).1):∃ r,f99 k m x=some r ∧ ((hasNode m x=true∧∃ i:Nat,r = (i:Int)∧i < m.1.length ∧ (m.1.getD i dN).1=x) ∨ (hasNode m x=false∧r = -1)) :=
 find138 k m x hm hasc k 0 m.1.length (Nat.zero_le _) (Nat.le_refl _) (by omega) (fun j hj => by omega) (fun j h1 h2 => by omega)
theorem e119 (k:Nat) (hk:1048576 < k) (m:Mp) (x:Int) (hm:m.2.1.length≤1048576):∃ r,f119 k m x=some r∧decide (r < 0)=!hasWay m x:=by
 have go:∀ (d f i:Nat),m.2.1.length - i=d→d < f→i≤m.2.1.length → (∀ j,j < i → (m.2.1.getD j dW).1≠x)→∃ r,f119.l12 k m x f (i:Int)=some r∧decide (r < 0)=!hasWay m x:=by
  intro d
  induction d with
  | zero =>
    intro f i h1 h2 h3 hn
    obtain ⟨f,rfl⟩:∃ q,f=q+1:=⟨f - 1,by omega⟩
    obtain rfl:i=m.2.1.length:=by omega
    rw [f119.l12,if_f (by simp)]
    refine ⟨_,rfl,?_⟩
    cases hh:hasWay m x with
    | false => rfl
    | true => obtain ⟨j,hj,he⟩:=hasW_iff.1 hh; exact absurd he (hn j hj)
  | succ d ih =>
    intro f i h1 h2 h3 hn
    obtain ⟨f,rfl⟩:∃ q,f=q+1:=⟨f - 1,by omega⟩
    have hlt:i < m.2.1.length:=by omega
    have hb:(0:Int) ≤ (i:Int) ∧ (i:Int) < (m.2.1.length:Int):=⟨by omega,by omega⟩
    rw [f119.l12,if_t (decide_eq_true hb.2),if_t hb,Int.toNat_natCast]
    by_cases hx:(m.2.1.getD i dW).1=x
    ·rw [if_t (beq_iff_eq.2 hx)]
     refine ⟨_,rfl,?_⟩
     rw [hasW_iff.2 ⟨i,hlt,hx⟩]
     simp
    ·rw [if_f (fun h => hx (beq_iff_eq.1 h)),wrap_s (by omega)]
     exact ih f (i+1) (by omega) (by omega) (by omega) (fun j hj => by
      by_cases hje:j=i
      ·subst hje; exact hx
      ·exact hn j (by omega))
 exact go m.2.1.length k 0 (by omega) (by omega) (Nat.zero_le _) (fun j hj => by omega)
theorem eq_dec (a b:Int):(a == b)=decide (a=b):=by by_cases h:a=b <;> simp [h]
theorem stops_spec (k:Nat) (hk:1048576 < k) (m:Mp) (hm:m.1.length≤1048576) (hasc:∀ i j,i < j→j < m.1.length → (m.1.getD i dN).1 < (m.1.getD j dN).1) (w:Wy) (hl:w.2.1.length≤1048576):f111.l38 k w m k 0=some (allTo (okStop m w.2.1) w.2.1.length):=by
 have q:=allLoop (L:=f111.l38 k w m) (n:=w.2.1.length) (p:=okStop m w.2.1) (fin:=some true) (fun f i hi => by
  have hb:(0:Int) ≤ (i:Int) ∧ (i:Int) < (w.2.1.length:Int):=⟨by omega,by omega⟩
  obtain ⟨r,r1,r2⟩:=e99 k hk m (w.2.1.getD i 0) hm hasc
  have hr:decide (r < 0)=!hasNode m (w.2.1.getD i 0):=by
   rcases r2 with ⟨h1,j,h2,_⟩ | ⟨h1,h2⟩
   ·rw [h1,h2]; simp
   ·rw [h1,h2]; rfl
  rw [f111.l38,if_t (decide_eq_true hb.2),if_t hb,wrap_s (by omega)]
  simp only [Int.toNat_natCast,r1,Option.bind_some,hr]
  unfold okStop
  generalize hasNode m (w.2.1.getD i 0)=A
  rcases i with _ | j
  ·cases A <;> simp
  ·have hj:(0:Int) ≤ (j:Int) ∧ (j:Int) < (w.2.1.length:Int):=⟨by omega,by omega⟩
   have hb':(0:Int) ≤ (j:Int)+1 ∧ (j:Int)+1 < (w.2.1.length:Int):=⟨by omega,by omega⟩
   simp only [wrap_p j (by omega),pos_succ,Int.toNat_natCast,Nat.add_sub_cancel,eq_dec]
   generalize decide (w.2.1.getD (j+1) 0=w.2.1.getD j 0)=C
   cases A <;> cases C <;> simp [hb',hj]) (fun f => by rw [f111.l38,if_f (by simp)]) (k:=k) (by omega)
 rw [q]
 cases allTo (okStop m w.2.1) w.2.1.length <;> rfl
theorem e111 (k:Nat) (hk:1048576 < k) (m:Mp) (hm:m.1.length≤1048576) (hasc:∀ i j,i < j→j < m.1.length → (m.1.getD i dN).1 < (m.1.getD j dN).1) (w:Wy) (hl:w.2.1.length≤1048576) (hz:TSz w.2.2) :
 f111 k m w=some ((((idB w.1 && tagsOk w.2.2) && decide (2≤w.2.1.length)) && decide (w.2.1.length≤2000)) && allTo (okStop m w.2.1) w.2.1.length):=by
 unfold f111
 rw [stops_spec k hk m hm hasc w hl]
 simp only [e70,e110 k hk _ hz,Option.bind_some,len_lt _ 2 2 rfl,gt_lit _ 2000 2000 rfl]
 generalize idB w.1=A
 generalize tagsOk w.2.2=B
 generalize decide (2≤w.2.1.length)=C
 generalize decide (w.2.1.length≤2000)=D
 generalize allTo (okStop m w.2.1) w.2.1.length=E
 cases A <;> cases B <;> cases C <;> cases D <;> cases E <;> rfl
theorem parts_spec (k:Nat) (hk:1048576 < k) (m:Mp) (hm:m.2.1.length≤1048576) (a:Ar) (hl:a.2.1.length≤1048576):f112.l128 k a m k 0=some (allTo (okPart m a.2.1) a.2.1.length):=by
 have q:=allLoop (L:=f112.l128 k a m) (n:=a.2.1.length) (p:=okPart m a.2.1) (fin:=some true) (fun f i hi => by
  have hb:(0:Int) ≤ (i:Int) ∧ (i:Int) < (a.2.1.length:Int):=⟨by omega,by omega⟩
  obtain ⟨r,r1,r2⟩:=e119 k hk m (a.2.1.getD i dP).1 hm
  have inner:=allLoopI (L:=f112.l234 k (i:Int) a (f112.l128 k a m f)) (n:=i) (p:=fun q => !decide ((a.2.1.getD q dP).1 = (a.2.1.getD i dP).1)) (bad:=some false) (fin:=f112.l128 k a m f ((i+1:Nat):Int)) (fun f j hj => by
   have hbj:(0:Int) ≤ (j:Int) ∧ (j:Int) < (a.2.1.length:Int):=⟨by omega,by omega⟩
   rw [f112.l234,if_t (decide_eq_true (show (j:Int) < (i:Int) by omega)),if_t hbj,if_t hb,wrap_s (by omega)]
   simp only [Int.toNat_natCast,eq_dec]
   generalize decide ((a.2.1.getD j dP).1 = (a.2.1.getD i dP).1)=C
   cases C <;> rfl) (fun f => by rw [f112.l234,if_f (by simp),wrap_s (by omega)]) (k:=k) (by omega)
  rw [f112.l128,if_t (decide_eq_true hb.2),if_t hb]
  simp only [Int.toNat_natCast,r1,Option.bind_some,r2,inner]
  unfold okPart
  generalize hasWay m (a.2.1.getD i dP).1=A
  generalize allTo (fun q => !decide ((a.2.1.getD q dP).1 = (a.2.1.getD i dP).1)) i=B
  cases A <;> cases B <;> rfl) (fun f => by rw [f112.l128,if_f (by simp)]) (k:=k) (by omega)
 rw [q]
 cases allTo (okPart m a.2.1) a.2.1.length <;> rfl
theorem e112 (k:Nat) (hk:1048576 < k) (m:Mp) (hm:m.2.1.length≤1048576) (a:Ar) (hl:a.2.1.length≤1048576) (hz:TSz a.2.2) :
 f112 k m a=some ((((idB a.1 && tagsOk a.2.2) && decide (1≤a.2.1.length)) && decide (a.2.1.length≤30)) && allTo (okPart m a.2.1) a.2.1.length):=by
 unfold f112
 rw [parts_spec k hk m hm a hl]
 simp only [e70,e110 k hk _ hz,Option.bind_some,len_lt _ 1 1 rfl,gt_lit _ 30 30 rfl]
 generalize idB a.1=A
 generalize tagsOk a.2.2=B
 generalize decide (1≤a.2.1.length)=C
 generalize decide (a.2.1.length≤30)=D
 generalize allTo (okPart m a.2.1) a.2.1.length=E
 cases A <;> cases B <;> cases C <;> cases D <;> cases E <;> rfl
theorem e97 (k:Nat) (hk:1048576 < k) (m:Mp) (hz:MSz m):f97 k m=some (mapOk m):=by
 unfold f97 mapOk lensOk
 simp only [gt_lit _ 5000 5000 rfl,gt_lit _ 1000 1000 rfl,gt_lit _ 300 300 rfl]
 by_cases h1:m.1.length≤5000
 ·by_cases h2:m.2.1.length≤1000
  ·by_cases h3:m.2.2.length≤300
   ·have q3:f97.l212 k m k 0=some (allTo (okArea m) m.2.2.length):=by
     have q:=allLoop (L:=f97.l212 k m) (n:=m.2.2.length) (p:=okArea m) (fin:=some true) (fun f i hi => by
      have hb:(0:Int) ≤ (i:Int) ∧ (i:Int) < (m.2.2.length:Int):=⟨by omega,by omega⟩
      have hmem:=in_getD (d:=dA) hi
      have e:=e112 k hk m (by omega) (m.2.2.getD i dA) (hz.al _ hmem) (hz.a _ hmem)
      rw [f97.l212,if_t (decide_eq_true hb.2),if_t hb,wrap_s (by omega)]
      simp only [Int.toNat_natCast,e,Option.bind_some]
      unfold okArea
      generalize ((((idB (m.2.2.getD i dA).1 && tagsOk (m.2.2.getD i dA).2.2) && decide (1 ≤ (m.2.2.getD i dA).2.1.length)) && decide ((m.2.2.getD i dA).2.1.length≤30)) && allTo (okPart m (m.2.2.getD i dA).2.1) (m.2.2.getD i dA).2.1.length)=A
      rcases i with _ | j
      ·cases A <;> simp
      ·have hj:(0:Int) ≤ (j:Int) ∧ (j:Int) < (m.2.2.length:Int):=⟨by omega,by omega⟩
       have hb':(0:Int) ≤ (j:Int)+1 ∧ (j:Int)+1 < (m.2.2.length:Int):=⟨by omega,by omega⟩
       simp only [wrap_p j (by omega),pos_succ,Int.toNat_natCast,Nat.add_sub_cancel,ge_not]
       generalize decide ((m.2.2.getD j dA).1 < (m.2.2.getD (j+1) dA).1)=C
       cases A <;> cases C <;> simp [hb',hj]) (fun f => by rw [f97.l212,if_f (by simp)]) (k:=k) (by omega)
     rw [q]; cases allTo (okArea m) m.2.2.length <;> rfl
    have q1:=allLoop (L:=f97.l54 k m) (n:=m.1.length) (p:=okNode m) (fin:=f97.l142 k m k 0) (fun f i hi => by
     have hb:(0:Int) ≤ (i:Int) ∧ (i:Int) < (m.1.length:Int):=⟨by omega,by omega⟩
     have hmem:=in_getD (d:=dN) hi
     rw [f97.l54,if_t (decide_eq_true hb.2),if_t hb,wrap_s (by omega)]
     simp only [Int.toNat_natCast,e70,e71,e110 k hk _ (hz.n _ hmem),Option.bind_some]
     unfold okNode
     generalize idB (m.1.getD i dN).1=A
     generalize ptB (m.1.getD i dN).2.1=B
     generalize tagsOk (m.1.getD i dN).2.2=D
     rcases i with _ | j
     ·cases A <;> cases B <;> cases D <;> simp
     ·have hj:(0:Int) ≤ (j:Int) ∧ (j:Int) < (m.1.length:Int):=⟨by omega,by omega⟩
      have hb':(0:Int) ≤ (j:Int)+1 ∧ (j:Int)+1 < (m.1.length:Int):=⟨by omega,by omega⟩
      simp only [wrap_p j (by omega),pos_succ,Int.toNat_natCast,Nat.add_sub_cancel,ge_not]
      generalize decide ((m.1.getD j dN).1 < (m.1.getD (j+1) dN).1)=C
      cases A <;> cases B <;> cases D <;> cases C <;> simp [hb',hj]) (fun f => by rw [f97.l54,if_f (by simp)]) (k:=k) (by omega)
    rw [q1]
    cases hn:allTo (okNode m) m.1.length with
    | false => simp [h1,h2,h3]
    | true =>
      have hasc:∀ i j,i < j→j < m.1.length → (m.1.getD i dN).1 < (m.1.getD j dN).1:=fun i j h h' => node_id hn h h'
      have q2:=allLoop (L:=f97.l142 k m) (n:=m.2.1.length) (p:=okWay m) (fin:=f97.l212 k m k 0) (fun f i hi => by
       have hb:(0:Int) ≤ (i:Int) ∧ (i:Int) < (m.2.1.length:Int):=⟨by omega,by omega⟩
       have hmem:=in_getD (d:=dW) hi
       have e:=e111 k hk m (by omega) hasc (m.2.1.getD i dW) (hz.wl _ hmem) (hz.w _ hmem)
       rw [f97.l142,if_t (decide_eq_true hb.2),if_t hb,wrap_s (by omega)]
       simp only [Int.toNat_natCast,e,Option.bind_some]
       unfold okWay
       generalize ((((idB (m.2.1.getD i dW).1 && tagsOk (m.2.1.getD i dW).2.2) && decide (2 ≤ (m.2.1.getD i dW).2.1.length)) && decide ((m.2.1.getD i dW).2.1.length≤2000)) && allTo (okStop m (m.2.1.getD i dW).2.1) (m.2.1.getD i dW).2.1.length)=A
       rcases i with _ | j
       ·cases A <;> simp
       ·have hj:(0:Int) ≤ (j:Int) ∧ (j:Int) < (m.2.1.length:Int):=⟨by omega,by omega⟩
        have hb':(0:Int) ≤ (j:Int)+1 ∧ (j:Int)+1 < (m.2.1.length:Int):=⟨by omega,by omega⟩
        simp only [wrap_p j (by omega),pos_succ,Int.toNat_natCast,Nat.add_sub_cancel,ge_not]
        generalize decide ((m.2.1.getD j dW).1 < (m.2.1.getD (j+1) dW).1)=C
        cases A <;> cases C <;> simp [hb',hj]) (fun f => by rw [f97.l142,if_f (by simp)]) (k:=k) (by omega)
      rw [q2,q3]
      cases allTo (okWay m) m.2.1.length <;> simp [h1,h2,h3]
   ·simp [h3]
  ·simp [h2]
 ·simp [h1]
theorem root_spec (k n:Nat) (hn:n≤9223372036854775807):∀ (d m lo hi:Nat),hi+1 - lo≤2 ^ d→d < m→lo≤hi→hi≤3037000499→lo*lo≤n→n < (hi+1) * (hi+1) →
 ∃ r:Nat,f114.l13 k (n:Int) m ((lo:Int),(hi:Int))=some (r:Int)∧r*r≤n∧n < (r+1) * (r+1)
 | d,0,lo,hi,_,h,_,_,_,_ => by omega
 | 0,m+1,lo,hi,h1,_,h2,h3,h4,h5 => by
   obtain rfl:hi=lo:=by rw [Nat.pow_zero] at h1; omega
   rw [f114.l13,if_f (by rw [decide_eq_true_eq]; omega)]
   exact ⟨_,rfl,h4,h5⟩
 | d+1,m+1,lo,hi,h1,hm,h2,h3,h4,h5 => by
   rw [f114.l13]
   by_cases hgt:lo < hi
   ·have hmid:IntKind.i64.wrap (Int.tdiv (IntKind.i64.wrap ((IntKind.i64.wrap ((lo:Int) + (hi:Int)))+1)) 2) = (((lo+hi+1) / 2:Nat):Int):=by
     rw [wrap_in (n:=(lo:Int) + (hi:Int)) (by omega) (by omega),wrap_in (n:=(lo:Int) + (hi:Int)+1) (by omega) (by omega),Int.tdiv_eq_ediv_of_nonneg (by omega),wrap_in (by omega) (by omega)]
     omega
    have hd:2 ^ (d+1)=2*2 ^ d:=by rw [Nat.pow_succ]; omega
    rw [if_t (decide_eq_true (show (lo:Int) < (hi:Int) by omega)),if_t (by decide),hmid]
    generalize hM:(lo+hi+1) / 2=M
    have hMM:M*M≤3037000499*3037000499:=Nat.mul_self_le_mul_self (by omega)
    have hsq:IntKind.i64.wrap ((M:Int) * (M:Int)) = ((M*M:Nat):Int):=by rw [← Int.natCast_mul]; exact wrap_in (by omega) (by omega)
    rw [hsq]
    by_cases hle:M*M≤n
    ·rw [if_t (decide_eq_true (show ((M*M:Nat):Int) ≤ (n:Int) by omega))]
     exact root_spec k n hn d m M hi (by omega) (by omega) (by omega) h3 hle h5
    ·have hp:IntKind.i64.wrap ((M:Int) - 1) = ((M - 1:Nat):Int):=by rw [wrap_in (by omega) (by omega)]; omega
     rw [if_f (by rw [decide_eq_true_eq]; omega),hp]
     exact root_spec k n hn d m lo (M - 1) (by omega) (by omega) (by omega) (by omega) h4 (by rw [show M - 1+1=M by omega]; omega)
   ·obtain rfl:hi=lo:=by omega
    rw [if_f (by rw [decide_eq_true_eq]; omega)]
    exact ⟨_,rfl,h4,h5⟩
theorem e114 (k n:Nat) (hk:64 < k) (hn:n≤9223372036854775807):∃ r:Nat,f114 k (n:Int)=some (r:Int)∧r*r≤n∧n < (r+1) * (r+1):=by
 unfold f114
 rw [if_f (by rw [decide_eq_true_eq]; omega)]
 exact root_spec k n hn 32 k 0 3037000499 (by decide) (by omega) (by decide) (by decide) (Nat.zero_le _) (Nat.lt_of_le_of_lt hn (by decide))
theorem sq_of {x:Int} (h1:-20000000≤x) (h2:x≤20000000):x*x = ((x.natAbs*x.natAbs:Nat):Int)∧x.natAbs*x.natAbs≤400000000000000:=by
 refine ⟨Int.natAbs_mul_self.symm,?_⟩
 have:x.natAbs≤20000000:=by omega
 exact Nat.mul_self_le_mul_self this
theorem pt_bd {p:Int × Int} (h:ptB p=true):-10000000≤p.1∧p.1≤10000000 ∧ -10000000≤p.2∧p.2≤10000000:=by
 unfold ptB at h
 cases h1:decide (p.1 ≥ -10000000) with
 | false => simp [h1] at h
 | true =>
   cases h2:decide (p.1≤10000000) with
   | false => simp [h1,h2] at h
   | true =>
     cases h3:decide (p.2 ≥ -10000000) with
     | false => simp [h1,h2,h3] at h
     | true =>
       simp [h1,h2,h3] at h
       simp at h1 h2 h3
       omega
def spd (k:Nat) (ts:Tags) (v:Int):Int:=(f98 k ts v).getD 0
abbrev nmB:ByteArray:=(⟨#[110,97,109,101]⟩:ByteArray)
structure MOk (m:Mp):Prop where
 n1:m.1.length≤5000
 n2:m.2.1.length≤1000
 asc:∀ i j,i < j→j < m.1.length → (m.1.getD i dN).1 < (m.1.getD j dN).1
 pt:∀ i,i < m.1.length→ptB (m.1.getD i dN).2.1=true
 ways:∀ i,i < m.2.1.length→2 ≤ (m.2.1.getD i dW).2.1.length ∧ (m.2.1.getD i dW).2.1.length≤2000∧∀ j,j < (m.2.1.getD i dW).2.1.length→hasNode m ((m.2.1.getD i dW).2.1.getD j 0)=true
theorem mok {m:Mp} (h:mapOk m=true):MOk m:=by
 unfold mapOk lensOk at h
 simp only [Bool.and_eq_true,decide_eq_true_eq] at h
 obtain ⟨⟨⟨⟨⟨h1,h2⟩,h3⟩,hn⟩,hw⟩,ha⟩:=h
 refine ⟨h1,h2,fun i j h h' => node_id hn h h',fun i hi => ?_,fun i hi => ?_⟩
 ·have:=allTo_iff.1 hn i hi
  unfold okNode at this
  simp only [Bool.and_eq_true] at this
  exact this.1.1.2
 ·have:=allTo_iff.1 hw i hi
  unfold okWay at this
  simp only [Bool.and_eq_true,decide_eq_true_eq] at this
  refine ⟨this.1.1.1.2,this.1.1.2,fun j hj => ?_⟩
  have:=allTo_iff.1 this.1.2 j hj
  unfold okStop at this
  simp only [Bool.and_eq_true] at this
  exact this.1
abbrev noG:Graph:=(([]:(List (Int × (Int × Int)))),(([]:(List (Int × (Int × (Int × (Int × (Int × ByteArray))))))),([]:(List (Int × Int)))))
theorem ends (k:Nat) (hk:1048576 < k) (P:List Spot) (R:List Road) (hP:P.length≤1048576):∃ b,f47 k (P,(R,([]:(List (Int × Int)))))=some b∧f9 k (P,(R,([]:(List (Int × Int)))))=some b ∧ (b=true→R.length≤1048576):=by
 by_cases hR:R.length≤1048576
 ·exact ⟨_,spec47 k hk _ hP hR (by simp),impl9 k hk _ hP hR (by simp),fun _ => hR⟩
 ·have h1:decide ((List.length R:Int) > (8000:Int))=true:=decide_eq_true (by omega)
  refine ⟨false,?_,?_,fun h => by cases h⟩
  ·unfold f47
   simp only [h1]
   cases decide ((List.length P:Int) > (5000:Int)) <;> rfl
  ·unfold f9
   simp only [h1]
   cases decide ((List.length P:Int) > (5000:Int)) <;> rfl
theorem find131 (k:Nat) (P:List Spot) (R:List Road) (B:List Ban) (hP:P.length≤1048576) (hasc:∀ i j,i < j→j < P.length → (P.getD i dS).1 < (P.getD j dS).1) (t:Nat) (ht:t < P.length) (x:Int) (hx:(P.getD t dS).1=x):∀ (f lo hi:Nat),lo≤hi→hi≤P.length→hi - lo < f→lo≤t→t≤hi → (∀ j,hi≤j→j < P.length→x ≤ (P.getD j dS).1) →
 f101.l16 k (P,(R,B)) x f ((lo:Int),(hi:Int))=some (t:Int)
 | 0,lo,hi,_,_,h,_,_,_ => by omega
 | f+1,lo,hi,h1,h2,h3,hlo,hhi,hge => by
   rw [f101.l16]
   by_cases hlt:lo < hi
   ·have c1:decide ((lo:Int) < (hi:Int))=true:=decide_eq_true (by omega)
    have hb:(0:Int) ≤ (((lo+hi) / 2:Nat):Int) ∧ (((lo+hi) / 2:Nat):Int) < (P.length:Int):=⟨by omega,by omega⟩
    rw [if_t c1,if_t (by decide),half hlt (by omega),if_t hb,Int.toNat_natCast]
    by_cases hx2:(P.getD ((lo+hi) / 2) dS).1 < x
    ·rw [if_t (decide_eq_true hx2),wrap_s (by omega)]
     refine find131 k P R B hP hasc t ht x hx f ((lo+hi) / 2+1) hi (by omega) h2 (by omega) ?_ hhi hge
     rcases Nat.lt_trichotomy t ((lo+hi) / 2) with h | h | h
     ·have:=hasc t ((lo+hi) / 2) h (by omega); omega
     ·subst h; omega
     ·omega
    ·rw [if_f (by simpa using hx2)]
     refine find131 k P R B hP hasc t ht x hx f lo ((lo+hi) / 2) (by omega) (by omega) (by omega) hlo ?_ (fun j hj hj2 => ?_)
     ·rcases Nat.lt_trichotomy t ((lo+hi) / 2) with h | h | h
      ·omega
      ·omega
      ·have:=hasc ((lo+hi) / 2) t h ht; omega
     ·by_cases hje:j = (lo+hi) / 2
      ·subst hje; omega
      ·have:=hasc ((lo+hi) / 2) j (by omega) hj2
       omega
   ·have e1:lo=t:=by omega
    have e2:hi=t:=by omega
    subst e1
    have c1:¬ (decide ((lo:Int) < (hi:Int))=true):=by simp; omega
    have hb:(0:Int) ≤ (lo:Int) ∧ (lo:Int) < (P.length:Int):=⟨by omega,by omega⟩
    rw [if_f c1,if_t (fun _ => hb),decide_eq_true hb.2,cond_true,Int.toNat_natCast,if_t (beq_iff_eq.2 hx)]
theorem e101 (k:Nat) (hk:1048576 < k) (P:List Spot) (R:List Road) (B:List Ban) (hP:P.length≤1048576) (hasc:∀ i j,i < j→j < P.length → (P.getD i dS).1 < (P.getD j dS).1) {t:Nat} (ht:t < P.length) {x:Int} (hx:(P.getD t dS).1=x):f101 k (P,(R,B)) x=some (t:Int) :=
 find131 k P R B hP hasc t ht x hx k 0 P.length (Nat.zero_le _) (Nat.le_refl _) (by omega) (Nat.zero_le _) (by omega) (fun j h1 h2 => by omega)
theorem gd_app_l {α:Type} {d x:α} {l:List α} {i:Nat} (h:i < l.length):(List.append l [x]).getD i d=l.getD i d:=by
 show (l ++ [x]).getD i d=_
 simp [List.getD_eq_getElem?_getD,List.getElem?_append_left h]
theorem gd_app_r {α:Type} {d x:α} {l:List α}:(List.append l [x]).getD l.length d=x:=by
 show (l ++ [x]).getD l.length d=_
 simp [List.getD_eq_getElem?_getD]
end Go.Proofs.Ytdjadmdiehkfdaa
