/-
  Own texts of this project, joined. No condition.
-/
import Derived.Test.YtnpaokckkbhdjaaR7kp
section
set_option linter.unusedVariables false
set_option linter.unusedSimpArgs false
namespace Go.Proofs.Ytnpaokckkbhdjaa
open Go Go.Vm Go.Proofs V
abbrev Tag:=ByteArray × ByteArray
abbrev Tags:=List Tag
abbrev Test:=ByteArray × (Int × ByteArray)
abbrev Tests:=List Test
abbrev Rule:=Int × (Int × (Tests × (Bool × (ByteArray × (Int × Int)))))
abbrev dRu:Rule:=((0:Int),((0:Int),(([]:Tests),(false,((⟨#[]⟩:ByteArray),((0:Int),(0:Int)))))))
theorem find18 (k:Nat) (x:Tags) (s:ByteArray) (hx:x.length≤9223372036854775807):∀ (m i:Nat),i≤x.length→x.length - i < m →
 ∃ r t,f209.l12 k x s m (i:Int)=some r∧f204.l18 k x s m (i:Int)=some t ∧ (if (decide ((r:Int) ≥ (0:Int))) then (if (0≤r∧r < (List.length x:Int)) then (some (List.getD x (Int.toNat r) ((⟨#[]⟩:ByteArray),(⟨#[]⟩:ByteArray))).2) else none) else (some (⟨#[]⟩:ByteArray)))=some t
 | 0,i,_,h => by omega
 | m+1,i,hi,h => by
   rw [f209.l12,f204.l18]
   by_cases hlt:i < x.length
   ·have h1:(decide ((i:Int) < (List.length x:Int)))=true:=by simpa using hlt
    have hbd:(0:Int) ≤ (i:Int) ∧ (i:Int) < (List.length x:Int):=⟨by omega,by omega⟩
    rw [h1,if_t rfl,if_t rfl,if_t hbd,if_t hbd]
    by_cases hb:(ByteArray.toList (List.getD x (Int.toNat (i:Int)) ((⟨#[]⟩:ByteArray),(⟨#[]⟩:ByteArray))).1 == ByteArray.toList s)=true
    ·rw [if_t hb,if_t hb,if_t hbd]
     refine ⟨_,_,rfl,rfl,?_⟩
     rw [if_t (by simp),if_t hbd]
    ·rw [if_f hb,if_f hb,wrap_s (by omega)]
     exact find18 k x s hx m (i+1) (by omega) (by omega)
   ·have h1:(decide ((i:Int) < (List.length x:Int)))=false:=by simpa using hlt
    rw [h1,if_f (by simp),if_f (by simp)]
    refine ⟨_,_,rfl,rfl,?_⟩
    rw [if_f (by simp)]
theorem tagof (k:Nat) (x:Tags) (s:ByteArray) (hx:x.length≤9223372036854775807) (hk:x.length < k):∃ t,f204 k x s=some t∧f208 k x s=some t:=by
 obtain ⟨r,t,h1,h2,h3⟩:=find18 k x s hx k 0 (by omega) (by omega)
 refine ⟨t,h2,?_⟩
 unfold f208 f209
 have h1':f209.l12 k x s k (0:Int)=some r:=h1
 rw [h1']
 exact h3
def hasK (x:Tags) (s:ByteArray) (i:Nat):Bool:=(x.drop i).any fun t => ByteArray.toList t.1 == ByteArray.toList s
theorem hasK_step {x:Tags} {s:ByteArray} {i:Nat} (h:i < x.length):hasK x s i = ((ByteArray.toList (List.getD x (Int.toNat (i:Int)) ((⟨#[]⟩:ByteArray),(⟨#[]⟩:ByteArray))).1 == ByteArray.toList s) || hasK x s (i+1)):=by
 unfold hasK
 rw [List.drop_eq_getElem_cons h,List.any_cons,Int.toNat_natCast,List.getD_eq_getElem?_getD,List.getElem?_eq_getElem h]
 rfl
theorem hasK_end {x:Tags} {s:ByteArray} {i:Nat} (h:x.length≤i):hasK x s i=false:=by
 unfold hasK
 rw [List.drop_eq_nil_of_le h]; rfl
theorem idx12 (k:Nat) (x:Tags) (s:ByteArray) (hx:x.length≤9223372036854775807):∀ (m i:Nat),i≤x.length→x.length - i < m→∃ r,f209.l12 k x s m (i:Int)=some r ∧ (decide (r ≥ 0))=hasK x s i
 | 0,i,_,h => by omega
 | m+1,i,hi,h => by
   rw [f209.l12]
   by_cases hlt:i < x.length
   ·rw [if_t (by simpa using hlt),if_t ⟨by omega,by omega⟩,hasK_step hlt]
    by_cases hb:(ByteArray.toList (List.getD x (Int.toNat (i:Int)) ((⟨#[]⟩:ByteArray),(⟨#[]⟩:ByteArray))).1 == ByteArray.toList s)=true
    ·rw [if_t hb,hb]; exact ⟨_,rfl,by simp⟩
    ·rw [if_f hb,wrap_s (by omega)]
     rw [Bool.not_eq_true] at hb
     rw [hb,Bool.false_or]
     exact idx12 k x s hx m (i+1) (by omega) (by omega)
   ·rw [if_f (by simpa using hlt),hasK_end (by omega)]
    exact ⟨_,rfl,by simp⟩
def fin (t:ByteArray × (Int × ByteArray)) (r:ByteArray) (q:Unit→Option Bool) (b:Bool):Option Bool :=
 (if ((t.2.1:Int) == (1:Int)) then (if (!(ByteArray.toList r == ByteArray.toList t.2.2)) then (some false) else (q ())) else (if ((t.2.1:Int) == (2:Int)) then (if (ByteArray.toList r == ByteArray.toList t.2.2) then (some false) else (q ())) else (if ((t.2.1:Int) == (3:Int)) then (if (!b) then (some false) else (q ())) else (if ((t.2.1:Int) == (4:Int)) then (if b then (some false) else (q ())) else (some false)))))
theorem in396 (k:Nat) (x1:Tags) (x0:Rule) (v:Int) (r:ByteArray) (q:Unit→Option Bool) (hx:x1.length≤9223372036854775807):∀ (m j:Nat) (acc:Bool),j≤x1.length→x1.length - j < m →
 f164.l396 k x1 x0 v r q m (acc,(j:Int))=fin (List.getD x0.2.2.1 (Int.toNat v) ((⟨#[]⟩:ByteArray),((0:Int),(⟨#[]⟩:ByteArray)))) r q (acc || hasK x1 (List.getD x0.2.2.1 (Int.toNat v) ((⟨#[]⟩:ByteArray),((0:Int),(⟨#[]⟩:ByteArray)))).1 j)
 | 0,j,acc,_,h => by omega
 | m+1,j,acc,hj,h => by
   rw [f164.l396]
   by_cases hlt:j < x1.length
   ·rw [if_t (by simpa using hlt),if_t (fun _ => ⟨by omega,by omega⟩),wrap_s (by omega),in396 k x1 x0 v r q hx m (j+1) _ (by omega) (by omega),hasK_step hlt]
    cases acc <;> simp
   ·rw [if_f (by simpa using hlt),hasK_end (by omega),Bool.or_false]
    rfl
theorem apply_same (k:Nat) (x0:Rule) (x1:Tags) (hx:x1.length≤9223372036854775807) (hk:x1.length < k) (ht:x0.2.2.1.length≤9223372036854775807):∀ (m i:Nat),i≤x0.2.2.1.length→x0.2.2.1.length - i < m→∃ b,f164.l207 k x0 x1 m (i:Int)=some b∧f168.l120 k x0 x1 m (i:Int)=some b
 | 0,i,_,h => by omega
 | m+1,i,hi,h => by
   rw [f164.l207,f168.l120]
   by_cases hlt:i < x0.2.2.1.length
   ·have hbd:(0:Int) ≤ (i:Int) ∧ (i:Int) < (List.length x0.2.2.1:Int):=⟨by omega,by omega⟩
    have hl:(decide ((i:Int) < (List.length x0.2.2.1:Int)))=true:=by simpa using hlt
    simp only [if_t hl,if_t hbd]
    generalize ht1:(List.getD x0.2.2.1 (Int.toNat (i:Int)) ((⟨#[]⟩:ByteArray),((0:Int),(⟨#[]⟩:ByteArray))))=t
    obtain ⟨tv,h1,h2⟩:=tagof k x1 t.1 hx hk
    obtain ⟨r,h3,h4⟩:=idx12 k x1 t.1 hx k 0 (by omega) (by omega)
    have h3':f209 k x1 t.1=some r:=h3
    have h5:=in396 k x1 x0 (i:Int) tv (f164.j379 k (i:Int) ((f164.l207 k x0 x1) m)) hx k 0 false (by omega) (by omega)
    rw [ht1,Bool.false_or] at h5
    have h5':f164.l396 k x1 x0 (i:Int) tv (f164.j379 k (i:Int) ((f164.l207 k x0 x1) m)) k (false,(0:Int))=fin t tv (f164.j379 k (i:Int) ((f164.l207 k x0 x1) m)) (hasK x1 t.1 0):=h5
    obtain ⟨b,q1,q2⟩:=apply_same k x0 x1 hx hk ht m (i+1) (by omega) (by omega)
    simp only [h1,h2,h3',Option.bind_some,h5',fin,f164.j379,f168.j229,wrap_s (show i < 9223372036854775807 by omega),q1,q2,← h4]
    have h6:(decide (r < 0))=!(decide (r ≥ 0)):=by
     by_cases hr:r < 0
     ·have:¬ r ≥ 0:=by omega
      simp [hr,this]
     ·have:r ≥ 0:=by omega
      simp [hr,this]
    rw [h6]
    generalize decide (r ≥ 0)=hb
    generalize (ByteArray.toList tv == ByteArray.toList t.2.2)=eb
    generalize t.2.1=kd
    by_cases k1:kd=1
    ·subst k1; cases eb <;> simp
    ·by_cases k2:kd=2
     ·subst k2; cases eb <;> simp
     ·by_cases k3:kd=3
      ·subst k3; cases hb <;> simp
      ·by_cases k4:kd=4
       ·subst k4; cases hb <;> simp
       ·simp [k1,k2,k3,k4]
   ·have hl:¬ (decide ((i:Int) < (List.length x0.2.2.1:Int)))=true:=by simpa using hlt
    rw [if_f hl,if_f hl]
    exact ⟨_,rfl,rfl⟩
theorem applies_same (k:Nat) (x0:Rule) (x1:Tags) (x2:Int) (hx:x1.length≤1048576) (hk:1048576 < k) (ht:x0.2.2.1.length≤1048576):∃ b,f164 k x0 x1 x2=some b∧f168 k x0 x1 x2=some b:=by
 unfold f164 f168
 split
 ·exact ⟨_,rfl,rfl⟩
 ·exact apply_same k x0 x1 (by omega) (by omega) (by omega) k 0 (by omega) (by omega)
theorem paint_same (k:Nat) (hk:1048576 < k) (x0:List Rule) (x1:Tags) (x2:Int) (h0:x0.length≤1048576) (ht:∀ r ∈ x0,r.2.2.1.length≤1048576) (hx:x1.length≤1048576):∀ (n m1 m2:Nat),n≤x0.length→n < m1→n < m2 →
 ∃ y,f107.l48 k x0 x1 x2 m1 ((n:Int) - 1)=some y∧f111.l42 k x0 x1 x2 m2 ((n:Int) - 1)=some y ∧ (y.1=dRu∨y.1 ∈ x0)
 | 0,m1,m2,h1,h2,h3 => by
   obtain ⟨m1,rfl⟩:∃ q,m1=q+1:=⟨m1 - 1,by omega⟩
   obtain ⟨m2,rfl⟩:∃ q,m2=q+1:=⟨m2 - 1,by omega⟩
   rw [f107.l48,f111.l42,if_f (by simp),if_f (by simp)]
   exact ⟨_,rfl,rfl,.inl rfl⟩
 | n+1,m1,m2,h1,h2,h3 => by
   obtain ⟨m1,rfl⟩:∃ q,m1=q+1:=⟨m1 - 1,by omega⟩
   obtain ⟨m2,rfl⟩:∃ q,m2=q+1:=⟨m2 - 1,by omega⟩
   have e:((n+1:Nat):Int) - 1 = (n:Int):=by omega
   have hb:(0:Int) ≤ (n:Int) ∧ (n:Int) < (x0.length:Int):=⟨by omega,by omega⟩
   have hc:decide ((n:Int) ≥ 0)=true:=by simp
   have w:IntKind.i64.wrap ((n:Int) - 1) = (n:Int) - 1:=wrap_in (by omega) (by omega)
   have hr:x0.getD n dRu ∈ x0:=getD_mem' (by omega)
   have hrt:=ht _ hr
   rw [f107.l48,f111.l42,e]
   simp only [if_t hc,if_t hb,Int.toNat_natCast,w,f165]
   change ∃ y,((f164 k (x0.getD n dRu) x1 x2).bind _=_) ∧ ((f168 k (x0.getD n dRu) x1 x2).bind _=_)∧_
   generalize x0.getD n dRu=r at *
   obtain ⟨b,q1,q2⟩:=applies_same k r x1 x2 hx hk hrt
   rw [q1,q2]
   simp only [Option.bind_some]
   cases b with
   | false =>
     obtain ⟨y,y1,y2,y3⟩:=paint_same k hk x0 x1 x2 h0 ht hx n m1 m2 (by omega) (by omega) (by omega)
     exact ⟨y,by simpa using y1,by simpa using y2,y3⟩
   | true =>
     rw [if_t rfl,if_t rfl]
     by_cases hh:r.2.2.2.1=true
     ·rw [if_t hh,if_t hh]; exact ⟨_,rfl,rfl,.inl rfl⟩
     ·rw [if_f hh,if_f hh]
      have hcap:(List.length ([]:Tests)+List.length r.2.2.1)*40≤140737488355328:=by simp; omega
      rw [if_t hcap,if_t hcap]
      exact ⟨_,rfl,rfl,.inr (by simpa using hr)⟩
theorem same_paint (k:Nat) (hk:1048576 < k) (x0:List Rule) (x1:Tags) (x2:Int) (h0:x0.length≤1048576) (ht:∀ r ∈ x0,r.2.2.1.length≤1048576) (hx:x1.length≤1048576) :
 ∃ y,f107 k x0 x1 x2=some y∧f111 k x0 x1 x2=some y ∧ (y.1=dRu∨y.1 ∈ x0):=by
 unfold f107 f111
 by_cases hl:(x0.length:Int) > 100
 ·rw [if_t (by simpa using hl),if_t (by simpa using hl)]; exact ⟨_,rfl,rfl,.inl rfl⟩
 ·rw [if_f (by simpa using hl),if_f (by simpa using hl),wrap_in (by omega) (by omega)]
  exact paint_same k hk x0 x1 x2 h0 ht hx x0.length k k (Nat.le_refl _) (by omega) (by omega)
end Go.Proofs.Ytnpaokckkbhdjaa
end
section
set_option linter.unusedVariables false
set_option linter.unusedSimpArgs false
namespace Go.Proofs.Ytnpaokckkbhdjaa
open Go Go.Vm Go.Proofs V S
open Go.Sort (SWO)
theorem less_mk {α:Type} {d:α} {f:List α→Int→Int→Option Bool} {L:α→α→Bool} (hL:SWO L) (hf:∀ (ys:List α) (i j:Nat),i < ys.length→j < ys.length→f ys (i:Int) (j:Int)=some (L (ys.getD i d) (ys.getD j d))):LessOk d f∧ofLess f=L:=by
 have h:ofLess f=L:=by
  funext a b
  unfold ofLess
  have:=hf [a,b] 0 1 (by simp) (by simp)
  have h2:f [a,b] 0 1=some (L a b):=this
  rw [h2]
  rfl
 exact ⟨⟨by rw [h]; exact hL,fun ys i j hi hj => by rw [h]; exact hf ys i j hi hj⟩,h⟩
abbrev Pts:=List (Int × Int)
abbrev Line:=Int × (Pts × Tags)
abbrev dLn:Line:=((0:Int),(([]:Pts),([]:Tags)))
abbrev Tile:=(Int × (Int × Int)) × List Line
abbrev Strk:=Int × (Pts × (ByteArray × (Int × Int)))
abbrev dSt:Strk:=((0:Int),(([]:Pts),((⟨#[]⟩:ByteArray),((0:Int),(0:Int)))))
def ltS (a b:Strk):Bool:=decide (a.2.2.2.2 < b.2.2.2.2)
theorem swoS:SWO ltS where
 irrefl x:=by simp [ltS]
 trans x y z h1 h2:=by simp [ltS] at *; omega
 ntrans x y z h1 h2:=by simp [ltS] at *; omega
theorem e112 (k:Nat) (ys:List Strk) (i j:Nat) (hi:i < ys.length) (hj:j < ys.length):f112 k (i:Int) (j:Int) ys=some (ltS (ys.getD i dSt) (ys.getD j dSt)):=by
 unfold f112
 have b1:(0:Int) ≤ (i:Int) ∧ (i:Int) < (ys.length:Int):=⟨by omega,by omega⟩
 have b2:(0:Int) ≤ (j:Int) ∧ (j:Int) < (ys.length:Int):=⟨by omega,by omega⟩
 simp only [if_t b1,if_t b2,Int.toNat_natCast]
 rfl
theorem h112:H112:=fun k => (less_mk swoS (fun ys i j hi hj => e112 k ys i j hi hj)).1
theorem o112 (k:Nat):ofLess (fun (ys:List Strk) (i j:Int) => f112 k i j ys)=ltS:=(less_mk (d:=dSt) swoS (fun ys i j hi hj => e112 k ys i j hi hj)).2
theorem insL_len {α:Type} (d:α) (L:α→α→Bool) (l:List α) (x:α):(insL d L l x).length=l.length+1:=by
 unfold insL
 generalize insAt _ _=a
 simp only [List.length_append,List.length_take,List.length_cons,List.length_drop]
 omega
theorem insF_len {α:Type} (d:α) (L:α→α→Bool):∀ (xs l:List α),(xs.foldl (insL d L) l).length=l.length+xs.length
 | [],l => rfl
 | x :: xs,l => by rw [List.foldl_cons,insF_len d L xs,insL_len,List.length_cons]; omega
theorem insL_mem {α:Type} (d:α) (L:α→α→Bool) (l:List α) (x e:α) (h:e ∈ insL d L l x):e=x∨e ∈ l:=by
 unfold insL at h
 rcases List.mem_append.1 h with h | h
 ·exact .inr (List.mem_of_mem_take h)
 ·rcases List.mem_cons.1 h with h | h
  ·exact .inl h
  ·exact .inr (List.mem_of_mem_drop h)
theorem insF_mem {α:Type} (d:α) (L:α→α→Bool):∀ (xs l:List α) (e:α),e ∈ xs.foldl (insL d L) l→e ∈ l∨e ∈ xs
 | [],l,e,h => .inl h
 | x :: xs,l,e,h => by
   rw [List.foldl_cons] at h
   rcases insF_mem d L xs _ e h with h | h
   ·rcases insL_mem d L l x e h with h | h
    ·exact .inr (by simp [h])
    ·exact .inl h
   ·exact .inr (by simp [h])
def pnt (k:Nat) (rs:List Rule) (z:Int) (l:Line):Rule × Bool:=(f107 k rs l.2.2 z).getD (dRu,false)
def strk (l:Line) (r:Rule):Strk:=(l.1,(([]:Pts) ++ l.2.1,(r.2.2.2.2.1,(r.2.2.2.2.2.1,r.2.2.2.2.2.2))))
def selS (k:Nat) (d:Tile) (rs:List Rule):Nat→List Strk
 | 0 => []
 | i+1 => if (pnt k rs d.1.1 (d.2.getD i dLn)).2=true then selS k d rs i ++ [strk (d.2.getD i dLn) (pnt k rs d.1.1 (d.2.getD i dLn)).1] else selS k d rs i
theorem selS_len (k:Nat) (d:Tile) (rs:List Rule):∀ i,(selS k d rs i).length≤i
 | 0 => Nat.le_refl _
 | i+1 => by
   have:=selS_len k d rs i
   unfold selS
   split
   ·simp; omega
   ·omega
theorem selS_mem (k:Nat) (d:Tile) (rs:List Rule):∀ i,i≤d.2.length→∀ e ∈ selS k d rs i,∃ l ∈ d.2,e=strk l (pnt k rs d.1.1 l).1
 | 0,_,e,h => by cases h
 | i+1,hi,e,h => by
   unfold selS at h
   split at h
   ·rcases List.mem_append.1 h with h | h
    ·exact selS_mem k d rs i (by omega) e h
    ·have hm:d.2.getD i dLn ∈ d.2:=getD_mem' (by omega)
     exact ⟨_,hm,by simpa using h⟩
   ·exact selS_mem k d rs i (by omega) e h
theorem s337 (k:Nat) (l:List Strk) (hl:l.length≤2000) (d:Tile) (y:Rule × Bool) (i:Nat) (hi:i < d.2.length) (hr:(d.2.getD i dLn).2.1.length≤1048576) (q:List Strk→Option (List Strk)):∀ (n m:Nat),n≤l.length→n < m →
 f51.l337 k l y d (i:Int) q m (n:Int)=q (l.take (insAt (fun p => !ltS (strk (d.2.getD i dLn) y.1) (l.getD p dSt)) n) ++ strk (d.2.getD i dLn) y.1 :: l.drop (insAt (fun p => !ltS (strk (d.2.getD i dLn) y.1) (l.getD p dSt)) n)):=by
 have stop:∀ (n m:Nat),n≤l.length → (bif decide ((n:Int) > 0) then decide ((l.getD (Int.toNat (IntKind.i64.wrap ((n:Int) - 1))) dSt).2.2.2.2 > y.1.2.2.2.2.2.2) else false)=false→n < m →
  f51.l337 k l y d (i:Int) q m (n:Int)=q (l.take n ++ strk (d.2.getD i dLn) y.1 :: l.drop n):=by
  intro n m hn hc hm
  obtain ⟨m,rfl⟩:∃ p,m=p+1:=⟨m - 1,by omega⟩
  rw [f51.l337]
  have c0:((decide ((n:Int) > (0:Int)))=true → (0 ≤ (IntKind.i64.wrap ((n:Int) - (1:Int))) ∧ (IntKind.i64.wrap ((n:Int) - (1:Int))) < (List.length l:Int))):=by
   intro h
   rw [decide_eq_true_eq] at h
   rw [wrap_in (by omega) (by omega)]
   omega
  rw [if_t c0,hc,if_f (by simp),Int.toNat_natCast]
  rw [if_t (by show (0 + (d.2.getD i dLn).2.1.length)*16≤140737488355328; omega),if_t ⟨trivial,by omega,Nat.zero_le _,hn⟩]
  simp only [Int.toNat_natCast,List.drop_zero,List.nil_append]
  rw [if_t (by simp only [List.length_nil,List.length_take]; omega),if_t (by simp only [List.length_append,List.length_take,List.length_cons,List.length_nil]; omega),if_t ⟨by omega,trivial,hn,Nat.le_refl _⟩,
   if_t (by simp only [List.length_append,List.length_take,List.length_cons,List.length_nil,List.length_drop]; omega)]
  rw [List.take_length]
  simp [strk]
 intro n
 induction n with
 | zero => intro m hn hm; exact stop 0 m hn (by simp) hm
 | succ n ih =>
   intro m hn hm
   have w:IntKind.i64.wrap (((n+1:Nat):Int) - 1) = (n:Int):=by rw [wrap_in (by omega) (by omega)]; omega
   cases hc:ltS (strk (d.2.getD i dLn) y.1) (l.getD n dSt) with
   | false =>
     have e:insAt (fun p => !ltS (strk (d.2.getD i dLn) y.1) (l.getD p dSt)) (n+1)=n+1:=by unfold insAt; rw [hc]; rfl
     rw [e]
     refine stop (n+1) m hn ?_ hm
     rw [w,Int.toNat_natCast]
     have h2:decide ((l.getD n dSt).2.2.2.2 > y.1.2.2.2.2.2.2)=false:=hc
     rw [h2]
     simp
   | true =>
     have e:insAt (fun p => !ltS (strk (d.2.getD i dLn) y.1) (l.getD p dSt)) (n+1)=insAt (fun p => !ltS (strk (d.2.getD i dLn) y.1) (l.getD p dSt)) n:=by conv => lhs; unfold insAt; rw [hc]; simp only [Bool.not_true,Bool.false_eq_true,if_false]
     rw [e,← ih (m - 1) (by omega) (by omega)]
     obtain ⟨m,rfl⟩:∃ p,m=p+1:=⟨m - 1,by omega⟩
     rw [f51.l337,w]
     have c1:(0:Int) ≤ (n:Int) ∧ (n:Int) < (l.length:Int):=⟨by omega,by omega⟩
     have h2:decide ((l.getD n dSt).2.2.2.2 > y.1.2.2.2.2.2.2)=true:=hc
     have h3:decide ((((n+1:Nat):Int)) > 0)=true:=decide_eq_true (by omega)
     rw [if_t (fun _ => c1),Int.toNat_natCast,h2,h3]
     rfl
section
variable (k:Nat) (hk:1048576 < k) (d:Tile) (rs:List Rule) (h0:rs.length≤1048576) (ht:∀ r ∈ rs,r.2.2.1.length≤1048576) (hl:∀ l ∈ d.2,l.2.1.length≤1048576∧l.2.2.length≤1048576)
include hk h0 ht hl
theorem pnt_ok (l:Line) (hm:l ∈ d.2):f107 k rs l.2.2 d.1.1=some (pnt k rs d.1.1 l)∧f111 k rs l.2.2 d.1.1=some (pnt k rs d.1.1 l) ∧ ((pnt k rs d.1.1 l).1=dRu ∨ (pnt k rs d.1.1 l).1 ∈ rs):=by
 obtain ⟨y,q1,q2,q3⟩:=same_paint k hk rs l.2.2 d.1.1 h0 ht (hl l hm).2
 have:pnt k rs d.1.1 l=y:=by unfold pnt; rw [q1]; rfl
 rw [this]
 exact ⟨q1,q2,q3⟩
variable (hd:d.2.length≤2000)
include hd
theorem s178:∀ (m i:Nat),i≤d.2.length→d.2.length - i < m →
 f51.l178 k d rs m ((selS k d rs i).foldl (insL dSt ltS) [],(i:Int))=some ((selS k d rs d.2.length).foldl (insL dSt ltS) [])
 | 0,i,_,h => by omega
 | m+1,i,hi,h => by
   rw [f51.l178]
   by_cases hlt:i < d.2.length
   ·have hb:(0:Int) ≤ (i:Int) ∧ (i:Int) < (d.2.length:Int):=⟨by omega,by omega⟩
    have ih:=s178 m (i+1) (by omega) (by omega)
    have hL:=selS_len k d rs i
    have hmem:d.2.getD i dLn ∈ d.2:=getD_mem' hlt
    obtain ⟨p1,p2,p3⟩:=pnt_ok k hk d rs h0 ht hl _ hmem
    rw [if_t (by simpa using hlt),if_t hb,Int.toNat_natCast,p1,Option.bind_some]
    cases hw:(pnt k rs d.1.1 (d.2.getD i dLn)).2 with
    | true =>
      have hs:selS k d rs (i+1)=selS k d rs i ++ [strk (d.2.getD i dLn) (pnt k rs d.1.1 (d.2.getD i dLn)).1]:=by conv => lhs; unfold selS; rw [if_pos hw]
      have c:¬ ((!true)=true):=by simp
      rw [if_f c,s337 k _ (by rw [insF_len]; simp; omega) d _ i hlt (hl _ hmem).1 _ _ k (Nat.le_refl _) (by rw [insF_len]; simp; omega)]
      rw [f51.j327,wrap_s (by omega)]
      rw [hs,List.foldl_append] at ih
      exact ih
    | false =>
      have hs:selS k d rs (i+1)=selS k d rs i:=by conv => lhs; unfold selS; rw [if_neg (by rw [hw]; simp)]
      rw [if_t (show (!false)=true from rfl),f51.j327,wrap_s (by omega)]
      rw [hs] at ih
      exact ih
   ·have:i=d.2.length:=by omega
    subst this
    rw [if_f (by simp)]
theorem i46:∀ (m i:Nat),i≤d.2.length→d.2.length - i < m →
 f54.l46 k d rs m (selS k d rs i,(i:Int))=some (sortR stbR dSt ltS (selS k d rs d.2.length))
 | 0,i,_,h => by omega
 | m+1,i,hi,h => by
   rw [f54.l46]
   have hL:=selS_len k d rs i
   by_cases hlt:i < d.2.length
   ·have hb:(0:Int) ≤ (i:Int) ∧ (i:Int) < (d.2.length:Int):=⟨by omega,by omega⟩
    have ih:=i46 m (i+1) (by omega) (by omega)
    have hmem:d.2.getD i dLn ∈ d.2:=getD_mem' hlt
    obtain ⟨p1,p2,p3⟩:=pnt_ok k hk d rs h0 ht hl _ hmem
    have hrow:=(hl _ hmem).1
    rw [if_t (by simpa using hlt),if_t hb,Int.toNat_natCast,p2,Option.bind_some]
    cases hw:(pnt k rs d.1.1 (d.2.getD i dLn)).2 with
    | true =>
      have hs:selS k d rs (i+1)=selS k d rs i ++ [strk (d.2.getD i dLn) (pnt k rs d.1.1 (d.2.getD i dLn)).1]:=by conv => lhs; unfold selS; rw [if_pos hw]
      rw [if_t rfl,if_t (by show (0 + (d.2.getD i dLn).2.1.length)*16≤140737488355328; omega),if_t (by simp only [List.length_cons,List.length_nil]; omega),f54.j85,wrap_s (by omega)]
      rw [hs] at ih
      exact ih
    | false =>
      have hs:selS k d rs (i+1)=selS k d rs i:=by conv => lhs; unfold selS; rw [if_neg (by rw [hw]; simp)]
      rw [if_f (by simp),f54.j85,wrap_s (by omega)]
      rw [hs] at ih
      exact ih
   ·have:i=d.2.length:=by omega
    subst this
    rw [if_f (by simp),if_t (by omega)]
    have:=o112 k
    rw [this]
    rfl
end
theorem same_strokes (k:Nat) (hk:1048576 < k) (d:Tile) (rs:List Rule) (h0:rs.length≤1048576) (ht:∀ r ∈ rs,r.2.2.1.length≤1048576) (hl:∀ l ∈ d.2,l.2.1.length≤1048576∧l.2.2.length≤1048576) :
 ∃ v,f51 k d rs=some v∧f54 k d rs=some v∧v.length≤2000∧∀ e ∈ v,∃ l ∈ d.2,∃ r,e=strk l r ∧ (r=dRu∨r ∈ rs):=by
 unfold f51 f54
 cases hc:(bif (decide (((List.length d.2:Int):Int) > (2000:Int))) then true else (decide (((List.length rs:Int):Int) > (100:Int)))) with
 | true => exact ⟨[],by simp,by simp,by simp,by simp⟩
 | false =>
   have hd:d.2.length≤2000:=by
    cases h1:decide (((List.length d.2:Int):Int) > (2000:Int)) with
    | true => rw [h1] at hc; cases hc
    | false => rw [decide_eq_false_iff_not] at h1; omega
   have a:=s178 k hk d rs h0 ht hl hd k 0 (by omega) (by omega)
   have b:=i46 k hk d rs h0 ht hl hd k 0 (by omega) (by omega)
   have a':f51.l178 k d rs k (([]:List Strk),(0:Int))=_:=a
   have b':f54.l46 k d rs k (([]:List Strk),(0:Int))=_:=b
   rw [sortR_stb swoS] at b'
   refine ⟨(selS k d rs d.2.length).foldl (insL dSt ltS) [],by rw [if_f (by simp)]; exact a',by rw [if_f (by simp)]; exact b',?_,fun e he => ?_⟩
   ·rw [insF_len]
    have:=selS_len k d rs d.2.length
    simp; omega
   ·rcases insF_mem dSt ltS _ _ e he with h | h
    ·cases h
    ·obtain ⟨l,q1,q2⟩:=selS_mem k d rs d.2.length (Nat.le_refl _) e h
     exact ⟨l,q1,_,q2,(pnt_ok k hk d rs h0 ht hl l q1).2.2⟩
end Go.Proofs.Ytnpaokckkbhdjaa
end
