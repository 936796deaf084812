/- FnExactReadStyle: bytes, numbers, words, tests of both readers. -/
import Derived.Test.YtgonbndbnmimhaaDoorR10rp
import Derived.Lib.Split
import Derived.Lib.SplitLaws
import Derived.Lib.IndexLaws
import Derived.Lib.CutLaws
set_option linter.unusedVariables false
set_option linter.unusedSimpArgs false
open Go Go.Vm Go.Proofs
namespace Go.Proofs.YtgonbndbnmimhaaDoor.V
theorem bstep (x:ByteArray) (i:Nat) (hi:i < x.size):∃ b:UInt8,x.data.toList[i]?=some b∧x.data.toList.drop i=b :: x.data.toList.drop (i+1)∧byteAt x (i:Int) = (b.toNat:Int)∧x.extract i (i+1)=⟨#[b]⟩:=by
 have hl:i < x.data.toList.length:=by rw [Array.length_toList]; exact hi
 refine ⟨x.data.toList[i],List.getElem?_eq_getElem hl,List.drop_eq_getElem_cons hl,?_,?_⟩
 ·unfold byteAt
  rw [dif_pos (show ((i:Nat):Int).toNat < x.size from hi)]
  rfl
 ·apply ByteArray.ext
  apply Array.ext'
  rw [ByteArray.data_extract,Array.toList_extract]
  show (x.data.toList.drop i).take (i+1 - i)=[_]
  rw [List.drop_eq_getElem_cons hl,show i+1 - i=1 by omega]
  rfl
theorem ba_len (x:ByteArray):x.data.toList.length=x.size:=Array.length_toList
theorem ba_ext {x y:ByteArray} (h:x.data.toList=y.data.toList):x=y:=ByteArray.ext (Array.ext' h)
theorem tl_eq (x:ByteArray):ByteArray.toList x=x.data.toList:=Lib.toList_data x
theorem ex_data (x:ByteArray) (i j:Nat):(x.extract i j).data.toList = (x.data.toList.drop i).take (j - i):=by
 rw [ByteArray.data_extract,Array.toList_extract]
theorem ex_size (x:ByteArray) (i j:Nat):(x.extract i j).size≤x.size:=by rw [ByteArray.size_extract]; omega
def wch (v:Int):Bool:=(bif (bif (bif (bif (decide ((v:Int) ≥ (97:Int))) then (decide ((v:Int) ≤ (122:Int))) else false) then true else (bif (decide ((v:Int) ≥ (48:Int))) then (decide ((v:Int) ≤ (57:Int))) else false)) then true else ((v:Int) == (58:Int))) then true else ((v:Int) == (95:Int)))
def bad (v:Int):Bool:=bif (decide ((v:Int) < (33:Int))) then true else (decide ((v:Int) > (126:Int)))
def nod (v:Int):Bool:=bif (decide ((v:Int) < (48:Int))) then true else (decide ((v:Int) > (57:Int)))
def sizeOk (x:ByteArray):Bool:=(bif (decide (((ByteArray.size x:Int):Int) ≥ (1:Int))) then (decide (((ByteArray.size x:Int):Int) ≤ (40:Int))) else false)
def wordP (x:ByteArray):Bool:=x.data.toList.all (fun b => wch b.toNat) && sizeOk x
def plainP (x:ByteArray):Bool:=x.data.toList.all (fun b => !bad b.toNat)
theorem w36_loop (k:Nat) (x:ByteArray) (hx:x.size≤4000):∀ m i:Nat,x.size - i < m→i≤x.size→f36.l12 k x m (i:Int)=some ((x.data.toList.drop i).all (fun b => wch b.toNat) && sizeOk x)
 | 0,i,hm,hi => by omega
 | m+1,i,hm,hi => by
   rw [f36.l12]
   by_cases h:i < x.size
   ·obtain ⟨b,_,hb,hv,_⟩:=bstep x i h
    rw [if_t (by simpa using h),if_t ⟨by omega,by omega⟩,hv,hb,wrap_s (by omega),w36_loop k x hx m (i+1) (by omega) (by omega)]
    show (if (!wch b.toNat)=true then _ else _)=_
    cases hw:wch b.toNat
    ·simp [hw]
    ·simp [hw]
   ·rw [if_f (by simpa using h),List.drop_of_length_le (by rw [ba_len]; omega)]
    rfl
theorem w36 (k:Nat) (hk:1048576 < k) (x:ByteArray) (hx:x.size≤4000):f36 k x=some (wordP x):=w36_loop k x hx k 0 (by omega) (by omega)
theorem w42_loop (k:Nat) (x:ByteArray) (hx:x.size≤4000):∀ m i:Nat,x.size - i < m→i≤x.size→f42.l12 k x m (i:Int)=some ((x.data.toList.drop i).all (fun b => wch b.toNat))
 | 0,i,hm,hi => by omega
 | m+1,i,hm,hi => by
   rw [f42.l12]
   by_cases h:i < x.size
   ·obtain ⟨b,_,hb,hv,_⟩:=bstep x i h
    rw [if_t (by simpa using h),if_t ⟨by omega,by omega⟩,hv,hb,wrap_s (by omega),w42_loop k x hx m (i+1) (by omega) (by omega)]
    show (if (!wch b.toNat)=true then _ else _)=_
    cases hw:wch b.toNat
    ·simp [hw]
    ·simp [hw]
   ·rw [if_f (by simpa using h),List.drop_of_length_le (by rw [ba_len]; omega)]
    rfl
theorem w42 (k:Nat) (hk:1048576 < k) (x:ByteArray) (hx:x.size≤4000):f42 k x=some (wordP x):=by
 rw [f42,show f42.l12 k x k 0=_ from w42_loop k x hx k 0 (by omega) (by omega),List.drop_zero]
 unfold wordP sizeOk
 by_cases h1:(x.size:Int) < 1
 ·rw [if_t (by simp [h1])]
  have:¬ ((x.size:Int) ≥ 1):=by omega
  simp [this]
 ·have h1':(x.size:Int) ≥ 1:=by omega
  by_cases h2:(x.size:Int) > 40
  ·rw [if_t (by simp [h1,h2])]
   have:¬ ((x.size:Int)≤40):=by omega
   simp [this,h1']
  ·have h2':(x.size:Int)≤40:=by omega
   rw [if_f (by simp [h1,h2])]
   simp [h1',h2']
theorem w48_loop (k:Nat) (x:ByteArray) (hx:x.size≤4000):∀ m i:Nat,x.size - i < m→i≤x.size→f48.l18 k x m (i:Int)=some ((x.data.toList.drop i).all (fun b => !bad b.toNat))
 | 0,i,hm,hi => by omega
 | m+1,i,hm,hi => by
   rw [f48.l18]
   by_cases h:i < x.size
   ·obtain ⟨b,_,hb,hv,_⟩:=bstep x i h
    rw [if_t (by simpa using h),if_t ⟨by omega,by omega⟩,if_t (fun _ => ⟨by omega,by omega⟩),hv,hb,wrap_s (by omega),w48_loop k x hx m (i+1) (by omega) (by omega)]
    show (if bad b.toNat=true then _ else _)=_
    cases hw:bad b.toNat
    ·simp [hw]
    ·simp [hw]
   ·rw [if_f (by simpa using h),List.drop_of_length_le (by rw [ba_len]; omega)]
    rfl
theorem w48 (k:Nat) (hk:1048576 < k) (x:ByteArray) (hx:x.size≤4000):f48 k x=some (plainP x):=w48_loop k x hx k 0 (by omega) (by omega)
def numI:List UInt8→Int→Option Int
 | [],n => some n
 | b :: l,n => if nod b.toNat=true then none else numI l (n*10 + ((b.toNat:Int) - 48))
theorem nod_f {b:UInt8} (h:nod b.toNat=false):48 ≤ (b.toNat:Int) ∧ (b.toNat:Int)≤57:=by
 unfold nod at h
 by_cases h1:(b.toNat:Int) < 48
 ·simp [h1] at h
 ·by_cases h2:(b.toNat:Int) > 57
  ·simp [h1,h2] at h
  ·omega
theorem numI_le:∀ (l:List UInt8) (n v:Int),0≤n→numI l n=some v→n≤v
 | [],n,v,h0,h => by simp [numI] at h; omega
 | b :: l,n,v,h0,h => by
   unfold numI at h
   split at h
   ·cases h
   ·rename_i hn
    obtain ⟨d1,d2⟩:=nod_f (by simpa using hn)
    have:=numI_le l _ v (by omega) h
    omega
theorem dig_wrap {n d:Int} (h0:0≤n) (h1:n < 10000000000) (d1:48≤d) (d2:d≤57) :
 IntKind.i64.wrap ((IntKind.i64.wrap (n * (10:Int))) + (IntKind.i64.wrap (IntKind.u8.wrap (d - (48:Int)))))=n*10 + (d - 48):=by
 have e:IntKind.u8.wrap (d - 48)=d - 48:=by simp [IntKind.wrap,IntKind.signed,IntKind.bits]; omega
 rw [e,wrap_in (n:=n*10) (by omega) (by omega),wrap_in (n:=d - 48) (by omega) (by omega),wrap_in (by omega) (by omega)]
def numS (o:Option Int) (most:Int):Int:=match o with | none => -1 | some v => if v > most then -1 else v
def numT (o:Option Int) (most:Int):Int × Bool:=match o with | none => (0,false) | some v => if v > most then (0,false) else (v,true)
theorem p10 (i:Nat) (h:i≤9):10 ^ i*10≤10000000000:=by
 have:10 ^ i≤10 ^ 9:=Nat.pow_le_pow_right (by decide) h
 omega
theorem w37_loop (k:Nat) (x:ByteArray) (most:Int) (hx:x.size≤10):∀ (m i:Nat) (n:Int),x.size - i < m→i≤x.size→0≤n→n < ((10 ^ i:Nat):Int)→f37.l28 k x most m (n,(i:Int))=some (numS (numI (x.data.toList.drop i) n) most)
 | 0,i,n,hm,hi,h0,h1 => by omega
 | m+1,i,n,hm,hi,h0,h1 => by
   rw [f37.l28]
   by_cases h:i < x.size
   ·obtain ⟨b,_,hb,hv,_⟩:=bstep x i h
    have hp:=p10 i (by omega)
    rw [if_t (by simpa using h),if_t ⟨by omega,by omega⟩,if_t (fun _ => ⟨by omega,by omega⟩),hv,hb,wrap_s (by omega),numI]
    show (if nod b.toNat=true then _ else _)=_
    cases hw:nod b.toNat
    ·obtain ⟨d1,d2⟩:=nod_f hw
     rw [if_f (by decide),if_t ⟨by omega,by omega⟩,dig_wrap h0 (by omega) d1 d2,w37_loop k x most hx m (i+1) _ (by omega) (by omega) (by omega) (by rw [Nat.pow_succ]; omega)]
     rfl
    ·rfl
   ·rw [if_f (by simpa using h),List.drop_of_length_le (by rw [ba_len]; omega)]
    simp only [numI,numS]
    by_cases hn:n > most
    ·simp [hn]
    ·simp [hn]
def numP (x:ByteArray):Option Int:=if x.size=0∨x.size > 10 then none else numI x.data.toList 0
theorem w37 (k:Nat) (hk:1048576 < k) (x:ByteArray) (most:Int):f37 k x most=some (numS (numP x) most):=by
 rw [f37]
 unfold numP
 by_cases h:x.size=0
 ·rw [if_t (by simp [h]),if_pos (.inl h)]; rfl
 ·by_cases h2:x.size > 10
  ·rw [if_t (by simp; omega),if_pos (.inr h2)]; rfl
  ·have e:=w37_loop k x most (by omega) k 0 0 (by omega) (by omega) (by omega) (by decide)
   rw [if_f (by rw [show ((x.size:Int) == 0)=false from beq_false_of_ne (by omega),show decide ((x.size:Int) > 10)=false from decide_eq_false (by omega)]; decide),if_neg (show ¬ (x.size=0∨x.size > 10) by omega)]
   exact e
theorem w40_loop (k:Nat) (x:ByteArray) (most:Int) (hx:x.size≤10):∀ (m i:Nat) (n:Int),x.size - i < m→i≤x.size→0≤n→n≤most→n < ((10 ^ i:Nat):Int)→f40.l28 k x most m (n,(i:Int))=some (numT (numI (x.data.toList.drop i) n) most)
 | 0,i,n,hm,hi,h0,hn,h1 => by omega
 | m+1,i,n,hm,hi,h0,hn,h1 => by
   rw [f40.l28]
   by_cases h:i < x.size
   ·obtain ⟨b,_,hb,hv,_⟩:=bstep x i h
    have hp:=p10 i (by omega)
    rw [if_t (by simpa using h),if_t ⟨by omega,by omega⟩,if_t (fun _ => ⟨by omega,by omega⟩),hv,hb,wrap_s (by omega),numI]
    show (if nod b.toNat=true then _ else _)=_
    cases hw:nod b.toNat
    ·obtain ⟨d1,d2⟩:=nod_f hw
     rw [if_f (by decide),if_t ⟨by omega,by omega⟩,dig_wrap h0 (by omega) d1 d2]
     by_cases hb:n*10 + ((b.toNat:Int) - 48) > most
     ·rw [if_t (by simpa using hb),if_neg (by decide)]
      cases hr:numI (x.data.toList.drop (i+1)) (n*10 + ((b.toNat:Int) - 48)) with
      | none => rfl
      | some v =>
        have:=numI_le _ _ _ (by omega) hr
        simp only [numT]
        rw [if_pos (by omega)]
     ·rw [if_f (by simpa using hb),w40_loop k x most hx m (i+1) _ (by omega) (by omega) (by omega) (by omega) (by rw [Nat.pow_succ]; omega)]
      rfl
    ·rfl
   ·rw [if_f (by simpa using h),List.drop_of_length_le (by rw [ba_len]; omega)]
    simp only [numI,numT]
    rw [if_neg (by omega)]
theorem empty_iff (x:ByteArray):(ByteArray.toList x == ByteArray.toList (⟨#[]⟩:ByteArray))=decide (x.size=0):=by
 rw [tl_eq,tl_eq,← ba_len]
 cases x.data.toList <;> rfl
theorem w40 (k:Nat) (hk:1048576 < k) (x:ByteArray) (most:Int) (h0:0≤most):f40 k x most=some (numT (numP x) most):=by
 rw [f40,empty_iff]
 unfold numP
 by_cases h:x.size=0
 ·rw [if_t (by simp [h]),if_pos (.inl h)]; rfl
 ·by_cases h2:x.size > 10
  ·rw [if_t (by simp; omega),if_pos (.inr h2)]; rfl
  ·have e:=w40_loop k x most (by omega) k 0 0 (by omega) (by omega) (by omega) h0 (by decide)
   rw [if_f (by rw [show decide (x.size=0)=false from decide_eq_false h,show decide ((x.size:Int) > 10)=false from decide_eq_false (by omega)]; decide),if_neg (show ¬ (x.size=0∨x.size > 10) by omega)]
   exact e
end Go.Proofs.YtgonbndbnmimhaaDoor.V
