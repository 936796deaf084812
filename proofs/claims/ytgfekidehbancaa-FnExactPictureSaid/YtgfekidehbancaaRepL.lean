/- strings.Repeat of this seat, by the library's contract. No condition. -/
import Derived.Shelf.Strings.Repeat
import Derived.Test.YtgfekidehbancaaProg
import Derived.Test.YtgfekidehbancaaVmO
import Derived.KernelRfl
set_option linter.unusedVariables false
set_option linter.unusedSimpArgs false
namespace Go.Proofs
open Go Go.Shelf Go.RowKit
set_option maxRecDepth 100000
def Try.renR:Ren:={ f:=fun x => match x with | 105 => 34 | 212 => 69 | 99 => 70 | 165 => 71 | 166 => 72 | 170 => 73 | 169 => 74 | 263 => 90 | 264 => 91 | 206 => 92 | 240 => 93 | 241 => 94 | 276 => 101 | 277 => 102 | n => n,t:=fun x => match x with | 9 => 9 | 3 => 3 | 4 => 4 | 20 => 20 | 0 => 0 | 46 => 108 | 109 => 109 | 5 => 5 | 72 => 114 | 76 => 118 | 51 => 138 | 146 => 139 | 53 => 130 | 148 => 141 | 70 => 112 | 37 => 39 | 75 => 117 | 127 => 143 | 164 => 148 | 80 => 121 | n => n,g:=fun x => x }
theorem Try.laysR:Lays.n105 Try.prog Try.renR:=by
 constructor <;> first | kernel_rfl | (intro w; kernel_rfl) | decide
theorem Try.extraR:Builder.Extra Try.prog Try.renR where
 sizeBuilder:=by kernel_rfl
 liesBuilder:=by kernel_rfl
 t5:=Try.laysR.t5
 a5:=Try.laysR.a5
 z5:=Try.laysR.z5
 v5:=Try.laysR.v5
 infoByte:=by kernel_rfl
 cellsByte:=by kernel_rfl
 sizeByte:=by kernel_rfl
 neB5:=by decide
namespace Ytgfekidehbancaa.V
open Go.Vm
def repB (s:ByteArray) (n:Nat):ByteArray:=⟨(Lib.repeatL s.data.toList n).toArray⟩
def f34 (k:Nat) (s:ByteArray) (c:Int):Option ByteArray:=if 0≤c∧c≤9223372036854775807∧s.size*c.toNat≤140737488355328 then some (repB s c.toNat) else none
theorem c34 (k:Nat) (s:ByteArray) (c:Int) (r:ByteArray) (hF:f34 k s c=some r):PCall Try.prog 34 [⟨.str,s⟩,⟨.int .i64,c⟩] [⟨.str,r⟩]:=by
 unfold f34 at hF
 split at hF
 ·rename_i h
  cases hF
  refine ⟨⟨Try.f34,by kernel_rfl,by kernel_rfl,by kernel_rfl⟩,fun Z w args hZ hr => ?_⟩
  obtain ⟨v1,l1,f1,f2,rfl,_,_,⟨cs1,⟨e1,_⟩,e1'⟩,v2,l2,f3,f4,rfl,_,_,⟨cs2,⟨e2,_⟩,e2'⟩,hn⟩:=hr
  obtain ⟨rfl,_⟩:=hn
  have g1:[Value.string s]=[v1]:=e1.symm.trans e1'
  have g2:[Value.int .i64 c]=[v2]:=e2.symm.trans e2'
  obtain rfl:Value.string s=v1:=by simpa using g1
  obtain rfl:Value.int .i64 c=v2:=by simpa using g2
  obtain ⟨n,rfl⟩:∃ n:Nat,c = (n:Int):=⟨c.toNat,by omega⟩
  rw [Int.toNat_natCast] at *
  have hc:=Any.strings_Repeat Try.laysR Try.extraR s n w (by omega) h.2.2
  refine Calls.mono hc ?_
  rintro e w' ⟨rfl,hb⟩
  refine ⟨[.string (repB s n)],fun _ => False,Z,rfl,fun i hi => ⟨Nat.lt_of_lt_of_le (hZ i hi) hb.size,fun _ => hi⟩,⟨_,[],fun _ => False,fun _ => False,rfl,fun i => by simp,fun i h => h.elim,⟨_,⟨rfl,fun _ => id⟩,rfl⟩,⟨rfl,fun _ => id⟩⟩,fun i h => h.elim,⟨hb.os,hb.tape,hb.output,hb.size,fun i hi _ => hb.block i hi⟩⟩
 ·cases hF
end Ytgfekidehbancaa.V
end Go.Proofs
