/- strings.Split, Cut (at separators of one byte), HasPrefix, IndexByte of this seat, by the library's contracts. No condition on what internal/bytealg.MaxLen holds. -/
import Derived.Shelf.Strings.SplitCore
import Derived.Shelf.Strings.Count
import Derived.Shelf.Strings.Cut
import Derived.Shelf.Strings.Prefix
import Derived.Shelf.Small.Strs
import Derived.Lib.SplitLaws
import Derived.Test.YtgonbndbnmimhaaDoorProg
import Derived.Test.YtgonbndbnmimhaaDoorVmO
import Derived.KernelRfl
set_option linter.unusedVariables false
set_option linter.unusedSimpArgs false
namespace Go.Proofs
open Go Go.Shelf Go.RowKit Go.Lib
set_option maxRecDepth 100000
def Tryd.renR:Ren:={ f:=fun x => match x with | 146 => 16 | 221 => 38 | 268 => 49 | 138 => 50 | 143 => 51 | 195 => 63 | 197 => 64 | 218 => 65 | 219 => 66 | 260 => 74 | 217 => 67 | 225 => 75 | 224 => 76 | 267 => 77 | 266 => 78 | 314 => 81 | 145 => 39 | 220 => 52 | 99 => 54 | 206 => 68 | 137 => 53 | n => n,t:=fun x => match x with | 9 => 9 | 31 => 33 | 3 => 3 | 4 => 4 | 0 => 0 | 105 => 96 | 21 => 21 | 5 => 5 | 46 => 104 | 119 => 107 | 139 => 110 | 138 => 109 | 146 => 111 | 51 => 101 | 59 => 71 | n => n,g:=fun x => match x with | 1 => 1 | 3 => 2 | 4 => 3 | n => n }
theorem Tryd.laysS:Lays.n146 Tryd.prog Tryd.renR:=by
 constructor <;> first | kernel_rfl | (intro w; kernel_rfl) | decide
theorem Tryd.laysC:Lays.n145 Tryd.prog Tryd.renR:=by
 constructor <;> first | kernel_rfl | (intro w; kernel_rfl) | decide
theorem Tryd.laysP:Lays.n99 Tryd.prog Tryd.renR:=by
 constructor <;> first | kernel_rfl | (intro w; kernel_rfl) | decide
theorem Tryd.laysI:Lays.n137 Tryd.prog Tryd.renR:=by
 constructor <;> first | kernel_rfl | (intro w; kernel_rfl) | decide
theorem Tryd.hi9:(Tryd.prog.info? (Tryd.renR.t 9)).map (fun i => (i.zero,i.size,i.bytes))=some (some (.string ByteArray.empty),1,16):=by kernel_rfl
section one
variable {P:Program} {ρ:Ren}
set_option maxHeartbeats 2000000 in
theorem YtgonbndbnmimhaaDoor.split_one (L:Lays.n146 P ρ) (hi9:(P.info? (ρ.t 9)).map (fun i => (i.zero,i.size,i.bytes))=some (some (.string ByteArray.empty),1,16)) (s:ByteArray) (b:UInt8) (w:World)
 (hs:s.size < 4294967281) :
 Calls P (ρ.f 146) #[.string s,.string ⟨#[b]⟩] w fun e w' =>
  e=.returned (.slice (some ⟨w.heap.size,0,none⟩) (Lib.countB s ⟨#[b]⟩+1) (Lib.countB s ⟨#[b]⟩+1))∧w'=w.alloc (.cells ((Lib.splitB ⟨#[b]⟩ 0 (Lib.countB s ⟨#[b]⟩) s).map Value.string).toArray (ρ.t 9)):=by
 have hle:=Lib.countB_le ⟨#[b]⟩ (Nat.le_refl 1) s.size s (Nat.le_refl _)
 have hlen:=Lib.splitB_all ⟨#[b]⟩ (Nat.le_refl 1) 0 _ s rfl
 have c:=Any.strings_genSplit_core { L with } hi9 s ⟨#[b]⟩ 0 (-1) (Lib.countB s ⟨#[b]⟩+1) w hs (Nat.le_refl 1) (Nat.zero_le _)
  (fun x c hx => (Any.strings_Index_one { L with } x b _).mono fun e w' ⟨he,hw⟩ => ⟨by rw [he]; exact congrArg (fun i => Ending.returned (Value.int .i64 i)) (Lib.index_one x.data.toList b).symm,hw⟩)
  ((Any.strings_Count_one { L with } s b w).mono fun e w' ⟨he,hw⟩ => ⟨by
    rw [he]
    show _=Ending.returned (Value.int .i64 ((Lib.count s.data.toList [b]:Nat):Int))
    rw [Lib.count_one]
    rfl,hw⟩) (by decide) (by decide) (by rw [if_pos (by decide)]; omega)
 rw [Nat.add_sub_cancel,hlen] at c
 have e2:Lib.cellsOf (Lib.splitB ⟨#[b]⟩ 0 (Lib.countB s ⟨#[b]⟩) s) (Lib.countB s ⟨#[b]⟩+1) = ((Lib.splitB ⟨#[b]⟩ 0 (Lib.countB s ⟨#[b]⟩) s).map Value.string).toArray:=by rw [← hlen]; exact Lib.cellsOf_full _
 rw [e2] at c
 have t3:=L.t3; have t9:=L.t9; have t31:=L.t31
 have a3:=L.a3; have a9:=L.a9; have a31:=L.a31
 have z3:=L.z3; have v3:=L.v3; have z9:=L.z9; have v9:=L.v9; have z31:=L.z31; have v31:=L.v31
 have e221:∀ args w,(callFunc (ρ.f 221) args).run P w=.ok (.enter (ρ.f 221) args) w:=enters_of L.f221 (by kernel_rfl) rfl
 go_enter L.f146,Body.n146_ntmps ρ
 go_wp2_with (go_at_fn (ρ.f 221); refine c.mono ?_; rintro e w' ⟨rfl,hw⟩; rw [hw])
 go_ret
 exact ⟨rfl,rfl⟩
set_option maxHeartbeats 2000000 in
theorem YtgonbndbnmimhaaDoor.slcut_one (L:Lays.n220 P ρ) (s:ByteArray) (b:UInt8) (w:World) (hs:s.size < 4294967281) :
 Calls P (ρ.f 220) #[.string s,.string ⟨#[b]⟩] w fun e w' => e=.returned (.tuple #[.string ⟨(Lib.cut s.data.toList [b]).1.toArray⟩,.string ⟨(Lib.cut s.data.toList [b]).2.1.toArray⟩,.bool (Lib.cut s.data.toList [b]).2.2])∧∃ n,w'=w.drewN n:=by
 rcases Lib.indexB_cases s ⟨#[b]⟩ with hix | ⟨i,hix,hroom⟩
 ·obtain ⟨e1,e2,e3⟩:=Lib.cutB_miss s ⟨#[b]⟩ hix
  replace e1:(⟨(Lib.cut s.data.toList [b]).1.toArray⟩:ByteArray)=s:=e1
  replace e2:(⟨(Lib.cut s.data.toList [b]).2.1.toArray⟩:ByteArray)=ByteArray.empty:=e2
  replace e3:(Lib.cut s.data.toList [b]).2.2=false:=e3
  rw [e1,e2,e3]
  have hix':Lib.indexByte s.data.toList b = -1:=(Lib.index_one s.data.toList b).symm.trans hix
  have t3:=L.t3; have t4:=L.t4; have t9:=L.t9
  have a3:∀ w,(isAgg (ρ.t 3)).run P w=.ok false w:=run_isAgg_plain L.t3 rfl; have a4:∀ w,(isAgg (ρ.t 4)).run P w=.ok false w:=run_isAgg_plain L.t4 rfl; have a9:∀ w,(isAgg (ρ.t 9)).run P w=.ok false w:=run_isAgg_plain L.t9 rfl
  have e219:∀ args w,(callFunc (ρ.f 219) args).run P w=.ok (.enter (ρ.f 219) args) w:=enters_of L.f219 (by kernel_rfl) rfl
  have mixed:=L.mixed; have z3:=L.z3; have v3:=L.v3; have z4:=L.z4; have v4:=L.v4; have z9:=L.z9; have v9:=L.v9
  go_enter L.f220,Body.n220_ntmps ρ
  go_wp2_with (go_at_fn (ρ.f 219); refine (Any.stringslite_Index_one { L with } _ _ _).mono ?_; rintro e w' ⟨rfl,rfl⟩; rw [hix'])
  go_ret3
  exact ⟨rfl,0,rfl⟩
 ·obtain ⟨e1,e2,e3⟩:=Lib.cutB_hit s ⟨#[b]⟩ i hix
  replace e1:(⟨(Lib.cut s.data.toList [b]).1.toArray⟩:ByteArray)=s.extract 0 i:=e1
  replace e2:(⟨(Lib.cut s.data.toList [b]).2.1.toArray⟩:ByteArray)=s.extract (i+1) s.size:=e2
  replace e3:(Lib.cut s.data.toList [b]).2.2=true:=e3
  rw [e1,e2,e3]
  have hix':Lib.indexByte s.data.toList b=i:=(Lib.index_one s.data.toList b).symm.trans hix
  replace hroom:i+1≤s.size:=hroom
  have c1:(0:Int)≤↑i:=by omega
  have c2:(↑i:Int)≤↑s.size:=by omega
  have c3:(0:Int)≤↑i+1:=by omega
  have c4:(↑i+1:Int)≤↑s.size:=by omega
  have t3:=L.t3; have t4:=L.t4; have t9:=L.t9
  have a3:∀ w,(isAgg (ρ.t 3)).run P w=.ok false w:=run_isAgg_plain L.t3 rfl; have a4:∀ w,(isAgg (ρ.t 4)).run P w=.ok false w:=run_isAgg_plain L.t4 rfl; have a9:∀ w,(isAgg (ρ.t 9)).run P w=.ok false w:=run_isAgg_plain L.t9 rfl
  have e219:∀ args w,(callFunc (ρ.f 219) args).run P w=.ok (.enter (ρ.f 219) args) w:=enters_of L.f219 (by kernel_rfl) rfl
  have mixed:=L.mixed; have z3:=L.z3; have v3:=L.v3; have z4:=L.z4; have v4:=L.v4; have z9:=L.z9; have v9:=L.v9
  go_enter L.f220,Body.n220_ntmps ρ
  go_wp2_with (go_at_fn (ρ.f 219); refine (Any.stringslite_Index_one { L with } _ _ _).mono ?_; rintro e w' ⟨rfl,rfl⟩; rw [hix'])
  go_region_o
  go_wp2
  go_ret3
  exact ⟨rfl,1,rfl⟩
set_option maxHeartbeats 1000000 in
theorem YtgonbndbnmimhaaDoor.cut_one (L:Lays.n145 P ρ) (s:ByteArray) (b:UInt8) (w:World) (hs:s.size < 4294967281) :
 Calls P (ρ.f 145) #[.string s,.string ⟨#[b]⟩] w fun e w' => e=.returned (.tuple #[.string ⟨(Lib.cut s.data.toList [b]).1.toArray⟩,.string ⟨(Lib.cut s.data.toList [b]).2.1.toArray⟩,.bool (Lib.cut s.data.toList [b]).2.2])∧∃ n,w'=w.drewN n:=by
 have t4:=L.t4; have t9:=L.t9; have t59:=L.t59
 have a4:∀ w,(isAgg (ρ.t 4)).run P w=.ok false w:=run_isAgg_plain L.t4 rfl; have a9:∀ w,(isAgg (ρ.t 9)).run P w=.ok false w:=run_isAgg_plain L.t9 rfl; have a59:∀ w,(isAgg (ρ.t 59)).run P w=.ok false w:=run_isAgg_plain L.t59 rfl
 have e220:∀ args w,(callFunc (ρ.f 220) args).run P w=.ok (.enter (ρ.f 220) args) w:=enters_of L.f220 (by kernel_rfl) rfl
 have mixed:=L.mixed; have z4:=L.z4; have v4:=L.v4; have z9:=L.z9; have v9:=L.v9; have z59:=L.z59; have v59:=L.v59
 go_enter L.f145,Body.n145_ntmps ρ
 go_wp2_with (go_at_fn (ρ.f 220); refine (YtgonbndbnmimhaaDoor.slcut_one { L with } _ _ _ hs).mono ?_; rintro e w' ⟨rfl,n,rfl⟩)
 go_ret3
 exact ⟨rfl,n,rfl⟩
end one
namespace YtgonbndbnmimhaaDoor.V
open Go.Vm
def cutP (s:ByteArray) (b:UInt8):ByteArray × (ByteArray × Bool):=(⟨(Lib.cut s.data.toList [b]).1.toArray⟩,⟨(Lib.cut s.data.toList [b]).2.1.toArray⟩,(Lib.cut s.data.toList [b]).2.2)
def f16 (k:Nat) (s:ByteArray) (sep:ByteArray):Option (List ByteArray):=if sep.size=1∧s.size < 4294967281 then some (Lib.splitB sep 0 (Lib.countB s sep) s) else none
def f39 (k:Nat) (s:ByteArray) (sep:ByteArray):Option (ByteArray × (ByteArray × Bool)):=if sep.size=1∧s.size < 4294967281 then some (cutP s (sep.data.getD 0 0)) else none
def f54 (k:Nat) (s:ByteArray) (p:ByteArray):Option Bool:=some (Lib.hasPrefix s.data.toList p.data.toList)
def f53 (k:Nat) (s:ByteArray) (c:Int):Option Int:=some (Lib.indexByte s.data.toList c.toNat.toUInt8)
theorem two_args {Z:Fp} {w:World} {s:ByteArray} {t:TV} {vt:Value} {args:List Value} {f:Fp}
 (ht:∀ v f,VRep Z w t.sh t.x v f→v=vt) (hr:VReps Z w [⟨.str,s⟩,t] args f):args=[.string s,vt]:=by
 obtain ⟨v1,l1,f1,f2,rfl,_,_,⟨cs1,⟨e1,_⟩,e1'⟩,v2,l2,f3,f4,rfl,_,_,h2,hn⟩:=hr
 obtain ⟨rfl,_⟩:=hn
 have g1:[Value.string s]=[v1]:=e1.symm.trans e1'
 obtain rfl:Value.string s=v1:=by simpa using g1
 rw [ht v2 f3 h2]
theorem str_val {Z:Fp} {w:World} {s:ByteArray} (v:Value) (f:Fp) (h:VRep Z w (⟨.str,s⟩:TV).sh (⟨.str,s⟩:TV).x v f):v=.string s:=by
 obtain ⟨cs2,⟨e2,_⟩,e2'⟩:=h
 have g2:[Value.string s]=[v]:=e2.symm.trans e2'
 exact (by simpa using g2:Value.string s=v).symm
theorem int_val {Z:Fp} {w:World} {kd:IntKind} {c:Int} (v:Value) (f:Fp) (h:VRep Z w (⟨.int kd,c⟩:TV).sh (⟨.int kd,c⟩:TV).x v f):v=.int kd c:=by
 obtain ⟨cs2,⟨e2,_⟩,e2'⟩:=h
 have g2:[Value.int kd c]=[v]:=e2.symm.trans e2'
 exact (by simpa using g2:Value.int kd c=v).symm
theorem strs_rep {Z:Fp} {w:World}:∀ l:List ByteArray,RRep (CRep Z w .str) l (l.map Value.string) (fun _ => False)
 | [] => ⟨rfl,fun i h => h⟩
 | x :: l => ⟨[.string x],l.map Value.string,fun _ => False,fun _ => False,rfl,fun i => by simp,fun i h => h.elim,⟨rfl,fun _ => id⟩,strs_rep l⟩
theorem strs_own (w:World) (l:List ByteArray) (n:Nat) (hn:l.length=n) (hm:n≤9223372036854775807) :
 (w.alloc (.cells (l.map Value.string).toArray 9)).ownsRow 0 9 1 (.slice (some ⟨w.heap.size,0,none⟩) n n) l.length (l.map Value.string):=by
 subst hn
 exact ⟨by rw [List.length_map,Nat.mul_one],.inr ⟨w.heap.size,l.length,_,rfl,Nat.zero_le _,heap_alloc_new w _,Nat.le_refl _,hm,by rw [List.size_toArray,List.length_map,Nat.mul_one],by rw [Nat.mul_one]; exact List.take_of_length_le (by rw [List.length_map]; exact Nat.le_refl _)⟩⟩
theorem strs_ret {Z:Fp} {w:World} (hZ:∀ i,Z i→i < w.heap.size) (l:List ByteArray) (n:Nat) (hn:l.length=n) (hm:n≤9223372036854775807) :
 ∃ vs Fr Zn,Ending.returned (.slice (some ⟨w.heap.size,0,none⟩) n n)=.returned (RetV vs) ∧ (∀ i,Zn i→i < (w.alloc (.cells (l.map Value.string).toArray 9)).heap.size ∧ (i < w.heap.size→Z i))∧VReps Zn (w.alloc (.cells (l.map Value.string).toArray 9)) [⟨.sl true 9 .str,l⟩] vs Fr ∧ (∀ i,Fr i→w.heap.size≤i∧¬ Zn i)∧Grow (fun _ => False) w (w.alloc (.cells (l.map Value.string).toArray 9)):=by
 have hsz:(w.alloc (.cells (l.map Value.string).toArray 9)).heap.size=w.heap.size+1:=by simp only [World.alloc,Array.size_push]
 refine ⟨[.slice (some ⟨w.heap.size,0,none⟩) n n],fun i => i=w.heap.size,Z,rfl,fun i hi => ⟨by rw [hsz]; have:=hZ i hi; omega,fun _ => hi⟩,?_,fun i h => ⟨Nat.le_of_eq h.symm,fun hz => absurd (hZ i hz) (by rw [h]; exact Nat.lt_irrefl _)⟩,⟨rfl,rfl,rfl,by rw [hsz]; omega,fun i hi _ => heap_alloc_old w _ hi⟩⟩
 refine ⟨_,[],fun i => i=w.heap.size,fun _ => False,rfl,fun i => by rw [or_false],fun i _ h => h,⟨_,⟨_,_,fun _ => False,rfl,strs_rep l,⟨strs_own w l n hn hm,fun i => ?_,fun i _ h => h⟩⟩,rfl⟩,⟨rfl,fun _ => id⟩⟩
 show i=w.heap.size↔some w.heap.size=some i∨False
 constructor
 ·rintro rfl; exact .inl rfl
 ·rintro (h | h)
  ·exact (Option.some.inj h).symm
  ·exact h.elim
theorem c16 (k:Nat) (s:ByteArray) (sep:ByteArray) (r:List ByteArray) (hF:f16 k s sep=some r):PCall Tryd.prog 16 [⟨.str,s⟩,⟨.str,sep⟩] [⟨.sl true 9 .str,r⟩]:=by
 unfold f16 at hF
 split at hF
 ·rename_i h
  cases hF
  refine ⟨⟨Tryd.f16,by kernel_rfl,by kernel_rfl,by kernel_rfl⟩,fun Z w args hZ hr => ?_⟩
  obtain ⟨b,rfl⟩:=Lib.one_byte sep h.1
  rw [two_args str_val hr]
  have hc:=YtgonbndbnmimhaaDoor.split_one Tryd.laysS Tryd.hi9 s b w h.2
  have hlen:=Lib.splitB_all ⟨#[b]⟩ (Nat.le_refl 1) 0 _ s rfl
  have hle:=Lib.countB_le ⟨#[b]⟩ (Nat.le_refl 1) s.size s (Nat.le_refl _)
  refine Calls.mono hc ?_
  rintro e w' ⟨rfl,rfl⟩
  exact strs_ret hZ _ _ hlen (by omega)
 ·cases hF
theorem c39 (k:Nat) (s:ByteArray) (sep:ByteArray) (r:ByteArray × (ByteArray × Bool)) (hF:f39 k s sep=some r):PCall Tryd.prog 39 [⟨.str,s⟩,⟨.str,sep⟩] [⟨.str,r.1⟩,⟨.str,r.2.1⟩,⟨.bool,r.2.2⟩]:=by
 unfold f39 at hF
 split at hF
 ·rename_i h
  cases hF
  refine ⟨⟨Tryd.f39,by kernel_rfl,by kernel_rfl,by kernel_rfl⟩,fun Z w args hZ hr => ?_⟩
  obtain ⟨b,rfl⟩:=Lib.one_byte sep h.1
  rw [two_args str_val hr]
  have hc:=YtgonbndbnmimhaaDoor.cut_one Tryd.laysC s b w h.2
  refine Calls.mono hc ?_
  rintro e w' ⟨rfl,n,rfl⟩
  have hno:∀ i:Nat,False↔False∨False:=fun i => by simp
  refine ⟨[.string (cutP s b).1,.string (cutP s b).2.1,.bool (cutP s b).2.2],fun _ => False,Z,rfl,fun i hi => ⟨hZ i hi,fun _ => hi⟩,⟨_,_,fun _ => False,fun _ => False,rfl,hno,fun i h => h.elim,⟨_,⟨rfl,fun _ => id⟩,rfl⟩,⟨_,_,fun _ => False,fun _ => False,rfl,hno,fun i h => h.elim,⟨_,⟨rfl,fun _ => id⟩,rfl⟩,⟨_,_,fun _ => False,fun _ => False,rfl,hno,fun i h => h.elim,⟨_,⟨rfl,fun _ => id⟩,rfl⟩,⟨rfl,fun _ => id⟩⟩⟩⟩,fun i h => h.elim,⟨rfl,rfl,rfl,Nat.le_refl _,fun i hi _ => rfl⟩⟩
 ·cases hF
theorem c54 (k:Nat) (s:ByteArray) (p:ByteArray) (r:Bool) (hF:f54 k s p=some r):PCall Tryd.prog 54 [⟨.str,s⟩,⟨.str,p⟩] [⟨.bool,r⟩]:=by
 cases hF
 refine ⟨⟨Tryd.f54,by kernel_rfl,by kernel_rfl,by kernel_rfl⟩,fun Z w args hZ hr => ?_⟩
 rw [two_args str_val hr]
 refine Calls.mono (Any.strings_HasPrefix Tryd.laysP s p w) ?_
 rintro e w' ⟨rfl,rfl⟩
 exact ⟨[.bool _],fun _ => False,Z,rfl,fun i hi => ⟨hZ i hi,fun _ => hi⟩,⟨_,[],fun _ => False,fun _ => False,rfl,fun i => by simp,fun i h => h.elim,⟨_,⟨rfl,fun _ => id⟩,rfl⟩,⟨rfl,fun _ => id⟩⟩,fun i h => h.elim,Grow.refl _ _⟩
theorem c53 (k:Nat) (s:ByteArray) (c:Int) (r:Int) (hF:f53 k s c=some r):PCall Tryd.prog 53 [⟨.str,s⟩,⟨.int .u8,c⟩] [⟨.int .i64,r⟩]:=by
 cases hF
 refine ⟨⟨Tryd.f53,by kernel_rfl,by kernel_rfl,by kernel_rfl⟩,fun Z w args hZ hr => ?_⟩
 rw [two_args int_val hr]
 refine Calls.mono (Any.strings_IndexByte Tryd.laysI s c w) ?_
 rintro e w' ⟨rfl,rfl⟩
 exact ⟨[.int .i64 _],fun _ => False,Z,rfl,fun i hi => ⟨hZ i hi,fun _ => hi⟩,⟨_,[],fun _ => False,fun _ => False,rfl,fun i => by simp,fun i h => h.elim,⟨_,⟨rfl,fun _ => id⟩,rfl⟩,⟨rfl,fun _ => id⟩⟩,fun i h => h.elim,Grow.refl _ _⟩
end YtgonbndbnmimhaaDoor.V
end Go.Proofs
