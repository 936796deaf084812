/-
  Own texts of this project, joined. No condition.
-/
import Derived.Test.YtnpaokckkbhdjaaSoX
import Derived.Test.YtnpaokckkbhdjaaVmSo
import Derived.Laws.Externs
import Derived.WalkKit
import Derived.BigCall
import Derived.BigGuard
import Derived.Shelf.Abstract
import Derived.Test.YtnpaokckkbhdjaaVmSr
section
set_option linter.unusedVariables false
set_option linter.unusedSimpArgs false
open Go Go.Vm Go.Proofs Go.Lib
namespace Go.Proofs.Ytnpaokckkbhdjaa.S
theorem bits_call (n:Nat) (hn:n < 2305843009213693952) (w:World):Calls Try.prog 141 #[.int .u64 (n:Int)] w fun e w' => e=.returned (.int .i64 ((Go.Sort.bitsLen n:Nat):Int))∧Grow (fun _ => False) w w':=by
 have h:=(c141 0 (n:Int) _ (f141_eq 0 (by omega))).2 (fun _ => False) w [.int .u64 (n:Int)] (fun i hi => hi.elim) ⟨_,_,fun _ => False,fun _ => False,rfl,fun i => ⟨.inl,fun h => h.elim id id⟩,fun i h => h.elim,⟨_,⟨rfl,fun _ => id⟩,rfl⟩,rfl,fun _ => id⟩
 refine h.mono ?_
 rintro e w' ⟨vs,Fr,Zn,rfl,_,hvs,_,hgr⟩
 obtain ⟨v,r,_,_,rfl,_,_,hv1,rfl,_⟩:=hvs
 exact ⟨by rw [int_arg hv1]; rfl,hgr⟩
set_option maxHeartbeats 4000000 in
set_option maxRecDepth 100000 in
theorem slice73_of {t e:TypeId} {i ie:TypeInfo} (hi:Try.prog.info? t=some i) (hd:i.desc=.slice e) (hpk:Try.prog.packed t=false) (hie:Try.prog.info? e=some ie) {ke:Nat} (hke:∀ w,(Extern.Rtype.kind e).run Try.prog w=.ok ke w)
 (p : Option Addr) (n c : Nat) (hn : n < 2305843009213693952) (f : Nat) (hf : Try.prog.funcs.findIdx? (·.name == "internal/reflectlite" ++ ".Swapper$" ++ toString (swapperK n ie ke)) = some f) (lf : Fn) (la lb : Array Value) (w : World) (R : World → Prop)
 (hp:∀ w2,Grow (fun _ => False) w w2→Calls Try.prog 142 #[.agg #[.func lf la lb,.func (.func f) #[] (if swapperK n ie ke≤2 then #[] else #[.slice p n c,typeHandle Try.prog e])],.int .i64 0,.int .i64 (n:Int),.int .i64 ((Go.Sort.bitsLen n:Nat):Int)] w2 fun e w' => e=.returned (.tuple #[])∧R w') :
 Calls Try.prog 73 #[.iface t (.slice p n c),.func lf la lb] w fun e w' => e=.returned (.tuple #[])∧R w':=by
 have hv:=run_valueOf_slice (P:=Try.prog) t e i hi hd p n c w
 have hs:=fun w => run_swapper_slice (P:=Try.prog) t e i ie hi hd hie ke hke p n c f hf w
 have hl:=fun a w ha => run_valueLen_slice (P:=Try.prog) t e i hi hd hpk a p n c w ha
 have hb:=fun w => bits_call n hn w
 have e141:∀ args w,(callFunc 141 args).run Try.prog w=.ok (.enter 141 args) w:=enters_of Try.func141 (by kernel_rfl) rfl
 have e142:∀ args w,(callFunc 142 args).run Try.prog w=.ok (.enter 142 args) w:=enters_of Try.func142 (by kernel_rfl) rfl
 generalize (if swapperK n ie ke≤2 then (#[]:Array Value) else #[.slice p n c,typeHandle Try.prog e])=B at hs hp
 have hg:Try.prog.globals.size=0:=by kernel_rfl
 simp only [typeHandle,hg] at hv hl
 have wr:IntKind.u64.wrap (n:Int)=n:=by rw [IntKind.wrap_u64]; omega
 go_enter Try.func73,Try.ntmps73
 go_wp2
 rw [run_callFunc_extern Try.func138 (by kernel_rfl) (by kernel_rfl) (by kernel_rfl) (e:=fun args => Extern.ReflectliteValue.unpack (args.getD 0 (.tuple #[]))) (by kernel_rfl),
  show Sem.run Try.prog ((fun args:Array Value => Extern.ReflectliteValue.unpack (args.getD 0 (.tuple #[]))) #[.iface t (.slice p n c)]) w=_ from hv]
 simp only [Result.andThen]
 rw [Oper.upon_value]
 go_wp2
 rw [run_callFunc_extern Try.func139 (by kernel_rfl) (by kernel_rfl) (by kernel_rfl) (e := Extern.ReflectliteSwapper.swapper "internal/reflectlite" (Extern.ReflectliteValue.valueError "Swapper")) (by kernel_rfl), hs]
 simp only [Result.andThen]
 rw [Oper.upon_value]
 go_wp2
 rw [run_callFunc_extern Try.func140 (by kernel_rfl) (by kernel_rfl) (by kernel_rfl) (e := Extern.ReflectliteValue.method (Extern.ReflectliteValue.valueError "reflectlite.Value.Len" 0) Extern.ReflectliteValue.len) (by kernel_rfl),
  hl _ _ (by simp)]
 simp only [Result.andThen]
 rw [Oper.upon_value]
 go_wp2_with (first
  | (go_at_fn 141; refine (hb _).mono ?_; rintro e w' ⟨rfl,hgr⟩)
  | (go_at_fn 142; refine (hp _ (((Grow.alloc w _).step (Grow.alloc _ _) (fun _ h => h.elim)).step hgr (fun _ h => h.elim))).mono ?_; rintro e w' ⟨rfl,hR⟩))
 go_end0
 exact ⟨rfl,hR⟩
end Go.Proofs.Ytnpaokckkbhdjaa.S
end
section
set_option linter.unusedVariables false
set_option linter.unusedSimpArgs false
open Go Go.Vm Go.Proofs Go.Lib
namespace Go.Proofs.Ytnpaokckkbhdjaa.S
open Go.Sort (SWO pdq bitsLen)
theorem swp_self {X:Array Nat} {p:Nat} (hp:p < X.size):Go.Sort.swp X p p=X:=by
 apply Array.toList_inj.1
 rw [swp_list hp hp,List.set_set]
 have:X[p]! = X.toList[p]'(by simpa using hp):=by simp [hp]
 rw [this,List.set_getElem_self]
theorem lit2e:(Extern.find Try.f176).map (fun e => (e (#[.int .i64 0,.int .i64 0] ++ #[])).run Try.prog)=some (fun W => .ok (.tuple #[]) W):=by kernel_rfl
theorem lit2 (W:World):(callFunc 176 (#[.int .i64 0,.int .i64 0] ++ #[])).run Try.prog W=.ok (.value (.tuple #[])) W:=by
 have h:=lit2e
 cases he:Extern.find Try.f176 with
 | none => rw [he] at h; cases h
 | some e =>
   rw [he] at h
   simp only [Option.map_some,Option.some.injEq] at h
   rw [run_callFunc_extern Try.func176 (by kernel_rfl) (by kernel_rfl) (by kernel_rfl) he,h]
   rfl
theorem find1 : Try.prog.funcs.findIdx? (·.name == "internal/reflectlite" ++ ".Swapper$" ++ toString 1) = some 175 := by kernel_rfl
theorem find2 : Try.prog.funcs.findIdx? (·.name == "internal/reflectlite" ++ ".Swapper$" ++ toString 2) = some 176 := by kernel_rfl
theorem find9 : Try.prog.funcs.findIdx? (·.name == "internal/reflectlite" ++ ".Swapper$" ++ toString 9) = some 183 := by kernel_rfl
theorem lit9 (args:Array Value) (W:World):(callFunc 183 args).run Try.prog W = ((Extern.ReflectliteSwapper.swap false args).run Try.prog W).andThen fun v w' => .ok (.value v) w' :=
 run_callFunc_extern Try.func183 (by kernel_rfl) (by kernel_rfl) (by kernel_rfl) (by kernel_rfl) args W
theorem slice73 {t e te:TypeId} {i ie:TypeInfo} (hi:Try.prog.info? t=some i) (hd:i.desc=.slice e) (hpk:Try.prog.packed t=false) (hie:Try.prog.info? e=some ie) {ke:Nat} (hke:∀ w,(Extern.Rtype.kind e).run Try.prog w=.ok ke w)
 {w1:World} {B:Option Nat} {A:Option Addr} {n cp sz:Nat} {c:Nat→List Value} {rest:List Value} {lt:Nat→Nat→Bool} (hn:n < 2305843009213693952) (hB:∀ b,B=some b→A=some ⟨b,0,none⟩∧b < w1.heap.size∧w1.heap[b]?=some (.cells (rowC c (Array.range n) ++ rest).toArray te (0,0)))
 (hnil:B=none→n=0) (hsz:ie.size=sz) (hc:∀ q,(c q).length=sz) (h1:∀ q,∀ v ∈ c q,v.oneCell'=true) (hk:(∀ w,(Go.isAgg e).run Try.prog w=.ok true w) ∨ (sz=1∧∀ w,(Go.isAgg e).run Try.prog w=.ok false w)) (hlt:SWO lt)
 {g:Nat} {lb:Array Value} (hless:∀ X i j,inX X i j→GLess Try.prog (.func (.func g) #[] lb) (soFam w1 B te c rest n lt) X i j (lessF (soFam w1 B te c rest n lt) X i j))
 (hsw : 2 ≤ n → ∃ f gS, Try.prog.funcs.findIdx? (·.name == "internal/reflectlite" ++ ".Swapper$" ++ toString (swapperK n ie ke)) = some f ∧ ∀ args W, (callFunc f args).run Try.prog W = ((Extern.ReflectliteSwapper.swap gS args).run Try.prog W).andThen fun v w' => .ok (.value v) w') :
 Calls Try.prog 73 #[.iface t (.slice A n cp),.func (.func g) #[] lb] w1 fun e w' => e=.returned (.tuple #[])∧∃ f',(soFam w1 B te c rest n lt).J (pdq lt (Array.range n) 0 n (bitsLen n) true true) w' f'∧Grow (fun i => i < w1.heap.size) w1 w':=by
 have key : ∃ f, Try.prog.funcs.findIdx? (·.name == "internal/reflectlite" ++ ".Swapper$" ++ toString (swapperK n ie ke)) = some f ∧
  ∀ X i j,inX X i j→GSwap Try.prog (.func (.func f) #[] (if swapperK n ie ke≤2 then #[] else #[.slice A n cp,typeHandle Try.prog e])) (soFam w1 B te c rest n lt) X i j (swpF X i j):=by
  rcases Nat.lt_or_ge n 2 with h2 | h2
  ·rcases Nat.eq_zero_or_pos n with h0 | h0
   ·subst h0
    have e1:swapperK 0 ie ke=1:=rfl
    rw [e1]
    refine ⟨175,find1,fun X i j hX => ⟨175,_,rfl,?_⟩⟩
    rintro w f ⟨_,hp,_⟩
    have:=perm_size hp
    obtain ⟨⟨_,_⟩,_⟩:=hX
    omega
   ·have h0:n=1:=by omega
    subst h0
    have e1:swapperK 1 ie ke=2:=rfl
    rw [e1]
    refine ⟨176,find2,fun X i j hX => ⟨176,_,rfl,?_⟩⟩
    rintro w f hJ
    have hs:=perm_size hJ.2.1
    obtain ⟨⟨i0,i1⟩,i2,i3⟩:=hX
    obtain rfl:i=0:=by omega
    obtain rfl:j=0:=by omega
    refine ⟨w,f,?_,?_,fun _ => .inl,Grow.refl _ _⟩
    ·exact lit2 w
    ·have:swpF X 0 0=X:=swp_self (X:=X) (p:=0) (by omega)
     rw [this]; exact hJ
  ·obtain ⟨f,gS,hf,hx⟩:=hsw h2
   refine ⟨f,hf,fun X i j hX => ?_⟩
   have hgt:¬ swapperK n ie ke≤2:=by
    have a1:(n == 0)=false:=by simp; omega
    have a2:(n == 1)=false:=by simp; omega
    unfold swapperK
    simp only [a1,a2,Bool.false_eq_true,if_false]
    repeat' split
    all_goals omega
   rw [if_neg hgt]
   cases B with
   | none => have:=hnil rfl; omega
   | some b =>
     obtain ⟨rfl,_,_⟩:=hB b rfl
     exact so_swap hx hie hsz hc h1 hk hX
 obtain ⟨f,hf,hswap⟩:=key
 have fo:FamOk Try.prog (.func (.func g) #[] lb) (.func (.func f) #[] (if swapperK n ie ke≤2 then #[] else #[.slice A n cp,typeHandle Try.prog e])) (soFam w1 B te c rest n lt):=⟨hless,hswap⟩
 refine slice73_of hi hd hpk hie hke A n cp hn f hf (.func g) #[] lb w1 _ ?_
 intro w2 hg2
 have hX0:(Array.range n).size=n:=Array.size_range
 have hlim:bitsLen n < 4611686018427387904:=by
  have:=(Go.Sort.bitsLen_le_iff n 61).2 (by omega)
  omega
 have hJ:(soFam w1 B te c rest n lt).J (Array.range n) w2 (fun i => i < w1.heap.size):=by
  refine ⟨fun i => Iff.rfl,by simp,fun i hi _ => hg2.block i hi id,fun b hb => ?_⟩
  obtain ⟨_,q2,q3⟩:=hB b hb
  exact ⟨q2,by rw [hg2.block b q2 id]; exact q3⟩
 have hm:=c142 (n+n+30) (soFam w1 B te c rest n lt) (Array.range n) ((0:Nat):Int) (n:Int) ((bitsLen n:Nat):Int) fo _
  (f142_eq (soFam w1 B te c rest n lt) hlt n (n+n+30) 0 n (bitsLen n) (Array.range n) (by omega) (Nat.zero_le _) (by omega) (by omega) hlim (.inl rfl) (by omega))
 have hargs:VReps (fun _ => False) w2 [⟨sh1,((.func (.func g) #[] lb,(soFam w1 B te c rest n lt,Array.range n)),.func (.func f) #[] (if swapperK n ie ke≤2 then #[] else #[.slice A n cp,typeHandle Try.prog e]))⟩,⟨.int .i64,((0:Nat):Int)⟩,⟨.int .i64,(n:Int)⟩,⟨.int .i64,((bitsLen n:Nat):Int)⟩]
  [.agg #[.func (.func g) #[] lb,.func (.func f) #[] (if swapperK n ie ke≤2 then #[] else #[.slice A n cp,typeHandle Try.prog e])],.int .i64 0,.int .i64 (n:Int),.int .i64 ((bitsLen n:Nat):Int)] (fun i => i < w1.heap.size):=by
  refine vreps_head (data_mk (x:=((.func (.func g) #[] lb,(soFam w1 B te c rest n lt,Array.range n)),.func (.func f) #[] (if swapperK n ie ke≤2 then #[] else #[.slice A n cp,typeHandle Try.prog e]))) rfl rfl hJ) ?_
  exact vreps_cons ⟨_,⟨rfl,fun _ => id⟩,rfl⟩ (vreps_cons ⟨_,⟨rfl,fun _ => id⟩,rfl⟩ (vreps_cons ⟨_,⟨rfl,fun _ => id⟩,rfl⟩ ⟨rfl,fun _ => id⟩))
 have hcall:=hm.2 (fun _ => False) w2 _ (fun i => i < w1.heap.size) (fun i hi => hi.elim) hargs (fun i _ => id)
 refine hcall.mono ?_
 rintro e1 w' ⟨vs,Fr,f1,Zn,rfl,hzn,hvs,hfr,hfs,hf1,hgr⟩
 obtain ⟨rfl,_⟩:=hvs
 refine ⟨rfl,?_⟩
 obtain ⟨v,vs',g1,g2,hcons,_,_,hv1,_⟩:=hfs
 obtain ⟨_,_,_,hJ'⟩:=data_rep hv1
 have hg3:Grow (fun i => i < w1.heap.size) w1 w2:=⟨hg2.os,hg2.tape,hg2.output,hg2.size,fun i hi _ => hg2.block i hi id⟩
 refine ⟨g1,?_,hg3.step hgr (fun i hi => .inl hi)⟩
 simp only [List.cons.injEq] at hcons
 exact hJ'
end Go.Proofs.Ytnpaokckkbhdjaa.S
end
section
set_option linter.unusedVariables false
set_option linter.unusedSimpArgs false
open Go Go.Vm Go.Proofs Go.Lib
namespace Go.Proofs.Ytnpaokckkbhdjaa.S
theorem info_get {t:TypeId} {α:Type} {p:TypeInfo→α} {x:α} (h:(Try.prog.info? t).map p=some x):∃ i,Try.prog.info? t=some i∧p i=x:=by
 cases hi:Try.prog.info? t with
 | none => rw [hi] at h; cases h
 | some i => rw [hi] at h; exact ⟨i,rfl,by simpa using h⟩
def swK (p:Bool) (bytes ke:Nat):Nat:=if p && bytes == 8 then 3 else if p && (ke == 24) then 4 else if p then 9 else match bytes with | 8 => 5 | 4 => 6 | 2 => 7 | 1 => 8 | _ => 9
theorem sc73 {t e:TypeId} {sz:Nat} {p:Bool} {bytes ke K f:Nat} {gS:Bool} (hi:(Try.prog.info? t).map (fun i => i.desc)=some (.slice e)) (hpk:Try.prog.packed t=false) (hie:(Try.prog.info? e).map (fun i => (i.size,i.hasPointers,i.bytes))=some (sz,p,bytes))
 (hke:∀ w,(Extern.Rtype.kind e).run Try.prog w=.ok ke w) (hk:(∀ w,(Go.isAgg e).run Try.prog w=.ok true w) ∨ (sz=1∧∀ w,(Go.isAgg e).run Try.prog w=.ok false w))
 (hK:swK p bytes ke=K)
 (hf : Try.prog.funcs.findIdx? (·.name == "internal/reflectlite" ++ ".Swapper$" ++ toString K) = some f) (hx : ∀ args W, (callFunc f args).run Try.prog W = ((Extern.ReflectliteSwapper.swap gS args).run Try.prog W).andThen fun v w' => .ok (.value v) w') :
 SortC Try.prog 73 t e sz pdqR:=by
 obtain ⟨i,hi1,hi2⟩:=info_get hi
 obtain ⟨ie,he1,he2⟩:=info_get hie
 simp only [Prod.mk.injEq] at he2
 obtain ⟨q1,q2,q3⟩:=he2
 intro w1 B A n cp c rest lt g lb hn hB hnil hc h1 hlt hless
 refine slice73 hi1 hi2 hpk he1 hke hn hB hnil q1 hc h1 hk hlt hless (fun h2 => ⟨f,gS,?_,hx⟩)
 have a1:(n == 0)=false:=by simp; omega
 have a2:(n == 1)=false:=by simp; omega
 have:swapperK n ie ke=K:=by
  unfold swapperK
  simp only [a1,a2,Bool.false_eq_true,if_false]
  rw [q2,q3]
  exact hK
 rw [this]
 exact hf
end Go.Proofs.Ytnpaokckkbhdjaa.S
end
section
set_option linter.unusedVariables false
set_option linter.unusedSimpArgs false
open Go Go.Vm Go.Proofs Go.Lib
namespace Go.Proofs.Ytnpaokckkbhdjaa.S
theorem sc73_69:SortC Try.prog 73 69 174 2 pdqR:=sc73 (gS:=false) (p:=false) (bytes:=16) (ke:=25) (by kernel_rfl) (by kernel_rfl) (by kernel_rfl) (fun w => by kernel_rfl) (.inl fun w => by kernel_rfl) (K:=9) (by kernel_rfl) find9 lit9
end Go.Proofs.Ytnpaokckkbhdjaa.S
end
