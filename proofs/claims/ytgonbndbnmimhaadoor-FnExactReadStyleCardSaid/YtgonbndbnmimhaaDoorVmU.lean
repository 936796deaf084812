/- A row's step, from the contract of the law's function. -/
import Derived.Test.YtgonbndbnmimhaaDoorVmT
import Derived.OpenShut
import Derived.JoinedOf
set_option linter.unusedVariables false
set_option linter.unusedSimpArgs false
namespace Go.Vm
open Go Go.ChangeShapes Go.WideShapes Go.RowKit
section
variable {H:Type} {enc:TypeId × Value→H} {P:Program} {T:Tbl} {W W':World}
theorem Grow.kept (h:Grow (fun _ => False) W W') (may:MemPlace→Prop):W.keptBut W' may:=by
 refine ⟨h.os,h.output,fun i hi => ?_⟩
 have:=h.block i hi (fun x => x)
 rw [this]
 cases hw:W.heap[i]? with
 | none => rfl
 | some o => cases o with
   | cells c t fr => exact ⟨rfl,rfl,rfl,fun _ _ => rfl⟩
   | map es c => exact .inr ⟨rfl,rfl⟩
   | _ => rfl
theorem Grow.sameAt (h:Grow (fun _ => False) W W') {p:MemPlace} (hp:p.block < W.heap.size):W.sameAt W' p:=by
 have:=h.block p.block hp (fun x => x)
 cases p with
 | cell b off => simp only [World.sameAt,World.cell?]; simp only [MemPlace.block] at this; rw [this]
 | map b => exact this
theorem trodAll_stays (hl:laidOutB P=true) {sp':Nat→Bool}:∀ {ts:List TypeId} {vs:List Value} {ds:List (DataW H)} {ps:List MemPlace},(∀ t ∈ ts,P.readableRec t=true∧t < P.types.size) →
 DataW.TrodAll enc P W 0 (fun _ => true) true ts vs ds ps → (∀ p ∈ ps,W.sameAt W' p) → (∀ p ∈ ps,sp' p.block=true)→DataW.TrodAll enc P W' 0 sp' true ts vs ds ps
 | [],[],[],ps,_,h,_,_ => h
 | t :: ts,v :: vs,d :: ds,ps,ht,h,h1,h2 => by
   obtain ⟨p,q,hd,hr,rfl⟩:=h
   exact ⟨p,q,WideElems.Trod_stays hl (ht t List.mem_cons_self).1 (ht t List.mem_cons_self).2 hd (fun x hx => h1 x (List.mem_append_left _ hx)) (fun x hx => h2 x (List.mem_append_left _ hx)),
    trodAll_stays hl (fun t' h' => ht t' (List.mem_cons_of_mem _ h')) hr (fun x hx => h1 x (List.mem_append_right _ hx)) (fun x hx => h2 x (List.mem_append_right _ hx)),rfl⟩
 | [],_ :: _,_,_,_,h,_,_ => h.elim
 | [],[],_ :: _,_,_,h,_,_ => h.elim
 | _ :: _,[],_,_,_,h,_,_ => h.elim
 | _ :: _,_ :: _,[],_,_,h,_,_ => h.elim
theorem trodAll_len:∀ {ts:List TypeId} {vs:List Value} {ds:List (DataW H)} {ps:List MemPlace},DataW.TrodAll enc P W 0 (fun _ => true) true ts vs ds ps→ds.length=ts.length
 | [],[],[],ps,h => rfl
 | t :: ts,v :: vs,d :: ds,ps,⟨p,q,hd,hr,_⟩ => by simp [trodAll_len hr]
 | [],_ :: _,_,_,h => h.elim
 | [],[],_ :: _,_,h => h.elim
 | _ :: _,[],_,_,h => h.elim
 | _ :: _,_ :: _,[],_,h => h.elim
theorem valOf_arg (hT:TOk P T) {n t:Nat} {s:Sh} {v:Value} {r:Reach} {base:Nat} (hs:T.sh n t=some s) (hv:Value.okWide P W r base t v):ValOf s v v.cells.toList:=by
 cases n with
 | zero => cases hs
 | succ n =>
   unfold Tbl.sh at hs
   split at hs
   ·rename_i i hi
    obtain ⟨hit,hty⟩:=hT.find hi
    obtain ⟨d,hd,hk⟩:=hty.desc
    rw [hit] at hd
    split at hs
    ·rename_i k hkd
     cases hs
     rw [hkd] at hk
     cases d <;> simp only [kdOf,reduceCtorEq,KD.int.injEq] at hk
     obtain ⟨m,rfl⟩:=okWide_int hd hv
     rfl
    ·rename_i hkd
     cases hs
     rw [hkd] at hk
     cases d <;> simp only [kdOf,reduceCtorEq] at hk
     obtain ⟨m,rfl⟩:=okWide_bool hd hv
     rfl
    ·rename_i hkd
     cases hs
     rw [hkd] at hk
     cases d <;> simp only [kdOf,reduceCtorEq] at hk
     obtain ⟨m,rfl⟩:=okWide_string hd hv
     rfl
    ·rename_i e hkd
     rw [hkd] at hk
     split at hs
     ·cases hs
      cases d <;> simp only [kdOf,reduceCtorEq,KD.slice.injEq] at hk
      obtain ⟨_,_,_,rfl⟩:=okWide_slice hd hv
      rfl
     ·cases hs
    ·rename_i e hkd
     rw [hkd] at hk
     split at hs
     ·cases hs
      cases d <;> simp only [kdOf,reduceCtorEq,KD.ptr.injEq] at hk
      obtain ⟨_,rfl⟩:=okWide_pointer hd hv
      rfl
     ·cases hs
    ·rename_i fs hkd
     rw [hkd] at hk
     split at hs
     ·split at hs
      ·cases hs
       cases d <;> simp only [kdOf,reduceCtorEq,KD.struct.injEq] at hk
       obtain ⟨cs,rfl,_⟩:=okWide_struct hd hv
       show Value.agg cs=.agg cs.toList.toArray
       rw [Array.toArray_toList]
      ·cases hs
     ·cases hs
    ·cases hs
   ·cases hs
theorem args_rep (hT:TOk P T) (K:Kids P (· < P.types.size)) {m:Nat} {base:Nat}:∀ {ts:List TypeId} {vs:List Value} {ds:List (DataW H)} {ps:List MemPlace} {shs:List Sh},(∀ t ∈ ts,t < P.types.size)→ts.mapM (T.sh m)=some shs →
 DataW.TrodAll enc P W 0 (fun _ => true) true ts vs ds ps → (∀ (j:Nat) t v,ts[j]?=some t→vs[j]?=some v→Value.okWide P W .any base t v) →
 ∃ ins:List TV,ins.map (·.sh)=shs ∧ (∀ t ∈ ins,t.sh.wf t.x)∧VReps (allOf W) W ins vs noF
 | [],[],[],ps,shs,_,hm,h,_ => by
   simp only [List.mapM_nil,Option.pure_def,Option.some.injEq] at hm
   subst hm
   exact ⟨[],rfl,fun t h => absurd h List.not_mem_nil,rfl,fun i h => h⟩
 | t :: ts,v :: vs,d :: ds,ps,shs,ht,hm,h,hv => by
   simp only [List.mapM_cons,Option.bind_eq_bind,Option.pure_def,Option.bind_eq_some_iff,Option.some.injEq] at hm
   obtain ⟨s0,h0,r,hr,rfl⟩:=hm
   obtain ⟨p,q,⟨fuel,hd⟩,hrest,rfl⟩:=h
   obtain ⟨ins,k1,k2,k3⟩:=args_rep hT K (fun t' h' => ht t' (List.mem_cons_of_mem _ h')) hr hrest (fun j t v h1 h2 => hv (j+1) t v (by simpa using h1) (by simpa using h2))
   obtain ⟨y,hy,hw⟩:=read_rep hT K m t s0 fuel _ _ h0 hd (ht t List.mem_cons_self)
   refine ⟨⟨s0,y⟩ :: ins,by simp [k1],?_,v,vs,noF,noF,rfl,fun i => ⟨fun h => h.elim,fun h => h.elim id id⟩,fun i h => h.elim,⟨_,hy,valOf_arg hT h0 (hv 0 t v rfl rfl)⟩,k3⟩
   intro t' h'
   rcases List.mem_cons.1 h' with rfl | h'
   ·exact hw
   ·exact k2 t' h'
 | [],_ :: _,_,_,_,_,_,h,_ => h.elim
 | [],[],_ :: _,_,_,_,_,h,_ => h.elim
 | _ :: _,[],_,_,_,_,_,h,_ => h.elim
 | _ :: _,_ :: _,[],_,_,_,_,h,_ => h.elim
theorem row_step (hT:TOk P T) (hl:laidOutB P=true) (hm:mapsRowed P=true) {f:Nat} {fn:Func} {s:ChangeSpec} {tb m:Nat} {shs:List Sh}
 (hres:fn.resultTypes=#[tb]) (hb:P.underlying tb=some .bool) (hvars:s.vars=[]) (hspec:∀ ds,ds.length=fn.params.toList.length→s.fn H ds={ results:=[.lit (.bool true)],args:=ds })
 (hread:(fn.params.toList.all fun t => P.readableRec t && decide (t < P.types.size))=true) (hsh:fn.params.toList.mapM (T.sh m)=some shs)
 (hcall:∀ ins:List TV,ins.map (·.sh)=shs → (∀ t ∈ ins,t.sh.wf t.x)→PCall P f ins [⟨.bool,true⟩])
 {apart fresh handsOn:Bool} {base:Nat} {args:Array Value} {ds gs:List (DataW H)} {before:List MemPlace}
 (hval:∀ (j:Nat) t v,fn.params[j]?=some t→args[j]?=some v→Value.okWide P W .any base t v)
 (hW:DataW.Whole enc P fn.params.toList s.vars apart W args.toList ds gs before) :
 Calls P f args W fun e W' => ∃ v,e=.returned v∧s.post enc P fn apart fresh handsOn false W args v W':=by
 have hrd:∀ t ∈ fn.params.toList,P.readableRec t=true∧t < P.types.size:=fun t ht => by
  have:=List.all_eq_true.1 hread t ht
  simpa using this
 have hW':=hW
 obtain ⟨p,q,hA,hV,rfl,hfz,hnd⟩:=hW
 rw [hvars] at hV
 obtain ⟨rfl,rfl⟩:=trodVars_none hV
 obtain ⟨ins,k1,k2,k3⟩:=args_rep hT (kids_rows hl hm) (fun t ht => (hrd t ht).2) hsh hA (fun j t v h1 h2 => hval j t v (by simpa using h1) (by simpa using h2))
 have hc:=(hcall ins k1 k2).2 (allOf W) W args.toList (fun i hi => hi) k3
 rw [Array.toArray_toList] at hc
 refine hc.mono fun e W' ⟨vs,Fr,Zn,he,hZ,hv,hF,hg⟩ => ?_
 subst he
 obtain ⟨v,vs',f1,f2,rfl,_,_,⟨cs,⟨hcs,_⟩,hvo⟩,⟨hvs,_⟩⟩:=hv
 subst hvs
 have hvv:cs=[v]:=hvo
 rw [hcs] at hvv
 cases hvv
 have hlen:=trodAll_len hA
 simp only [List.append_nil] at hW'
 have hsp:s.fn H (ds ++ [])={ results:=[.lit (.bool true)],args:=ds }:=by rw [List.append_nil]; exact hspec ds hlen
 have hlt:∀ x ∈ p,x.block < W.heap.size:=fun x hx => by simpa using hW'.lt x (by simpa using hx)
 refine ⟨_,rfl,ds,[],p,[],p,[],by simpa using hW',?_,?_,?_,World.keptBut_mono (fun x h => h.elim) (hg.kept (fun _ => False)),fun h => by cases h⟩
 ·rw [hsp,hres]
  exact trodAll_cons_mk (shut_bool hb true) trodAll_mk0
 ·rw [hsp]
  exact trodAll_stays hl hrd hA (fun x hx => hg.sameAt (hlt x hx)) (fun x hx => by simpa using hlt x hx)
 ·rw [hsp,hvars]
  rfl
end
end Go.Vm
