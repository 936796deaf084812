/- Equality of flat values; maps: made, looked up, written. -/
import Derived.Test.YtgonbndbnmimhaaDoorVmO
import Derived.Laws.StructEq
import Derived.MapKept
import Derived.WideKeyRuns
set_option linter.unusedVariables false
set_option linter.unusedSimpArgs false
namespace Go.Vm
open Go
def Sh.beq:(s:Sh)→s.den→s.den→Bool
 | .int _,x,y => (x:Int) == y
 | .bool,x,y => (x:Bool) == y
 | .str,x,y => ByteArray.toList x == ByteArray.toList y
 | .pair a b,x,y => a.beq x.1 y.1 && b.beq x.2 y.2
 | .st f,x,y => f.beq x y
 | _,_,_ => false
def partTy (P:Program) (t:Nat) (s:Sh):Bool:=match P.underlying t,s with
 | some (.struct _),.st f => (match P.info? t with | some i => i.size == f.size | none => false)
 | some (.int _),.int _ => true
 | some .bool,.bool => true
 | some .string,.str => true
 | _,_ => false
mutual
def eqTy (P:Program):Nat→Nat→Sh→Bool
 | 0,_,_ => false
 | n+1,t,s => match s,P.underlying t with
   | .int _,some (.int _) => true
   | .bool,some .bool => true
   | .str,some .string => true
   | .st f,some (.struct fs) => !P.stoodInHeld t && eqFs P n fs.toList f 0
   | _,_ => false
def eqFs (P:Program):Nat→List Field→Sh→Nat→Bool
 | 0,_,_,_ => false
 | n + 1, [g], s, off => g.name != "_" && g.offset == off && partTy P g.type s && eqTy P n g.type s
 | n + 1, g :: r, .pair a b, off => g.name != "_" && g.offset == off && partTy P g.type a && eqTy P n g.type a && eqFs P n r b (off + a.size)
 | _,_,_,_ => false
end
section
variable {P:Program} {T:Tbl} {Z Z':Fp} {w:World}
theorem beq_bytes (a b:ByteArray):(a == b) = (a.toList == b.toList):=beq_toListBytes a b
theorem part_run {t:Nat} {s:Sh} {x:s.den} {c:List Value} {f:Fp} (h:partTy P t s=true) (hc:CRep Z w s x c f) {cs:Array Value} {off:Nat} {pre post:List Value} (hcs:cs.toList=pre ++ c ++ post) (hp:pre.length=off) (w1:World) :
 ∃ v,(part t cs off).run P w1=.ok v w1∧ValOf s v c:=by
 have hl:=CRep.length hc
 unfold partTy at h
 split at h
 ·rename_i fs f' hu
  split at h
  ·rename_i i hi
   have hsz:i.size=f'.size:=by simpa using h
   refine ⟨.agg c.toArray,?_,rfl⟩
   have ha:=agg_run (t:=t) hu w1
   have hex:cs.extract off (off+i.size)=c.toArray:=by
    apply Array.toList_inj.1
    rw [Array.toList_extract,hcs]
    simp only [List.extract_eq_take_drop,List.toList_toArray]
    rw [hsz,List.append_assoc,List.drop_append_of_le_length (by omega),List.drop_eq_nil_of_le (by omega),List.nil_append,List.take_append_of_le_length (by simp only [Sh.size] at hl; omega),List.take_of_length_le (by simp only [Sh.size] at hl; omega)]
   simp [part,ha,kdOf,KD.agg,Go.sizeOf,typeInfo,hi,hex,Result.andThen]
  ·cases h
 all_goals first
  | cases h
    done
  | skip
 all_goals
  rename_i hu
  have hl1:c.length=1:=hl
  match c,hl1,hc,hcs with
  | [u],_,hc,hcs =>
    refine ⟨u,?_,rfl⟩
    have ha:=agg_run (t:=t) hu w1
    have hx:cs[off]?=some u:=by
     rw [← Array.getElem?_toList,hcs,List.append_assoc,List.getElem?_append_right (by omega)]
     simp [hp]
    simp [part,ha,kdOf,KD.agg,hx,Result.andThen]
theorem ValOf.agg {f:Sh} {v:Value} {cs:List Value} (h:ValOf (.st f) v cs):v=.agg cs.toArray:=h
mutual
theorem eq_run:∀ (n t:Nat) (s:Sh) (x y:s.den) (v v':Value) (c c':List Value) (f f':Fp),eqTy P n t s=true→CRep Z w s x c f→CRep Z w s y c' f'→ValOf s v c→ValOf s v' c'→∀ (d:Nat) (w1:World),n≤d →
 (Op.equalIn d t v v').run P w1=.ok (s.beq x y) w1
 | 0,t,s,x,y,v,v',c,c',f,f',h,_,_,_,_,d,w1,_ => by simp [eqTy] at h
 | n+1,t,s,x,y,v,v',c,c',f,f',h,hc,hc',hv,hv',d,w1,hd => by
   obtain ⟨d,rfl⟩:∃ e,d=e+1:=⟨d - 1,by omega⟩
   simp only [eqTy] at h
   split at h
   ·rename_i k k' hu
    obtain ⟨rfl,_⟩:=hc
    obtain ⟨rfl,_⟩:=hc'
    simp only [ValOf,List.cons.injEq,and_true] at hv hv'
    subst hv; subst hv'
    exact run_equalIn_int w1 d t k k' x y hu
   ·rename_i hu
    obtain ⟨rfl,_⟩:=hc
    obtain ⟨rfl,_⟩:=hc'
    simp only [ValOf,List.cons.injEq,and_true] at hv hv'
    subst hv; subst hv'
    exact run_equalIn_bool' w1 d t x y hu
   ·rename_i hu
    obtain ⟨rfl,_⟩:=hc
    obtain ⟨rfl,_⟩:=hc'
    simp only [ValOf,List.cons.injEq,and_true] at hv hv'
    subst hv; subst hv'
    exact run_equalIn_string w1 d t x y hu
   ·rename_i f1 fs hu
    simp only [Bool.and_eq_true,Bool.not_eq_true'] at h
    have hf:P.fieldsOf t=fs:=by simp [Program.fieldsOf,hu]
    rw [ValOf.agg hv,ValOf.agg hv',run_equalIn_struct (P:=P) w1 d t _ _ (by rw [hf]; exact hu) h.1,hf]
    exact eqs_run n fs.toList f1 x y c c' f f' h.2 hc hc' d w1 (by omega) [] [] [] [] 0 _ _ rfl rfl (by simp) (by simp)
   ·cases h
theorem eqs_run:∀ (n:Nat) (fs:List Field) (s:Sh) (x y:s.den) (c c':List Value) (f f':Fp),∀ {off:Nat},eqFs P n fs s off=true→CRep Z w s x c f→CRep Z w s y c' f'→∀ (d:Nat) (w1:World),n≤d →
 ∀ (pre post pre' post':List Value) (off':Nat) (cs cs':Array Value),pre.length=off→pre'.length=off→cs.toList=pre ++ c ++ post→cs'.toList=pre' ++ c' ++ post' →
 (Op.eqFields d cs cs' fs).run P w1=.ok (s.beq x y) w1
 | 0,fs,s,x,y,c,c',f,f',off,h,_,_,d,w1,_,_,_,_,_,_,_,_,_,_,_,_ => by simp [eqFs] at h
 | n+1,[],s,x,y,c,c',f,f',off,h,_,_,d,w1,_,_,_,_,_,_,_,_,_,_,_,_ => by simp [eqFs] at h
 | n+1,[g],s,x,y,c,c',f,f',off,h,hc,hc',d,w1,hd,pre,post,pre',post',off',cs,cs',h1,h2,h3,h4 => by
   simp only [eqFs,Bool.and_eq_true,bne_iff_ne,ne_eq,beq_iff_eq] at h
   obtain ⟨⟨⟨q1,q2⟩,q3⟩,q4⟩:=h
   obtain ⟨a,ha,hva⟩:=part_run q3 hc h3 (h1.trans q2.symm) w1
   obtain ⟨b,hb,hvb⟩:=part_run q3 hc' h4 (h2.trans q2.symm) w1
   have he:=eq_run n g.type s x y a b c c' f f' q4 hc hc' hva hvb d w1 (by omega)
   have q1' : g.name ≠ "_" := q1
   simp only [Op.eqFields,if_pos q1',Sem.run_bind,ha,hb,he,Result.andThen_ok]
   cases s.beq x y <;> simp
 | n+1,g :: g2 :: r,s,x,y,c,c',f,f',off,h,hc,hc',d,w1,hd,pre,post,pre',post',off',cs,cs',h1,h2,h3,h4 => by
   cases s with
   | pair sa sb =>
     simp only [eqFs,Bool.and_eq_true,bne_iff_ne,ne_eq,beq_iff_eq] at h
     obtain ⟨⟨⟨⟨q1,q2⟩,q3⟩,q4⟩,q5⟩:=h
     obtain ⟨ca,cb,fa,fb,rfl,_,_,hca,hcb⟩:=hc
     obtain ⟨ca',cb',fa',fb',rfl,_,_,hca',hcb'⟩:=hc'
     obtain ⟨a,ha,hva⟩:=part_run (pre:=pre) (post:=cb ++ post) q3 hca (by rw [h3]; simp) (h1.trans q2.symm) w1
     obtain ⟨b,hb,hvb⟩:=part_run (pre:=pre') (post:=cb' ++ post') q3 hca' (by rw [h4]; simp) (h2.trans q2.symm) w1
     have he:=eq_run n g.type sa x.1 y.1 a b ca ca' fa fa' q4 hca hca' hva hvb d w1 (by omega)
     have hr:=eqs_run n (g2 :: r) sb x.2 y.2 cb cb' fb fb' q5 hcb hcb' d w1 (by omega) (pre ++ ca) post (pre' ++ ca') post' 0 cs cs' (by simp [CRep.length hca,h1]) (by simp [CRep.length hca',h2]) (by rw [h3]; simp) (by rw [h4]; simp)
     have q1' : g.name ≠ "_" := q1
     rw [Op.eqFields]
     simp only [if_pos q1',Sem.run_bind,ha,hb,he,Result.andThen_ok,Sh.beq]
     cases sa.beq x.1 y.1
     ·simp
     ·simpa using hr
   | _ => simp [eqFs] at h
end
theorem sameBits_one:∀ {n:Nat} {k:IntKind} {a:Int},Instr.sameBits n (.int k a) (.int k a)=true
 | 0,k,a => by simp [Instr.sameBits]
 | n+1,k,a => by simp [Instr.sameBits]
theorem sameBits_bool:∀ {n:Nat} {a:Bool},Instr.sameBits n (.bool a) (.bool a)=true
 | 0,a => by simp [Instr.sameBits]
 | n+1,a => by simp [Instr.sameBits]
theorem bytes_refl (a:ByteArray):(a == a)=true:=by rw [beq_bytes]; simp
theorem sameBits_str:∀ {n:Nat} {a:ByteArray},Instr.sameBits n (.string a) (.string a)=true
 | 0,a => by simp [Instr.sameBits,bytes_refl]
 | n+1,a => by simp [Instr.sameBits,bytes_refl]
def flatV:Value→Prop
 | .int _ _ => True
 | .bool _ => True
 | .string _ => True
 | _ => False
theorem toList_inj {a b:ByteArray} (h:(ByteArray.toList a == ByteArray.toList b)=true):a=b:=by
 have h:=eq_of_beq h
 rw [ByteArray.toList_eq,ByteArray.toList_eq] at h
 obtain ⟨a⟩:=a
 obtain ⟨b⟩:=b
 congr 1
 exact Array.toList_inj.1 h
theorem beq_cells:∀ {s:Sh} {x y:s.den} {c c':List Value} {f f':Fp},s.beq x y=true→CRep Z w s x c f→CRep Z w s y c' f'→c=c'∧∀ u ∈ c,flatV u
 | .int k,x,y,c,c',f,f',h,hc,hc' => by
   obtain ⟨rfl,_⟩:=hc; obtain ⟨rfl,_⟩:=hc'
   have:x=y:=by simpa [Sh.beq] using h
   rw [this]; exact ⟨rfl,by simp [flatV]⟩
 | .bool,x,y,c,c',f,f',h,hc,hc' => by
   obtain ⟨rfl,_⟩:=hc; obtain ⟨rfl,_⟩:=hc'
   have:x=y:=by simpa [Sh.beq] using h
   rw [this]; exact ⟨rfl,by simp [flatV]⟩
 | .str,x,y,c,c',f,f',h,hc,hc' => by
   obtain ⟨rfl,_⟩:=hc; obtain ⟨rfl,_⟩:=hc'
   have:x=y:=toList_inj h
   rw [this]; exact ⟨rfl,by simp [flatV]⟩
 | .pair a b,x,y,c,c',f,f',h,hc,hc' => by
   obtain ⟨ca,cb,fa,fb,rfl,_,_,hca,hcb⟩:=hc
   obtain ⟨ca',cb',fa',fb',rfl,_,_,hca',hcb'⟩:=hc'
   simp only [Sh.beq,Bool.and_eq_true] at h
   obtain ⟨h1,h2⟩:=beq_cells h.1 hca hca'
   obtain ⟨h3,h4⟩:=beq_cells h.2 hcb hcb'
   refine ⟨by rw [h1,h3],fun u hu => ?_⟩
   rcases List.mem_append.1 hu with hu | hu
   ·exact h2 u hu
   ·exact h4 u hu
 | .st s,x,y,c,c',f,f',h,hc,hc' => beq_cells (s:=s) h hc hc'
 | .unit,_,_,_,_,_,_,h,_,_ => by simp [Sh.beq] at h
 | .any,_,_,_,_,_,_,h,_,_ => by simp [Sh.beq] at h
 | .raw,_,_,_,_,_,_,h,_,_ => by simp [Sh.beq] at h
 | .gh _,_,_,_,_,_,_,h,_,_ => by simp [Sh.beq] at h
 | .sl _ _ _,_,_,_,_,_,_,h,_,_ => by simp [Sh.beq] at h
 | .pt _ _ _,_,_,_,_,_,_,h,_,_ => by simp [Sh.beq] at h
 | .mp _ _ _,_,_,_,_,_,_,h,_,_ => by simp [Sh.beq] at h
theorem sameBits_flat {u:Value} (h:flatV u) (n:Nat):Instr.sameBits n u u=true:=by
 cases u <;> simp only [flatV] at h
 ·exact sameBits_bool
 ·exact sameBits_one
 ·exact sameBits_str
theorem sameBits_of {s:Sh} {x y:s.den} {v v':Value} {c c':List Value} {f f':Fp} (h:s.beq x y=true) (hc:CRep Z w s x c f) (hc':CRep Z w s y c' f') (hv:ValOf s v c) (hv':ValOf s v' c') (n:Nat):Instr.sameBits (n+1) v v'=true:=by
 obtain ⟨rfl,hf⟩:=beq_cells h hc hc'
 cases s with
 | st s =>
   rw [ValOf.agg hv,ValOf.agg hv']
   simp only [Instr.sameBits,beq_self_eq_true,Bool.true_and,List.all_eq_true]
   intro p hp
   have:p.1=p.2∧p.1 ∈ c:=by
    clear hc hc' hv hv' hf h
    induction c with
    | nil => simp at hp
    | cons u r ih =>
      simp only [List.zip_cons_cons,List.mem_cons] at hp
      rcases hp with rfl | hp
      ·exact ⟨rfl,by simp⟩
      ·exact ⟨(ih hp).1,List.mem_cons_of_mem _ (ih hp).2⟩
   obtain ⟨a,b⟩:=p
   simp only at this
   obtain ⟨rfl,hm⟩:=this
   exact sameBits_flat (hf a hm) n
 | any => simp [Sh.beq] at h
 | _ =>
   simp only [ValOf] at hv hv'
   subst hv
   simp only [List.cons.injEq,and_true] at hv'
   subst hv'
   exact sameBits_flat (hf v (by simp)) _
mutual
theorem checkKey_flat:∀ (n t:Nat) (s:Sh) (x:s.den) (v:Value) (c:List Value) (f:Fp),eqTy P n t s=true→CRep Z w s x c f→ValOf s v c→∀ (e:Bool) (d:Nat) (w1:World),n≤d → (Instr.checkKey e d t v).run P w1=.ok () w1
 | 0,t,s,x,v,c,f,h,_,_,_,_,_,_ => by simp [eqTy] at h
 | n+1,t,s,x,v,c,f,h,hc,hv,e,d,w1,hd => by
   obtain ⟨d,rfl⟩:∃ e,d=e+1:=⟨d - 1,by omega⟩
   simp only [eqTy] at h
   split at h
   ·rename_i k k' hu
    obtain ⟨rfl,_⟩:=hc
    simp only [ValOf,List.cons.injEq,and_true] at hv
    subst hv
    simp [Instr.checkKey,run_underlying hu,Result.andThen]
   ·rename_i hu
    obtain ⟨rfl,_⟩:=hc
    simp only [ValOf,List.cons.injEq,and_true] at hv
    subst hv
    simp [Instr.checkKey,run_underlying hu,Result.andThen]
   ·rename_i hu
    obtain ⟨rfl,_⟩:=hc
    simp only [ValOf,List.cons.injEq,and_true] at hv
    subst hv
    simp [Instr.checkKey,run_underlying hu,Result.andThen]
   ·rename_i f1 fs hu
    simp only [Bool.and_eq_true,Bool.not_eq_true'] at h
    have hr:=checkFs_flat n fs.toList f1 x c f h.2 hc e d w1 (by omega) [] [] c.toArray rfl (by simp)
    rw [ValOf.agg hv]
    simp only [Instr.checkKey,Sem.run_bind,run_underlying hu,Result.andThen_ok]
    rw [← Array.forIn_toList,hr]
    simp
   ·cases h
theorem checkFs_flat:∀ (n:Nat) (fs:List Field) (s:Sh) (x:s.den) (c:List Value) (f:Fp),∀ {off:Nat},eqFs P n fs s off=true→CRep Z w s x c f→∀ (e:Bool) (d:Nat) (w1:World),n≤d →
 ∀ (pre post:List Value) (cs:Array Value),pre.length=off→cs.toList=pre ++ c ++ post →
 (forIn fs PUnit.unit (fun g (_ : PUnit) => if g.name ≠ "_" then (do
  let a ← part g.type cs g.offset
  Instr.checkKey e d g.type a
  pure (ForInStep.yield PUnit.unit)) else pure (ForInStep.yield PUnit.unit):Field→PUnit→Sem (ForInStep PUnit))).run P w1=.ok PUnit.unit w1
 | 0,fs,s,x,c,f,off,h,_,_,_,_,_,_,_,_,_,_ => by simp [eqFs] at h
 | n+1,[],s,x,c,f,off,h,_,_,_,_,_,_,_,_,_,_ => by simp [eqFs] at h
 | n+1,[g],s,x,c,f,off,h,hc,e,d,w1,hd,pre,post,cs,h1,h3 => by
   simp only [eqFs,Bool.and_eq_true,bne_iff_ne,ne_eq,beq_iff_eq] at h
   obtain ⟨⟨⟨q1,q2⟩,q3⟩,q4⟩:=h
   obtain ⟨a,ha,hva⟩:=part_run q3 hc h3 (h1.trans q2.symm) w1
   have he:=checkKey_flat n g.type s x a c f q4 hc hva e d w1 (by omega)
   have q1' : g.name ≠ "_" := q1
   simp [List.forIn_cons,q1,ha,he,Result.andThen]
 | n+1,g :: g2 :: r,s,x,c,f,off,h,hc,e,d,w1,hd,pre,post,cs,h1,h3 => by
   cases s with
   | pair sa sb =>
     simp only [eqFs,Bool.and_eq_true,bne_iff_ne,ne_eq,beq_iff_eq] at h
     obtain ⟨⟨⟨⟨q1,q2⟩,q3⟩,q4⟩,q5⟩:=h
     obtain ⟨ca,cb,fa,fb,rfl,_,_,hca,hcb⟩:=hc
     obtain ⟨a,ha,hva⟩:=part_run (pre:=pre) (post:=cb ++ post) q3 hca (by rw [h3]; simp) (h1.trans q2.symm) w1
     have he:=checkKey_flat n g.type sa x.1 a ca fa q4 hca hva e d w1 (by omega)
     have hr:=checkFs_flat n (g2 :: r) sb x.2 cb fb q5 hcb e d w1 (by omega) (pre ++ ca) post cs (by simp [CRep.length hca,h1]) (by rw [h3]; simp)
     rw [List.forIn_cons]
     have q1' : g.name ≠ "_" := q1
     simp only [if_pos q1',Sem.run_bind,ha,he,Result.andThen_ok,Sem.run_pure]
     exact hr
   | _ => simp [eqFs] at h
end
def mFind {α β:Type} (eq:α→α→Bool) (x:α) (l:List (α × β)):Option β:=(l.find? fun e => eq x e.1).map (·.2)
def mIdx {α β:Type} (eq:α→α→Bool) (x:α):List (α × β)→Nat→Option Nat
 | [],_ => none
 | e :: l,i => if eq x e.1 then some i else mIdx eq x l (i+1)
def Found (Z:Fp) (w:World) (k v:Sh) (x:k.den) (l:List (k.den × v.den)) (es:List MapEntry) (i0:Nat):Option (Nat × Value)→Prop
 | none => ∀ e ∈ l,k.beq x e.1=false
 | some (i,u) => ∃ (j:Nat) (y:k.den × v.den) (e:MapEntry) (l1 l2:List (k.den × v.den)) (e1 e2:List MapEntry),i=i0+j∧l=l1 ++ y :: l2∧es=e1 ++ e :: e2∧l1.length=j∧e1.length=j∧u=e.val∧k.beq x y.1=true ∧ (∀ e ∈ l1,k.beq x e.1=false) ∧
  (∃ cs,CRep Z w k y.1 cs (fun _ => False)∧ValOf k e.key cs) ∧ (∃ cs,CRep Z w v y.2 cs (fun _ => False)∧ValOf v e.val cs) ∧
  MRep (CRep Z w k) (CRep Z w v) k v l1 e1∧MRep (CRep Z w k) (CRep Z w v) k v l2 e2
theorem found_cons {k v:Sh} {x:k.den} {a:k.den × v.den} {l:List (k.den × v.den)} {e:MapEntry} {es:List MapEntry} {i0:Nat} {r:Option (Nat × Value)} (hne:k.beq x a.1=false)
 (hk:∃ cs,CRep Z w k a.1 cs (fun _ => False)∧ValOf k e.key cs) (hv:∃ cs,CRep Z w v a.2 cs (fun _ => False)∧ValOf v e.val cs) (h:Found Z w k v x l es (i0+1) r):Found Z w k v x (a :: l) (e :: es) i0 r:=by
 cases r with
 | none =>
   intro b hb
   rcases List.mem_cons.1 hb with rfl | hb
   ·exact hne
   ·exact h b hb
 | some p =>
   obtain ⟨i,u⟩:=p
   obtain ⟨j,y,e0,l1,l2,e1,e2,h1,rfl,rfl,h4,h5,h6,h7,h8,h9,h10,h11,h12⟩:=h
   refine ⟨j+1,y,e0,a :: l1,l2,e :: e1,e2,by omega,rfl,rfl,by simp [h4],by simp [h5],h6,h7,fun b hb => ?_,h9,h10,⟨e,e1,rfl,hk,hv,h11⟩,h12⟩
   rcases List.mem_cons.1 hb with rfl | hb
   ·exact hne
   ·exact h8 b hb
theorem found_here {k v:Sh} {x:k.den} {a:k.den × v.den} {l:List (k.den × v.den)} {e:MapEntry} {es:List MapEntry} {i0:Nat} (he:k.beq x a.1=true)
 (hk:∃ cs,CRep Z w k a.1 cs (fun _ => False)∧ValOf k e.key cs) (hv:∃ cs,CRep Z w v a.2 cs (fun _ => False)∧ValOf v e.val cs) (h:MRep (CRep Z w k) (CRep Z w v) k v l es):Found Z w k v x (a :: l) (e :: es) i0 (some (i0,e.val)) :=
 ⟨0,a,e,[],l,[],es,rfl,rfl,rfl,rfl,rfl,rfl,he,fun b hb => absurd hb List.not_mem_nil,hk,hv,rfl,h⟩
theorem findAsking_run {kt:Nat} {k v:Sh} (h:eqTy P 9 kt k=true) {x:k.den} {vx:Value} {cx:List Value} {fx:Fp} (hx:CRep Z w k x cx fx) (hvx:ValOf k vx cx):∀ (l:List (k.den × v.den)) (es:List MapEntry) (i0:Nat) (w1:World),MRep (CRep Z w k) (CRep Z w v) k v l es →
 ∃ r,(Instr.findAsking kt vx es i0).run P w1=.ok r w1∧Found Z w k v x l es i0 r
 | [],es,i0,w1,hm => by
   obtain rfl:es=[]:=hm
   exact ⟨none,by simp [Instr.findAsking],fun e he => absurd he List.not_mem_nil⟩
 | a :: l,es,i0,w1,hm => by
   obtain ⟨e,es',rfl,hk,hv,hm'⟩:=hm
   obtain ⟨ck,hck,hvk⟩:=hk
   have he:=eq_run 9 kt k x a.1 vx e.key cx ck _ _ h hx hck hvx hvk 10000 w1 (by decide)
   have he':(Op.equal kt vx e.key).run P w1=.ok (k.beq x a.1) w1:=he
   cases hb:k.beq x a.1 with
   | true =>
     rw [hb] at he'
     exact ⟨some (i0,e.val),by simp [Instr.findAsking,he',Result.andThen],found_here hb ⟨ck,hck,hvk⟩ hv hm'⟩
   | false =>
     rw [hb] at he'
     obtain ⟨r,hr,hf⟩:=findAsking_run h hx hvx l es' (i0+1) w1 hm'
     exact ⟨r,by simp [Instr.findAsking,he',Result.andThen,hr],found_cons hb ⟨ck,hck,hvk⟩ hv hf⟩
def scalK:Sh→Bool
 | .int _ => true
 | .bool => true
 | .str => true
 | _ => false
theorem sameNow_run {kt n:Nat} {k:Sh} {d:TypeDesc} (hs:scalK k=true) (h:eqTy P (n+1) kt k=true) (hu:P.underlying kt=some d) {x y:k.den} {v v':Value} {c c':List Value} {f f':Fp} (hc:CRep Z w k x c f) (hc':CRep Z w k y c' f') (hv:ValOf k v c) (hv':ValOf k v' c') :
 Instr.sameNow d v v'=some (k.beq x y):=by
 simp only [eqTy] at h
 split at h
 ·rename_i hu2
  rw [hu] at hu2; cases hu2
  obtain ⟨rfl,_⟩:=hc; obtain ⟨rfl,_⟩:=hc'
  simp only [ValOf,List.cons.injEq,and_true] at hv hv'
  subst hv; subst hv'
  simp [Instr.sameNow,Sh.beq]
 ·rename_i hu2
  rw [hu] at hu2; cases hu2
  obtain ⟨rfl,_⟩:=hc; obtain ⟨rfl,_⟩:=hc'
  simp only [ValOf,List.cons.injEq,and_true] at hv hv'
  subst hv; subst hv'
  simp [Instr.sameNow,Sh.beq]
 ·rename_i hu2
  rw [hu] at hu2; cases hu2
  obtain ⟨rfl,_⟩:=hc; obtain ⟨rfl,_⟩:=hc'
  simp only [ValOf,List.cons.injEq,and_true] at hv hv'
  subst hv; subst hv'
  simp [Instr.sameNow,Sh.beq,beq_bytes]
 ·simp [scalK] at hs
 ·cases h
theorem findNow_run {kt:Nat} {k v:Sh} {d:TypeDesc} (hs:scalK k=true) (h:eqTy P 9 kt k=true) (hu:P.underlying kt=some d) {x:k.den} {vx:Value} {cx:List Value} {fx:Fp} (hx:CRep Z w k x cx fx) (hvx:ValOf k vx cx):∀ (l:List (k.den × v.den)) (es:List MapEntry) (i0:Nat),MRep (CRep Z w k) (CRep Z w v) k v l es →
 ∃ r,Instr.findNow d vx es i0=some r∧Found Z w k v x l es i0 r
 | [],es,i0,hm => by
   obtain rfl:es=[]:=hm
   exact ⟨none,by simp [Instr.findNow],fun e he => absurd he List.not_mem_nil⟩
 | a :: l,es,i0,hm => by
   obtain ⟨e,es',rfl,hk,hv,hm'⟩:=hm
   obtain ⟨ck,hck,hvk⟩:=hk
   have he:=sameNow_run hs h hu hx hck hvx hvk
   cases hb:k.beq x a.1 with
   | true =>
     rw [hb] at he
     exact ⟨some (i0,e.val),by simp [Instr.findNow,he],found_here hb ⟨ck,hck,hvk⟩ hv hm'⟩
   | false =>
     rw [hb] at he
     obtain ⟨r,hr,hf⟩:=findNow_run hs h hu hx hvx l es' (i0+1) hm'
     exact ⟨r,by simp [Instr.findNow,he,hr],found_cons hb ⟨ck,hck,hvk⟩ hv hf⟩
theorem findKey_run {kt:Nat} {k v:Sh} (h:eqTy P 9 kt k=true) {x:k.den} {vx:Value} {cx:List Value} {fx:Fp} (hx:CRep Z w k x cx fx) (hvx:ValOf k vx cx) (l:List (k.den × v.den)) (es:List MapEntry) (w1:World) (hm:MRep (CRep Z w k) (CRep Z w v) k v l es) :
 ∃ r,(Instr.findKey kt vx es).run P w1=.ok r w1∧Found Z w k v x l es 0 r:=by
 by_cases hs:scalK k=true
 ·have hu:∃ d,P.underlying kt=some d:=by
   simp only [eqTy] at h
   split at h
   ·exact ⟨_,‹_›⟩
   ·exact ⟨_,‹_›⟩
   ·exact ⟨_,‹_›⟩
   ·exact ⟨_,‹_›⟩
   ·cases h
  obtain ⟨d,hu⟩:=hu
  obtain ⟨r,hr,hf⟩:=findNow_run hs h hu hx hvx l es 0 hm
  exact ⟨r,MapKept.run_findKey hu hr,hf⟩
 ·have hu:(match P.underlying kt with | some (.array _ _) | some (.struct _) => true | _ => false)=true:=by
   simp only [eqTy] at h
   split at h
   ·simp [scalK] at hs
   ·simp [scalK] at hs
   ·simp [scalK] at hs
   ·rename_i e; rw [e]
   ·cases h
  rw [run_findKey_eq w1 hu]
  exact findAsking_run h hx hvx l es 0 w1 hm
end
section
variable {α β:Type} {eq:α→α→Bool}
def mget (eq:α→α→Bool) (m:Option (List (α × β))) (x:α) (d:β):β:=match m with
 | some l => (mFind eq x l).getD d
 | none => d
def mhas (eq:α→α→Bool) (m:Option (List (α × β))) (x:α):Bool:=match m with
 | some l => (mFind eq x l).isSome
 | none => false
def mput (eq:α→α→Bool) (x:α) (v:β):List (α × β)→List (α × β)
 | [] => [(x,v)]
 | e :: l => if eq x e.1 then (x,v) :: l else e :: mput eq x v l
theorem mFind_none {x:α}:∀ {l:List (α × β)},(∀ e ∈ l,eq x e.1=false)→mFind eq x l=none
 | [],_ => rfl
 | e :: l,h => by
   have:=mFind_none (l:=l) (fun b hb => h b (List.mem_cons_of_mem _ hb))
   unfold mFind at this ⊢
   rw [List.find?_cons,h e List.mem_cons_self]; exact this
theorem mFind_some {x:α} {y:α × β} {l2:List (α × β)} (hy:eq x y.1=true):∀ {l1:List (α × β)},(∀ e ∈ l1,eq x e.1=false)→mFind eq x (l1 ++ y :: l2)=some y.2
 | [],_ => by unfold mFind; rw [List.nil_append,List.find?_cons,hy]; rfl
 | e :: l,h => by
   have:=mFind_some (l1:=l) (l2:=l2) hy (fun b hb => h b (List.mem_cons_of_mem _ hb))
   unfold mFind at this ⊢
   rw [List.cons_append,List.find?_cons,h e List.mem_cons_self]; exact this
theorem mput_none {x:α} {v:β}:∀ {l:List (α × β)},(∀ e ∈ l,eq x e.1=false)→mput eq x v l=l ++ [(x,v)]
 | [],_ => rfl
 | e :: l,h => by
   rw [mput,h e List.mem_cons_self,mput_none (l:=l) (fun b hb => h b (List.mem_cons_of_mem _ hb))]; rfl
theorem mput_some {x:α} {v:β} {y:α × β} {l2:List (α × β)} (hy:eq x y.1=true):∀ {l1:List (α × β)},(∀ e ∈ l1,eq x e.1=false)→mput eq x v (l1 ++ y :: l2)=l1 ++ (x,v) :: l2
 | [],_ => by simp [mput,hy]
 | e :: l,h => by
   rw [List.cons_append,mput,h e List.mem_cons_self,mput_some (l1:=l) hy (fun b hb => h b (List.mem_cons_of_mem _ hb))]; rfl
end
section
variable {P:Program} {T:Tbl} {Z:Fp} {F:Nat→Fp} {w0:World} {Wr Zi:Fp} {N:Fr} {S S' S1:SS} {a:Act} {w:World} {o:Oper}
theorem MRep.append {α β:Type} {RK:α→List Value→Fp→Prop} {RV:β→List Value→Fp→Prop} {ks vs:Sh}:∀ {l1 l2:List (α × β)} {e1 e2:List MapEntry},MRep RK RV ks vs l1 e1→MRep RK RV ks vs l2 e2→MRep RK RV ks vs (l1 ++ l2) (e1 ++ e2)
 | [],l2,e1,e2,h1,h2 => by obtain rfl:e1=[]:=h1; exact h2
 | x :: l1,l2,e1,e2,h1,h2 => by
   obtain ⟨e,es',rfl,hk,hv,hm⟩:=h1
   exact ⟨e,es' ++ e2,rfl,hk,hv,MRep.append hm h2⟩
def mapT (T:Tbl) (t:Nat):Option (Nat × Nat):=match T.find t with
 | some i => match i.kd with
   | .map k e => some (k,e)
   | _ => none
 | none => none
theorem mapT_run (hT:TOk P T) {t kt et:Nat} (h:mapT T t=some (kt,et)):P.underlying t=some (.map kt et):=by
 unfold mapT at h
 split at h
 ·rename_i i hi
  split at h
  ·rename_i k e hk
   cases h
   obtain ⟨ht,hty⟩:=hT.find hi
   obtain ⟨d,hd,hdk⟩:=hty.desc
   rw [ht] at hd
   rw [hk] at hdk
   have:d=.map kt et:=by cases d <;> simp_all [kdOf]
   rw [← this]; exact hd
  ·cases h
 ·cases h
theorem ro_zeros:∀ s:Sh,s.ro.zeros=s.zeros
 | .int _ => rfl
 | .bool => rfl
 | .str => rfl
 | .unit => rfl
 | .any => rfl
 | .raw => rfl
 | .gh _ => rfl
 | .pair a b => by simp only [Sh.ro,Sh.zeros,ro_zeros a,ro_zeros b]
 | .st f => by simp only [Sh.ro,Sh.zeros,ro_zeros f]
 | .sl _ _ _ => rfl
 | .pt _ _ _ => rfl
 | .mp _ _ _ => rfl
 | .fn f c => by simp only [Sh.ro,Sh.zeros,ro_zeros c]
theorem ro_isSt (s:Sh):s.ro.isSt=s.isSt:=by cases s <;> rfl
theorem ro_zeroV (s:Sh):s.ro.zeroV=s.zeroV:=by unfold Sh.zeroV; rw [ro_isSt,ro_zeros]
theorem zeroV_rep (Z:Fp) (w:World) {s:Sh} (h:(s.isSt || s.size == 1)=true):VRep Z w s s.dflt s.zeroV (fun _ => False):=by
 refine ⟨s.zeros,Sh.zeros_rep Z w s,?_⟩
 have hl:=CRep.length (Sh.zeros_rep Z w s)
 cases s with
 | st f => rfl
 | any => trivial
 | pair a b =>
   simp only [Sh.isSt,Bool.false_or,beq_iff_eq] at h
   rw [h] at hl
   simp only [ValOf,Sh.zeroV,Sh.isSt,Bool.false_eq_true,if_false]
   match hz:(Sh.pair a b).zeros,hl with
   | [u],_ => rfl
 | unit => simp [Sh.isSt,Sh.size] at h
 | _ => rfl
def valT (T:Tbl) (et:Nat) (v:Sh):Bool:=match T.find et with
 | some i => fits i i.zero && (v == i.zero.ro)
 | none => false
theorem valT_run (hT:TOk P T) {et:Nat} {v:Sh} (h:valT T et v=true):∃ z,(∀ w,(zeroValue et).run P w=.ok z w)∧∀ Z w,VRep Z w v v.dflt z (fun _ => False):=by
 unfold valT at h
 split at h
 ·rename_i i hi
  simp only [Bool.and_eq_true,beq_iff_eq] at h
  obtain ⟨hf,rfl⟩:=h
  obtain ⟨ht,hty⟩:=hT.find hi
  obtain ⟨info,hinfo,hsz,hby,hz⟩:=hty.info
  rw [ht] at hinfo
  refine ⟨i.zero.zeroV,fun w => by simp [zeroValue,typeInfo,hinfo,hz],fun Z w => ?_⟩
  have:=zeroV_rep Z w (s:=i.zero.ro) (by
   simp only [fits,Bool.and_eq_true] at hf
   rw [ro_isSt,Sh.ro_size]; exact hf.2)
  rw [ro_zeroV] at this
  exact this
 ·cases h
theorem map_of_rep {o:Bool} {k v:Sh} {m:(Sh.mp o k v).den} {vX:Value} {f:Fp} (h:VRep Z w (.mp o k v) m vX f) :
 (m=none∧vX=.map none∧∀ i,¬ f i)∨∃ l g es clk,m=some l∧vX=.map (some g)∧w.heap[g]?=some (.map es clk)∧MRow (CRep Z w k) (CRep Z w v) k v l es clk ∧ (o=true→∀ i,f i↔i=g):=by
 obtain ⟨cs,hc,hv⟩:=h
 simp only [ValOf] at hv
 subst hv
 cases m with
 | none =>
   left
   have:[vX]=[Value.map none]∧∀ i,¬ f i:=by cases o <;> exact hc
   refine ⟨rfl,?_,this.2⟩
   simpa using this.1
 | some l =>
   right
   cases o with
   | true =>
     obtain ⟨g,es,clk,hvv,hg,hm,he⟩:=hc
     exact ⟨l,g,es,clk,rfl,by simpa using hvv,hg,hm,fun _ => he⟩
   | false =>
     obtain ⟨_,g,es,clk,hvv,hz,hg,hm⟩:=hc
     exact ⟨l,g,es,clk,rfl,by simpa using hvv,hg,hm,fun e => by cases e⟩
theorem lookup_run (hT:TOk P T) {t kt et:Nat} (ht:mapT T t=some (kt,et)) {ow:Bool} {k v:Sh} (he:eqTy P 9 kt k=true) (hz:valT T et v=true) {m:(Sh.mp ow k v).den} {x:k.den} {vX vI:Value} {f:Fp} {fi:Fp}
 (hX:VRep Z w (.mp ow k v) m vX f) (hI:VRep Z w k x vI fi) (cok:Bool) :
 ∃ u,(Instr.lookup t vX vI cok).run P w=.ok (if cok then .tuple #[u,.bool (mhas k.beq m x)] else u) w∧VRep Z w v (mget k.beq m x v.dflt) u (fun _ => False):=by
 have hu:=mapT_run hT ht
 obtain ⟨z,hzr,hzrep⟩:=valT_run hT hz
 obtain ⟨ci,hci,hvi⟩:=hI
 rcases map_of_rep hX with ⟨rfl,rfl,_⟩ | ⟨l,g,es,clk,rfl,rfl,hg,hm,_⟩
 ·refine ⟨z,?_,hzrep Z w⟩
  have hck:=checkKey_flat (P:=P) (Z:=Z) (w:=w) 9 kt k x vI ci fi he hci hvi true 10000 w (by decide)
  obtain ⟨r,hr,hf⟩:=findKey_run (P:=P) (Z:=Z) (w:=w) (v:=v) he hci hvi [] [] w rfl
  have hrn:r=none:=by
   cases r with
   | none => rfl
   | some q =>
     obtain ⟨i,u⟩:=q
     obtain ⟨j,y,e,l1,l2,e1,e2,_,h2,_⟩:=hf
     exact absurd h2.symm (by simp)
  subst hrn
  simp [Instr.lookup,run_underlying hu,hck,hr,hzr,mhas,Result.andThen]
 ·have hck:=checkKey_flat (P:=P) (Z:=Z) (w:=w) 9 kt k x vI ci fi he hci hvi es.isEmpty 10000 w (by decide)
  obtain ⟨r,hr,hf⟩:=findKey_run (P:=P) (Z:=Z) (w:=w) he hci hvi l es.toList w hm.1
  cases r with
  | none =>
    refine ⟨z,?_,?_⟩
    ·simp [Instr.lookup,run_underlying hu,MapKept.run_getObj_map hg,hck,hr,hzr,mhas,mFind_none hf,Result.andThen]
    ·simp only [mget,mFind_none hf,Option.getD_none]
     exact hzrep Z w
  | some q =>
    obtain ⟨i,u⟩:=q
    obtain ⟨j,y,e,l1,l2,e1,e2,h1,rfl,h3,h4,h5,rfl,h7,h8,h9,h10,h11,h12⟩:=hf
    refine ⟨e.val,?_,?_⟩
    ·simp [Instr.lookup,run_underlying hu,MapKept.run_getObj_map hg,hck,hr,mhas,mFind_some h7 h8,Result.andThen]
    ·simp only [mget,mFind_some h7 h8,Option.getD_some]
     exact h10
def mapV (S:SS):SV→Option TV
 | .copy h p => match placeOf S h p with
   | some ⟨.mp true k v,m⟩ => some ⟨.mp true k v,m⟩
   | _ => none
 | .val (.mp false k v) m => some ⟨.mp false k v,m⟩
 | _ => none
theorem mapV_rep (h:RelX Z F w0 Wr Zi N S a w) {sv:SV} {tv:TV} {vX:Value} (hr:sv.rep Z S w a.tmps vX (fun _ => False)) (hm:mapV S sv=some tv):∃ o k v m f,tv=⟨.mp o k v,m⟩∧VRep Z w (.mp o k v) m vX f:=by
 unfold mapV at hm
 split at hm
 ·rename_i hh p
  split at hm
  ·rename_i k v m hpl
   cases hm
   obtain ⟨f',hv,_⟩:=copy_rep h hr.2 hpl
   exact ⟨_,_,_,_,f',rfl,hv⟩
  ·cases hm
 ·rename_i k v m
  cases hm
  exact ⟨_,_,_,_,_,rfl,hr⟩
 ·cases hm
theorem lookup_ok (hT:TOk P T) (h:RelX Z F w0 Wr Zi N S a w) {t kt et:Nat} {X I:Operand} {cok:Bool} {sv:SV} {ow:Bool} {k v:Sh} {m:(Sh.mp ow k v).den} {x:k.den} (ho:o.op=.lookup t X I cok) (ht:mapT T t=some (kt,et))
 (he:eqTy P 9 kt k=true) (hz:valT T et v=true) (hx:opd T S t X=some sv) (hm:mapV S sv=some ⟨.mp ow k v,m⟩) (hi:opv T S kt I=some ⟨k,x⟩)
 (hp:putS N S o.dst (if cok then .tup [⟨v,mget k.beq m x v.dflt⟩,⟨.bool,mhas k.beq m x⟩] else .val v (mget k.beq m x v.dflt))=some S'):Runs P o a w (Rel w0 Wr Zi N S'):=by
 obtain ⟨o',k',v',m',f,heq,hX⟩:=mapV_rep h (opd_rep h hx) hm
 simp only [TV.mk.injEq,Sh.mp.injEq] at heq
 obtain ⟨⟨rfl,rfl,rfl⟩,heq⟩:=heq
 obtain rfl:=eq_of_heq heq
 obtain ⟨u,hr,hu⟩:=lookup_run hT ht he hz hX (opv_rep h hi) cok
 cases cok with
 | false =>
   exact Runs.read h hp (v:=u) (by simpa [execOp,ho] using congrArg (fun r => Result.andThen r (fun v w => Result.ok (Next.value v) w)) hr) hu
 | true =>
   refine Runs.read h hp (v:=.tuple #[u,.bool (mhas k.beq m x)]) (by simpa [execOp,ho] using congrArg (fun r => Result.andThen r (fun v w => Result.ok (Next.value v) w)) hr) ?_
   exact ⟨[u,.bool (mhas k.beq m x)],rfl,u,[.bool (mhas k.beq m x)],fun _ => False,fun _ => False,rfl,fun i => ⟨.inl,fun h => h.elim id id⟩,fun i h => h.elim,hu,_,[],fun _ => False,fun _ => False,rfl,fun i => ⟨.inl,fun h => h.elim id id⟩,fun i h => h.elim,⟨[.bool (mhas k.beq m x)],⟨rfl,fun _ => id⟩,rfl⟩,rfl,fun _ => id⟩
theorem makeMap_ok (h:RelX Z F w0 Wr Zi N S a w) {t:Nat} {k v:Sh} (ho:o.op=.makeMap t none) (hp:putS N S o.dst (.val (.mp true k v) (some []))=some S'):Runs P o a w (Rel w0 Wr Zi N S'):=by
 refine Runs.make (f:=fun i => i=w.heap.size) (U:=fun _ => False) h hp (v:=.map (some w.heap.size)) (w':=w.alloc (.map #[] 0)) ?_ (Grow.alloc w _) (fun i hi => hi.elim) (fun i hi => ?_) ?_
 ·simp [execOp,ho,Instr.makeMap,newObj,Sem.run]
 ·subst hi
  exact ⟨by simp,.inl (Nat.le_refl _)⟩
 ·exact ⟨[.map (some w.heap.size)],⟨w.heap.size,#[],0,rfl,alloc_new w _,⟨rfl,Born.nil _⟩,fun i => Iff.rfl⟩,rfl⟩
theorem mapUpdate_run (hT:TOk P T) {t kt et g clk:Nat} {es:Array MapEntry} (ht:mapT T t=some (kt,et)) {k v:Sh} (he:eqTy P 9 kt k=true) {l:List (k.den × v.den)} {x:k.den} {y:v.den} {vI vY:Value}
 (hg:w.heap[g]?=some (.map es clk)) (hm:MRow (CRep Z w k) (CRep Z w v) k v l es clk) (hI:VRep Z w k x vI (fun _ => False)) (hY:VRep Z w v y vY (fun _ => False)) :
 ∃ es2 clk2,(Instr.mapUpdate t (.map (some g)) vI vY).run P w=.ok () { w with heap:=w.heap.setIfInBounds g (.map es2 clk2) }∧MRow (CRep Z w k) (CRep Z w v) k v (mput k.beq x y l) es2 clk2:=by
 have hu:=mapT_run hT ht
 obtain ⟨ci,hci,hvi⟩:=hI
 have hck:=checkKey_flat (P:=P) (Z:=Z) (w:=w) 9 kt k x vI ci _ he hci hvi false 10000 w (by decide)
 obtain ⟨r,hr,hf⟩:=findKey_run (P:=P) (Z:=Z) (w:=w) he hci hvi l es.toList w hm.1
 cases r with
 | none =>
   refine ⟨es.push { key:=vI,val:=vY,born:=clk },clk+1,?_,?_⟩
   ·simp [Instr.mapUpdate,run_underlying hu,MapKept.run_getObj_map hg,hck,hr,MapKept.run_setObj_map _ hg,Result.andThen]
   ·rw [mput_none hf]
    exact ⟨by rw [Array.toList_push]; exact MRep.append hm.1 ⟨_,[],rfl,⟨ci,hci,hvi⟩,hY,rfl⟩,by rw [Array.toList_push]; exact hm.2.push rfl⟩
 | some q =>
   obtain ⟨i,u⟩:=q
   obtain ⟨j,yy,e,l1,l2,e1,e2,h1,rfl,h3,h4,h5,rfl,h7,h8,⟨ck,hck2,hvk⟩,h10,h11,h12⟩:=hf
   obtain rfl:i=j:=by omega
   have hei:es[i]?=some e:=by
    rw [← Array.getElem?_toList,h3,List.getElem?_append_right (by omega),h5]; simp
   have hbits:Instr.sameBits 10000 e.key vI=true:=by
    have:=sameBits_of (Z:=Z) (w:=w) h7 hci hck2 hvi hvk 9999
    have h':vI=e.key:=by
     obtain ⟨hcc,_⟩:=beq_cells h7 hci hck2
     subst hcc
     cases k with
     | st f => rw [ValOf.agg hvi,ValOf.agg hvk]
     | any => simp [Sh.beq] at h7
     | _ => simp only [ValOf] at hvi hvk; rw [hvi] at hvk; simpa using hvk
    rw [h'] at this ⊢; exact this
   have hstay:(Instr.keyThatStays e.key vI).run P w=.ok vI w:=by simp [Instr.keyThatStays,hbits]
   refine ⟨es.modify i fun e => { e with key:=vI,val:=vY },clk,?_,?_⟩
   ·simp [Instr.mapUpdate,run_underlying hu,MapKept.run_getObj_map hg,hck,hr,hei,hstay,MapKept.run_setObj_map _ hg,Result.andThen]
   ·rw [mput_some h7 h8]
    have hmod:(es.modify i fun e => { e with key:=vI,val:=vY }).toList=e1 ++ { e with key:=vI,val:=vY } :: e2:=by
     apply List.ext_getElem?
     intro q
     rw [Array.getElem?_toList,Array.getElem?_modify,← Array.getElem?_toList,h3]
     by_cases hq:i=q
     ·subst hq
      rw [if_pos rfl,List.getElem?_append_right (by omega),List.getElem?_append_right (by omega),h5]
      simp
     ·rw [if_neg hq]
      rcases Nat.lt_or_ge q i with hlt | hge
      ·rw [List.getElem?_append_left (by omega),List.getElem?_append_left (by omega)]
      ·rw [List.getElem?_append_right (by omega),List.getElem?_append_right (by omega),h5]
       obtain ⟨d,hd⟩:∃ d,q - i=d+1:=⟨q - i - 1,by omega⟩
       rw [hd]; simp
    refine ⟨by rw [hmod]; exact MRep.append h11 ⟨_,e2,rfl,⟨ci,hci,hvi⟩,hY,h12⟩,?_⟩
    have hb:=hm.2
    rw [h3] at hb
    rw [hmod]
    refine ⟨fun x hx => ?_,by simpa using hb.2⟩
    rcases List.mem_append.1 hx with hx | hx
    ·exact hb.1 x (List.mem_append.2 (.inl hx))
    ·rcases List.mem_cons.1 hx with rfl | hx
     ·exact hb.1 e (by simp)
     ·exact hb.1 x (by simp [hx])
def updMapV (T:Tbl) (S:SS) (t:Nat) (xt:TV) (yt:TV):SV→Option SS
 | .copy h p => match S.get h with
   | some (.val s x) => if s.isRoot then match getAt s x p with
     | some ⟨.mp true k v,some l⟩ => if hk:xt.sh=k then if hv:yt.sh=v then
      match upd s x p ⟨.mp true k v,some (mput k.beq (hk ▸ xt.x) (hv ▸ yt.x) l)⟩ with
      | some r => some (S.put h (.val r.sh r.x))
      | none => none
       else none
       else none
     | _ => none
     else none
   | _ => none
 | _ => none
theorem mapWrite (h:RelX Z F w0 Wr Zi N S a w) {t hk:Nat} {X:Operand} {p:Path} {s:Sh} {x:s.den} {ks vs:Sh} {l l2:List (ks.den × vs.den)} {r:TV} (hd:o.dst=none) (hx:opd T S t X=some (.copy hk p)) (hg:S.get hk=some (.val s x)) (hroot:IsRoot s)
 (hat:getAt s x p=some ⟨.mp true ks vs,some l⟩) (hu:upd s x p ⟨.mp true ks vs,some l2⟩=some r)
 (hrunH:∀ g es clk,a.eval X=.map (some g)→w.heap[g]?=some (.map es clk)→MRow (CRep Z w ks) (CRep Z w vs) ks vs l es clk →
  ∃ n v es2 clk2,(execOp a.eval o).run P w=.ok n { w with heap:=w.heap.setIfInBounds g (.map es2 clk2) } ∧ (n=.value v ∨ (n=.skip∧v=undef))∧MRow (CRep Z w ks) (CRep Z w vs) ks vs l2 es2 clk2) :
 Runs P o a w (Rel w0 Wr Zi N (S.put hk (.val r.sh r.x))):=by
 obtain ⟨f0,hcopy⟩:=opd_rep h hx
 obtain ⟨s',x',vh,hhome,hpl⟩:=hcopy
 have heq:=home_is h hhome hg
 simp only [TV.mk.injEq] at heq
 obtain ⟨rfl,heq⟩:=heq
 obtain rfl:=eq_of_heq heq
 have hcr:=root_cells hroot (home_rep h hhome)
 have key:∃ g es clk f',a.eval X=.map (some g)∧w.heap[g]?=some (.map es clk)∧MRow (CRep Z w ks) (CRep Z w vs) ks vs l es clk ∧ (∀ i,f' i↔i=g)∧F hk g ∧
  ∀ (w2:World),(∀ i,i≠g→w2.heap[i]?=w.heap[i]?)→CRep Z w2 (.mp true ks vs) (some (l2)) [.map (some g)] f'→∃ f3,CRep Z w2 r.sh r.x [vh] f3∧∀ i,f3 i→F hk i:=by
  rcases hpl with ⟨rfl,hv⟩ | ⟨gg,oo,s1,x1,cs,_,hpn,hok,hat2,hl,hlen,hcells,hvo⟩
  ·simp only [getAt,Option.some.injEq,TV.mk.injEq] at hat
   obtain ⟨rfl,hat⟩:=hat
   obtain rfl:=eq_of_heq hat
   obtain ⟨g,es,clk,hvh,hgm,hm,hf⟩:=hcr
   have hvh:vh=.map (some g):=by simpa using hvh
   refine ⟨g,es,clk,F hk,by rw [hv,hvh],hgm,hm,hf,(hf g).2 rfl,fun w2 _ hc2 => ?_⟩
   simp only [upd,Option.some.injEq] at hu
   subst hu
   exact ⟨F hk,by rw [hvh]; exact hc2,fun i => id⟩
  ·rw [hat] at hat2
   simp only [Option.some.injEq,TV.mk.injEq] at hat2
   obtain ⟨rfl,hx1⟩:=hat2
   obtain rfl:=eq_of_heq hx1
   obtain ⟨g',t',pre',cs',post',f',R⟩:=rfocus p s' x' vh (F hk) ⟨.mp true ks vs,some l⟩ hcr hpn (by cases s' <;> first | exact hroot.elim | trivial | exact absurd (mp_path hok) (by assumption)) hok hat
   have hgo:=R.at_
   rw [hl] at hgo
   simp only [Option.some.injEq,Prod.mk.injEq] at hgo
   obtain ⟨rfl,rfl⟩:=hgo
   obtain ⟨gm,es,clk,hcs',hgm,hm,hf⟩:=R.rep
   have hcse:cs=cs':=by
    apply List.ext_getElem?
    intro j
    have hl1:cs.length=1:=hlen
    have hl2:cs'.length=1:=by rw [hcs']; rfl
    by_cases hj:j < 1
    ·obtain rfl:j=0:=by omega
     have h0:=cells_mid R.heap 0 (by omega)
     have h1:=hcells 0 cs[0] (by simp)
     rw [Nat.add_zero] at h0 h1
     rw [← h0,h1]; simp
    ·rw [List.getElem?_eq_none (by omega),List.getElem?_eq_none (by omega)]
   have hv:a.eval X=.map (some gm):=by
    simp only [ValOf] at hvo
    rw [hvo] at hcse
    rw [hcs'] at hcse
    simpa using hcse
   have hgne:gg≠gm:=fun e => R.out (by rw [e]; exact (hf gm).2 rfl)
   refine ⟨gm,es,clk,f',hv,hgm,hm,hf,R.sub gm ((hf gm).2 rfl),fun w2 hw2 hc2 => ?_⟩
   have hzg:∀ i,Z i→i≠gm:=fun i hi e => h.nz hk gm (R.sub gm ((hf gm).2 rfl)) (e ▸ hi)
   obtain ⟨f3,q1,q2⟩:=R.put Z w2 ⟨.mp true ks vs,some (l2)⟩ [.map (some gm)] f' r hu hc2 (by rw [hcs']) (fun _ => id) (fun i hi => hw2 i (hzg i hi)) (fun i _ hn _ => hw2 i (fun e => hn ((hf i).2 e)))
    (by rw [hw2 gg hgne,R.heap,hcs']) (fun i hi _ => hi) R.out
   refine ⟨f3,q1,fun i hi => ?_⟩
   rcases (q2 i).1 hi with ⟨h1,_⟩ | h1
   ·exact h1
   ·exact R.sub i h1
 obtain ⟨g,es,clk,f',hv,hgm,hm,hf',hFg,hput⟩:=key
 obtain ⟨nn,vv,es2,clk2,hrun,hnn,hm2⟩:=hrunH g es clk hv hgm hm
 let w2:World:={ w with heap:=w.heap.setIfInBounds g (.map es2 clk2) }
 have hsame:∀ i,i≠g→w2.heap[i]?=w.heap[i]?:=(MapKept.heap_set hgm).2
 have hg2:w2.heap[g]?=some (.map es2 clk2):=(MapKept.heap_set hgm).1
 have hZ:∀ i,Z i→w2.heap[i]?=w.heap[i]?:=fun i hi => hsame i (fun e => h.nz hk g hFg (e ▸ hi))
 have hc2:CRep Z w2 (.mp true ks vs) (some (l2)) [.map (some g)] f' :=
  ⟨g,es2,clk2,rfl,hg2,hm2.imp (fun x cs hx => CRep.same (fun _ => id) hZ (fun i hi => hi.elim) hx) (fun x cs hx => CRep.same (fun _ => id) hZ (fun i hi => hi.elim) hx),hf'⟩
 obtain ⟨f3,hc3,hf3⟩:=hput w2 hsame hc2
 refine ⟨nn,vv,w2,hrun,hnn,?_⟩
 have hgsz:w2.heap.size=w.heap.size:=by simp [w2]
 have hvo:ValOf r.sh vh [vh]:=by
  have:r.sh.isSt=false∧r.sh≠.any:=by
   cases p with
   | nil => simp only [upd,Option.some.injEq] at hu; subst hu; exact ⟨rfl,by simp⟩
   | cons q p =>
     cases s' with
     | sl ow te e =>
       cases q <;> simp only [upd] at hu
       ·cases hu
       ·cases hu
       ·split at hu
        ·split at hu
         ·cases hu; exact ⟨rfl,by simp⟩
         ·cases hu
        ·cases hu
       ·cases hu
     | pt ow te e =>
       cases q <;> simp only [upd] at hu
       ·cases hu
       ·cases hu
       ·cases hu
       ·split at hu
        ·cases hu; exact ⟨rfl,by simp⟩
        ·cases hu
     | mp ow mk mv => cases q <;> simp [getAt] at hat
     | _ => exact hroot.elim
  cases hs:r.sh <;> simp_all [ValOf,Sh.isSt]
 have:=h.putG (d:=hk) (sv:=.val r.sh r.x) (v:=vh) (f:=f3) (U:=fun i => i=g) (w':=w2) (Array.getElem?_eq_some_iff.1 hhome.tmp).1 (fun _ => hhome.tmp)
  (Grow.mk rfl rfl rfl (by rw [hgsz]; exact Nat.le_refl _) (fun i _ hi => hsame i hi))
  (fun i hi _ => by subst hi; exact ⟨fun hz => h.nz hk i hFg hz,fun s hs hf => hs (h.apart s hk i hf hFg),h.wr hk i hFg⟩)
  (fun i hi => by
   rw [hgsz]
   have hF:=hf3 i hi
   exact ⟨h.lt hk i hF,.inr ⟨h.nz hk i hF,fun s hs hf => hs (h.apart s hk i hf hF),h.wr hk i hF⟩⟩)
  ⟨[vh],hc3,hvo⟩
 rw [put_idem hhome.tmp] at this
 rw [hd]
 exact ⟨Z,_,this⟩
theorem mapUpdate_ok (hT:TOk P T) (h:RelX Z F w0 Wr Zi N S a w) {t kt et:Nat} {X I Y:Operand} {sv:SV} {xt yt:TV} (ho:o.op=.mapUpdate t X I Y∨o.op=.insert t X I Y) (hd:o.dst=none) (ht:mapT T t=some (kt,et)) (he:eqTy P 9 kt xt.sh=true)
 (hx:opd T S t X=some sv) (hi:opv T S kt I=some xt) (hy:opv T S et Y=some yt) (hr:updMapV T S t xt yt sv=some S'):Runs P o a w (Rel w0 Wr Zi N S'):=by
 unfold updMapV at hr
 split at hr
 ·rename_i hk p
  split at hr
  ·rename_i s x hg
   split at hr
   ·rename_i hroot
    split at hr
    ·rename_i k v l hat
     split at hr
     ·rename_i hkk
      split at hr
      ·rename_i hvv
       split at hr
       ·rename_i r hu
        cases hr
        obtain ⟨ks,kx⟩:=xt
        obtain ⟨vs,vx⟩:=yt
        simp only at hkk hvv
        subst hkk; subst hvv
        simp only at hu he
        refine mapWrite h hd hx hg (Sh.isRoot_iff hroot) hat hu fun g es clk hv hgm hm => ?_
        obtain ⟨es2,clk2,hrun,hm2⟩:=mapUpdate_run hT ht he hgm hm (opv_rep h hi) (opv_rep h hy)
        refine ⟨.skip,undef,es2,clk2,?_,.inr ⟨rfl,rfl⟩,hm2⟩
        rcases ho with ho | ho
        ·simp [execOp,ho,hv,hrun]
        ·simp [execOp,ho,hv,hrun]
       ·cases hr
      ·cases hr
     ·cases hr
    ·cases hr
   ·cases hr
  ·cases hr
 ·cases hr
def mdel {α β:Type} (eq:α→α→Bool) (x:α):List (α × β)→List (α × β)
 | [] => []
 | e :: l => if eq x e.1 then l else e :: mdel eq x l
theorem mdel_none {α β:Type} {eq:α→α→Bool} {x:α}:∀ {l:List (α × β)},(∀ e ∈ l,eq x e.1=false)→mdel eq x l=l
 | [],_ => rfl
 | e :: l,h => by
   rw [mdel,h e List.mem_cons_self,mdel_none (l:=l) (fun b hb => h b (List.mem_cons_of_mem _ hb))]; rfl
theorem mdel_some {α β:Type} {eq:α→α→Bool} {x:α} {y:α × β} {l2:List (α × β)} (hy:eq x y.1=true):∀ {l1:List (α × β)},(∀ e ∈ l1,eq x e.1=false)→mdel eq x (l1 ++ y :: l2)=l1 ++ l2
 | [],_ => by simp [mdel,hy]
 | e :: l,h => by
   rw [List.cons_append,mdel,h e List.mem_cons_self,mdel_some (l1:=l) hy (fun b hb => h b (List.mem_cons_of_mem _ hb))]; rfl
theorem mapDelete_run (hT:TOk P T) {t kt et g clk:Nat} {tys:Array TypeId} {ty:TypeId} {es:Array MapEntry} (ht:mapT T t=some (kt,et)) {k v:Sh} (he:eqTy P 9 kt k=true) {l:List (k.den × v.den)} {x:k.den} {vI:Value} (htys:tys[0]?=some t)
 (hg:w.heap[g]?=some (.map es clk)) (hm:MRow (CRep Z w k) (CRep Z w v) k v l es clk) (hI:VRep Z w k x vI (fun _ => False)) :
 ∃ es2 clk2,(Builtin.delete_ tys ty #[.map (some g),vI]).run P w=.ok (.tuple #[]) { w with heap:=w.heap.setIfInBounds g (.map es2 clk2) }∧MRow (CRep Z w k) (CRep Z w v) k v (mdel k.beq x l) es2 clk2:=by
 have hu:=mapT_run hT ht
 obtain ⟨ci,hci,hvi⟩:=hI
 have hck:=checkKey_flat (P:=P) (Z:=Z) (w:=w) 9 kt k x vI ci _ he hci hvi es.isEmpty 10000 w (by decide)
 obtain ⟨r,hr,hf⟩:=findKey_run (P:=P) (Z:=Z) (w:=w) he hci hvi l es.toList w hm.1
 cases r with
 | none =>
   refine ⟨es,clk,?_,by rw [mdel_none hf]; exact hm⟩
   simp [Builtin.delete_,htys,run_underlying hu,MapKept.run_getObj_map hg,hck,hr,MapKept.run_setObj_map _ hg,Result.andThen]
 | some q =>
   obtain ⟨i,u⟩:=q
   obtain ⟨j,yy,e,l1,l2,e1,e2,h1,rfl,h3,h4,h5,rfl,h7,h8,h9,h10,h11,h12⟩:=hf
   obtain rfl:i=j:=by omega
   refine ⟨es.eraseIdxIfInBounds i,clk,?_,?_⟩
   ·simp [Builtin.delete_,htys,run_underlying hu,MapKept.run_getObj_map hg,hck,hr,MapKept.run_setObj_map _ hg,Result.andThen]
   ·rw [mdel_some h7 h8]
    have hlt:i < es.size:=by
     rw [← Array.length_toList,h3,List.length_append,List.length_cons]; omega
    have hE:(es.eraseIdxIfInBounds i).toList=e1 ++ e2:=by
     rw [Array.eraseIdxIfInBounds,dif_pos hlt,Array.toList_eraseIdx,h3,List.eraseIdx_append_of_length_le (by omega),h5,Nat.sub_self]; rfl
    refine ⟨by rw [hE]; exact MRep.append h11 h12,?_⟩
    rw [hE]
    refine hm.2.sub ?_
    rw [h3]
    exact List.Sublist.append (List.Sublist.refl _) (List.sublist_cons_self _ _)
def delMapV (S:SS) (xt:TV):SV→Option SS
 | .copy h p => match S.get h with
   | some (.val s x) => if s.isRoot then match getAt s x p with
     | some ⟨.mp true k v,some l⟩ => if hk:xt.sh=k then
      match upd s x p ⟨.mp true k v,some (mdel k.beq (hk ▸ xt.x) l)⟩ with
      | some r => some (S.put h (.val r.sh r.x))
      | none => none
       else none
     | _ => none
     else none
   | _ => none
 | _ => none
theorem mapDelete_ok (hT:TOk P T) (h:RelX Z F w0 Wr Zi N S a w) {t t2 kt et:Nat} {X I:Operand} {sv:SV} {xt:TV} (ho:o.op=.call { callee:=.builtin .delete,args:=#[X,I],argTypes:=#[t,t2] }) (hd:o.dst=none) (ht:mapT T t=some (kt,et)) (he:eqTy P 9 kt xt.sh=true)
 (hx:opd T S t X=some sv) (hi:opv T S kt I=some xt) (hr:delMapV S xt sv=some S'):Runs P o a w (Rel w0 Wr Zi N S'):=by
 unfold delMapV at hr
 split at hr
 ·rename_i hk p
  split at hr
  ·rename_i s x hg
   split at hr
   ·rename_i hroot
    split at hr
    ·rename_i k v l hat
     split at hr
     ·rename_i hkk
      split at hr
      ·rename_i r hu
       cases hr
       obtain ⟨ks,kx⟩:=xt
       simp only at hkk
       subst hkk
       simp only at hu he
       refine mapWrite h hd hx hg (Sh.isRoot_iff hroot) hat hu fun g es clk hv hgm hm => ?_
       obtain ⟨es2,clk2,hrun,hm2⟩:=mapDelete_run hT (tys:=#[t,t2]) (ty:=o.type) ht he rfl hgm hm (opv_rep h hi)
       refine ⟨.value (.tuple #[]),.tuple #[],es2,clk2,?_,.inl rfl,hm2⟩
       simp [execOp,ho,resolve,invoke,builtin,hv,hrun]
      ·cases hr
     ·cases hr
    ·cases hr
   ·cases hr
  ·cases hr
 ·cases hr
def eqOp:BinOp→Option Bool
 | .eql => some true
 | .neq => some false
 | _ => none
theorem eqSt_ok (h:RelX Z F w0 Wr Zi N S a w) {op:BinOp} {xt yt:Nat} {X Y:Operand} {s:Sh} {x y:s.den} {b:Bool} (ho:o.op=.binOp op xt X Y yt) (hb:eqOp op=some b) (he:eqTy P 9 xt (.st s)=true) (hg:P.eqGuardType P.depth xt=false)
 (hx:opv T S xt X=some ⟨.st s,x⟩) (hy:opv T S yt Y=some ⟨.st s,y⟩) (hp:putS N S o.dst (.val .bool (bif b then Sh.beq (.st s) x y else !(Sh.beq (.st s) x y)))=some S'):Runs P o a w (Rel w0 Wr Zi N S'):=by
 obtain ⟨cx,hcx,hvx⟩:=opv_rep h hx
 obtain ⟨cy,hcy,hvy⟩:=opv_rep h hy
 have hr:=eq_run (P:=P) 9 xt (.st s) x y (a.eval X) (a.eval Y) cx cy _ _ he hcx hcy hvx hvy 10000 w (by decide)
 have hvx':=ValOf.agg hvx
 have hvy':=ValOf.agg hvy
 rw [hvx',hvy'] at hr
 have h1:=run_eqGuard_agg (P:=P) w op xt X Y cx.toArray cy.toArray hg
 cases op <;> simp only [eqOp] at hb <;> cases hb
 ·refine Runs.read h hp (v:=.bool (Sh.beq (.st s) x y)) ?_ ⟨_,⟨rfl,fun _ => id⟩,rfl⟩
  simp only [execOp,ho,hvx',hvy',Sem.run_bind,h1,Result.andThen_ok,run_eql_struct,hr]
  simp
 ·refine Runs.read h hp (v:=.bool (!(Sh.beq (.st s) x y))) ?_ ⟨_,⟨rfl,fun _ => id⟩,rfl⟩
  simp only [execOp,ho,hvx',hvy',Sem.run_bind,h1,Result.andThen_ok,run_neq_struct,hr]
  simp
end
end Go.Vm
