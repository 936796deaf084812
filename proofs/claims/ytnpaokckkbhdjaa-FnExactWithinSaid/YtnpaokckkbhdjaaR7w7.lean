/-
  FnExactWithin: at every graph, every place and every limit the law's function returns true. No condition.
-/
import Derived.Test.YtnpaokckkbhdjaaRows
import Derived.Test.YtnpaokckkbhdjaaR7wX
import Derived.Test.YtnpaokckkbhdjaaVmU
set_option linter.unusedVariables false
set_option linter.unusedSimpArgs false
namespace Go.Proofs.Ytnpaokckkbhdjaa
open Go Go.Vm Go.Proofs V
theorem law7 (x0:((List (Int × (Int × Int))) × ((List (Int × (Int × (Int × (Int × (Int × ByteArray)))))) × (List (Int × Int))))) (w0:Sh.wf (.st (.pair (.sl false 214 (.st (.pair (.int .i64) (.st (.pair (.int .i64) (.int .i64)))))) (.pair (.sl false 207 (.st (.pair (.int .i64) (.pair (.int .i64) (.pair (.int .i64) (.pair (.int .i64) (.pair (.int .i64) .str))))))) (.sl false 217 (.st (.pair (.int .i64) (.int .i64))))))) x0) (x1:Int) (w1:Sh.wf (.int .i64) x1) (x2:Int) (w2:Sh.wf (.int .i64) x2):∃ k,f7 k x0 x1 x2=some true:=by
 refine ⟨1099511627777,?_⟩
 have hk:1048576 < 1099511627777:=by decide
 have hk2:1099511627776 < 1099511627777:=by decide
 unfold f7
 obtain ⟨r,q1,q2,q3⟩:=sz40 1099511627777 hk x0 w0 1048576 (by decide) (by decide)
 have q1':f40 1099511627777 x0 1048576=some r:=q1
 rw [q1']
 simp only [Option.bind_some]
 by_cases hr:r < 0
 ·rw [if_t (by simpa using hr)]
 ·rw [if_f (by simpa using hr)]
  have hb:=q3 (by omega)
  obtain ⟨v,v1,v2,hv⟩:=same_within _ hk2 x0 hb.1.1 hb.2.1.1 hb.2.2.1 x1 x2
  have hbv:Sh.bd (.sl false 128 (.st (.pair (.int .i64) (.int .i64)))) v:=⟨by omega,fun y _ => ⟨trivial,trivial⟩⟩
  obtain ⟨c,g',p1,_,p3,p4⟩:=mk46 1099511627777 hk x0 hb 1 (by decide) (by decide)
  have p1':f46 1099511627777 x0 1=some (c,g'):=p1
  obtain ⟨d,y,m1,m2,m3,m4⟩:=mk47 1099511627777 hk v hbv 1 (by decide) (by decide)
  have m1':f47 1099511627777 v 1=some (d,y):=m1
  have h1':f48 1099511627777 y 1=some d:=hd48 1099511627777 hk 1 y d (by decide) m3 (by omega) m2
  have c1:decide ((c:Int) < 0)=false:=by simp; omega
  have d1:decide ((d:Int) < 0)=false:=by simp; omega
  simp only [to42 _ hk x0 hb,v1,v2,eq45 _ hk x0 hb,eq44 _ hk v hbv,p1',m1',h1',c1,d1,Option.bind_some]
  simp
theorem own:ownKnob Try.prog.godebug=none:=by kernel_rfl
def shs7:List Sh:=[(.st (.pair (.sl false 214 (.st (.pair (.int .i64) (.st (.pair (.int .i64) (.int .i64)))))) (.pair (.sl false 207 (.st (.pair (.int .i64) (.pair (.int .i64) (.pair (.int .i64) (.pair (.int .i64) (.pair (.int .i64) .str))))))) (.sl false 217 (.st (.pair (.int .i64) (.int .i64))))))),(.int .i64),(.int .i64)]
set_option maxRecDepth 100000 in
theorem call7 (ins:List TV) (h1:ins.map (·.sh)=shs7) (h2:∀ t ∈ ins,t.sh.wf t.x):PCall Try.prog 7 ins [⟨.bool,true⟩]:=by
 match ins,h1 with
 | [⟨_,x0⟩,⟨_,x1⟩,⟨_,x2⟩],h1 =>
   simp only [List.map_cons,List.map_nil,shs7,List.cons.injEq,and_true] at h1
   obtain ⟨rfl,rfl,rfl⟩:=h1
   have w0:=h2 ⟨(.st (.pair (.sl false 214 (.st (.pair (.int .i64) (.st (.pair (.int .i64) (.int .i64)))))) (.pair (.sl false 207 (.st (.pair (.int .i64) (.pair (.int .i64) (.pair (.int .i64) (.pair (.int .i64) (.pair (.int .i64) .str))))))) (.sl false 217 (.st (.pair (.int .i64) (.int .i64))))))),x0⟩ List.mem_cons_self
   have w1:=h2 ⟨(.int .i64),x1⟩ (List.mem_cons_of_mem _ List.mem_cons_self)
   have w2:=h2 ⟨(.int .i64),x2⟩ (List.mem_cons_of_mem _ (List.mem_cons_of_mem _ List.mem_cons_self))
   obtain ⟨k,hk⟩:=law7 x0 w0 x1 w1 x2 w2
   exact c7 k x0 x1 x2 h97 true hk
set_option maxRecDepth 100000 in
theorem lifted7 (os:Os) (started:os.Started) (H:Type) (enc:TypeId × Value→H) :
 ReturnsInHanded {} Try.checked os 7 .any (Rows.fnExactWithinSpec.pre6 enc Try.prog Try.f7 Rows.fnExactWithinRow.domain false) (Rows.fnExactWithinSpec.post enc Try.prog Try.f7 false true false false):=by
 refine returnsInHanded_of_change (C:=Try.checked) own started (by kernel_rfl) Try.func7
  (ChangeSpec.witness6 (enc:=enc) (C:=Try.checked) (s:=Rows.fnExactWithinSpec) false ⟨#[],#[.agg #[.slice none 0 0,.slice none 0 0,.slice none 0 0],.int .i64 0,.int .i64 0],[]⟩ 8 (by kernel_rfl) (by kernel_rfl) (by kernel_rfl) (by kernel_rfl)) ?_
 intro W base args ds gs before hval hW _ _
 exact row_step (T:=tbl) (m:=12) (tb:=4) tok (by kernel_rfl) (by kernel_rfl) rfl Try.underlying4 rfl
  (fun ds hl => by
   match ds,hl with
   | [d0,d1,d2],_ => rfl)
  (by kernel_rfl) (shs:=shs7) (by kernel_rfl) call7 hval hW
theorem band {a b:Bool} (h1:a=true) (h2:b=true):(a && b)=true:=by rw [h1,h2]; rfl
set_option maxHeartbeats 4000000 in
theorem closed7:joinedFacts Try.prog 7 Try.f7 Rows.fnExactWithinSpec Rows.fnExactWithinRow=true:=by
 unfold joinedFacts
 iterate 8 rw [Bool.and_assoc]
 refine band ?_ (by as_aux_lemma => kernel_rfl)
 iterate 9 rw [Bool.and_assoc]
 exact band (by as_aux_lemma => kernel_rfl) (by as_aux_lemma => kernel_rfl)
theorem over7:Rows.fnExactWithinRow.holds Try.pinned (OpenSpec.ofChange Rows.fnExactWithinSpec) :=
 OpenClaim.holds_of_wide 7 Try.f7 rfl rfl rfl rfl rfl rfl rfl ⟨rfl,rfl,rfl,rfl,rfl⟩ rfl rfl rfl rfl rfl (by kernel_rfl) Try.func7 closed7
  (of_decide_eq_true (by kernel_rfl)) (by unfold Func.isWrapper; first | (rw [if_pos (by decide +kernel)]; kernel_rfl) | (rw [if_neg (by decide +kernel)]; exact ⟨rfl,rfl⟩))
  (fun os started H enc _ => lifted7 os started H enc)
theorem FnExactWithin_holds:Rows.FnExactWithinSaid:=over7
#print axioms FnExactWithin_holds
