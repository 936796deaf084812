/-
  FnExactRoundTime: at every graph, fleet and round the law's function returns true. No condition.
-/
import Derived.Test.YtajigednlopmjaaRows
import Derived.Test.YtajigednlopmjaaR9rX
import Derived.Test.YtajigednlopmjaaVmU
set_option linter.unusedVariables false
set_option linter.unusedSimpArgs false
namespace Go.Proofs.Ytajigednlopmjaa
open Go Go.Vm Go.Proofs V
theorem law3 (x0:((List (Int × (Int × Int))) × ((List (Int × (Int × (Int × (Int × (Int × ByteArray)))))) × (List (Int × Int))))) (w0:Sh.wf (.st (.pair (.sl false 96 (.st (.pair (.int .i64) (.st (.pair (.int .i64) (.int .i64)))))) (.pair (.sl false 78 (.st (.pair (.int .i64) (.pair (.int .i64) (.pair (.int .i64) (.pair (.int .i64) (.pair (.int .i64) .str))))))) (.sl false 102 (.st (.pair (.int .i64) (.int .i64))))))) x0) (x1:(Int × (Int × (Int × (Int × (List (Int × (Int × (Int × (Int × Int)))))))))) (w1:Sh.wf (.st (.pair (.int .i64) (.pair (.int .i64) (.pair (.int .i64) (.pair (.int .i64) (.sl false 104 (.st (.pair (.int .i64) (.pair (.int .i64) (.pair (.int .i64) (.pair (.int .i64) (.int .i64)))))))))))) x1) (x2:(List Int)) (w2:Sh.wf (.sl false 2 (.int .i64)) x2):∃ k,f3 k x0 x1 x2=some true:=by
 refine ⟨1099511627777,?_⟩
 have hk':1099511627776 < 1099511627777:=by decide
 have hk:1048576 < 1099511627777:=by decide
 unfold f3
 by_cases hl:(x2.length:Int) > 1048576
 ·rw [if_t (by simpa using hl)]
 rw [if_f (by simpa using hl)]
 obtain ⟨r,q1,q2,q3⟩:=sz5 1099511627777 hk x0 w0 1048576 (by decide) (by decide)
 have q1':f5 1099511627777 x0 1048576=some r:=q1
 rw [q1']
 simp only [Option.bind_some]
 by_cases hr:r < 0
 ·rw [if_t (by simpa using hr)]
 rw [if_f (by simpa using hr)]
 have hb:=q3 (by omega)
 obtain ⟨s,s1,s2,s3⟩:=sz6 1099511627777 hk x1 w1 r (by omega) (by omega)
 have s1':f6 1099511627777 x1 r=some s:=s1
 rw [s1']
 simp only [Option.bind_some]
 by_cases hs:s < 0
 ·rw [if_t (by simpa using hs)]
 rw [if_f (by simpa using hs)]
 have hb1:=s3 (by omega)
 have hb2:Sh.bd (.sl false 2 (.int .i64)) x2:=⟨by omega,fun y _ => trivial⟩
 have hf:x1.2.2.2.2.length≤1048576:=hb1.2.2.2.2.1
 obtain ⟨t,v1,v2⟩:=same_round 1099511627777 hk' x0 x1 x2 hb.1.1 hb.2.1.1 hb.2.2.1 hf hb2.1
 simp only [to8 _ hk x0 hb,to9 _ hk x1 hb1,to10 _ hk x2 hb2,v1,v2,eq12 _ hk x0 hb,eq13 _ hk x1 hb1,eq14 _ hk x2 hb2,Option.bind_some]
 simp
theorem own:ownKnob Try.prog.godebug=none:=by kernel_rfl
def shs3:List Sh:=[(.st (.pair (.sl false 96 (.st (.pair (.int .i64) (.st (.pair (.int .i64) (.int .i64)))))) (.pair (.sl false 78 (.st (.pair (.int .i64) (.pair (.int .i64) (.pair (.int .i64) (.pair (.int .i64) (.pair (.int .i64) .str))))))) (.sl false 102 (.st (.pair (.int .i64) (.int .i64))))))),(.st (.pair (.int .i64) (.pair (.int .i64) (.pair (.int .i64) (.pair (.int .i64) (.sl false 104 (.st (.pair (.int .i64) (.pair (.int .i64) (.pair (.int .i64) (.pair (.int .i64) (.int .i64)))))))))))),(.sl false 2 (.int .i64))]
set_option maxRecDepth 100000 in
theorem call3 (ins:List TV) (h1:ins.map (·.sh)=shs3) (h2:∀ t ∈ ins,t.sh.wf t.x):PCall Try.prog 3 ins [⟨.bool,true⟩]:=by
 match ins,h1 with
 | [⟨_,x0⟩,⟨_,x1⟩,⟨_,x2⟩],h1 =>
   simp only [List.map_cons,List.map_nil,shs3,List.cons.injEq,and_true] at h1
   obtain ⟨rfl,rfl,rfl⟩:=h1
   have w0:=h2 ⟨(.st (.pair (.sl false 96 (.st (.pair (.int .i64) (.st (.pair (.int .i64) (.int .i64)))))) (.pair (.sl false 78 (.st (.pair (.int .i64) (.pair (.int .i64) (.pair (.int .i64) (.pair (.int .i64) (.pair (.int .i64) .str))))))) (.sl false 102 (.st (.pair (.int .i64) (.int .i64))))))),x0⟩ List.mem_cons_self
   have w1:=h2 ⟨(.st (.pair (.int .i64) (.pair (.int .i64) (.pair (.int .i64) (.pair (.int .i64) (.sl false 104 (.st (.pair (.int .i64) (.pair (.int .i64) (.pair (.int .i64) (.pair (.int .i64) (.int .i64)))))))))))),x1⟩ (List.mem_cons_of_mem _ List.mem_cons_self)
   have w2:=h2 ⟨(.sl false 2 (.int .i64)),x2⟩ (List.mem_cons_of_mem _ (List.mem_cons_of_mem _ List.mem_cons_self))
   obtain ⟨k,hk⟩:=law3 x0 w0 x1 w1 x2 w2
   exact c3 k x0 x1 x2 true hk
set_option maxRecDepth 100000 in
theorem lifted3 (os:Os) (started:os.Started) (H:Type) (enc:TypeId × Value→H) :
 ReturnsInHanded {} Try.checked os 3 .any (Rows.fnExactRoundTimeSpec.pre6 enc Try.prog Try.f3 Rows.fnExactRoundTimeRow.domain false) (Rows.fnExactRoundTimeSpec.post enc Try.prog Try.f3 false true false false):=by
 refine returnsInHanded_of_change (C:=Try.checked) own started (by kernel_rfl) Try.func3
  (ChangeSpec.witness6 (enc:=enc) (C:=Try.checked) (s:=Rows.fnExactRoundTimeSpec) false ⟨#[],#[.agg #[.slice none 0 0,.slice none 0 0,.slice none 0 0],.agg #[.int .i64 0,.int .i64 0,.int .i64 0,.int .i64 0,.slice none 0 0],.slice none 0 0],[]⟩ 8 (by kernel_rfl) (by kernel_rfl) (by kernel_rfl) (by kernel_rfl)) ?_
 intro W base args ds gs before hval hW _ _
 exact row_step (T:=tbl) (m:=12) (tb:=4) tok (by kernel_rfl) (by kernel_rfl) rfl Try.underlying4 rfl
  (fun ds hl => by
   match ds,hl with
   | [d0,d1,d2],_ => rfl)
  (by kernel_rfl) (shs:=shs3) (by kernel_rfl) call3 hval hW
theorem band {a b:Bool} (h1:a=true) (h2:b=true):(a && b)=true:=by rw [h1,h2]; rfl
set_option maxHeartbeats 4000000 in
theorem closed3:joinedFacts Try.prog 3 Try.f3 Rows.fnExactRoundTimeSpec Rows.fnExactRoundTimeRow=true:=by
 unfold joinedFacts
 iterate 8 rw [Bool.and_assoc]
 refine band ?_ (by as_aux_lemma => kernel_rfl)
 iterate 9 rw [Bool.and_assoc]
 exact band (by as_aux_lemma => kernel_rfl) (by as_aux_lemma => kernel_rfl)
theorem over3:Rows.fnExactRoundTimeRow.holds Try.pinned (OpenSpec.ofChange Rows.fnExactRoundTimeSpec) :=
 OpenClaim.holds_of_wide 3 Try.f3 rfl rfl rfl rfl rfl rfl rfl ⟨rfl,rfl,rfl,rfl,rfl⟩ rfl rfl rfl rfl rfl (by kernel_rfl) Try.func3 closed3
  (of_decide_eq_true (by kernel_rfl)) (by unfold Func.isWrapper; first | (rw [if_pos (by decide +kernel)]; kernel_rfl) | (rw [if_neg (by decide +kernel)]; exact ⟨rfl,rfl⟩))
  (fun os started H enc _ => lifted3 os started H enc)
theorem FnExactRoundTime_holds:Rows.FnExactRoundTimeSaid:=over3
#print axioms FnExactRoundTime_holds
end Go.Proofs.Ytajigednlopmjaa
