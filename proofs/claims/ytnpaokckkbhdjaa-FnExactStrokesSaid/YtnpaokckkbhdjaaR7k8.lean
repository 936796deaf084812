/-
  FnExactStrokes: at every tile and every list of rules the law's function returns true. No condition.
-/
import Derived.Test.YtnpaokckkbhdjaaRows
import Derived.Test.YtnpaokckkbhdjaaR7kX
import Derived.Test.YtnpaokckkbhdjaaVmU
set_option linter.unusedVariables false
set_option linter.unusedSimpArgs false
namespace Go.Proofs.Ytnpaokckkbhdjaa
open Go Go.Vm Go.Proofs V
theorem law8 (x0:((Int × (Int × Int)) × (List (Int × ((List (Int × Int)) × (List (ByteArray × ByteArray))))))) (w0:Sh.wf (.st (.pair (.st (.pair (.int .i64) (.pair (.int .i64) (.int .i64)))) (.sl false 227 (.st (.pair (.int .i64) (.pair (.sl false 108 (.st (.pair (.int .i64) (.int .i64)))) (.sl false 288 (.st (.pair .str .str))))))))) x0) (x1:(List (Int × (Int × ((List (ByteArray × (Int × ByteArray))) × (Bool × (ByteArray × (Int × Int)))))))) (w1:Sh.wf (.sl false 147 (.st (.pair (.int .i64) (.pair (.int .i64) (.pair (.sl false 269 (.st (.pair .str (.pair (.int .i64) .str)))) (.pair .bool (.pair .str (.pair (.int .i64) (.int .i64))))))))) x1):∃ k,f8 k x0 x1=some true:=by
 refine ⟨1048577,?_⟩
 have hk:1048576 < 1048577:=by decide
 unfold f8
 obtain ⟨r,q1,q2,q3⟩:=sz49 1048577 hk x0 w0 1048576 (by decide) (by decide)
 have q1':f49 1048577 x0 1048576=some r:=q1
 rw [q1']
 simp only [Option.bind_some]
 by_cases hr:r < 0
 ·rw [if_t (by simpa using hr)]
 rw [if_f (by simpa using hr)]
 have hb:=q3 (by omega)
 obtain ⟨r2,s1,s2,s3⟩:=sz50 1048577 hk x1 w1 r (by omega) q2
 have s1':f50 1048577 x1 r=some r2:=s1
 rw [s1']
 simp only [Option.bind_some]
 by_cases hr2:r2 < 0
 ·rw [if_t (by simpa using hr2)]
 rw [if_f (by simpa using hr2)]
 have hb1:=s3 (by omega)
 obtain ⟨v,v1,v2,v3,v4⟩:=same_strokes _ hk x0 x1 hb1.1 (fun r hr => (hb1.2 r hr).2.2.1.1) (fun l hl => ⟨(hb.2.2 l hl).2.1.1,(hb.2.2 l hl).2.2.1⟩)
 have hbv:Sh.bd (.sl false 158 (.st (.pair (.int .i64) (.pair (.sl false 52 (.st (.pair (.int .i64) (.int .i64)))) (.pair .str (.pair (.int .i64) (.int .i64))))))) v:=by
  refine ⟨by omega,fun e he => ?_⟩
  obtain ⟨l,hl,r,rfl,hr⟩:=v4 e he
  have hbl:=hb.2.2 l hl
  refine ⟨trivial,⟨?_,fun _ _ => ⟨trivial,trivial⟩⟩,?_,trivial,trivial⟩
  ·show (([]:Pts) ++ l.2.1).length≤1048576
   rw [List.nil_append]
   exact hbl.2.1.1
  ·show ByteArray.size r.2.2.2.2.1≤1048576
   rcases hr with rfl | hr
   ·decide
   ·exact (hb1.2 r hr).2.2.2.2.1
 obtain ⟨c,g',p1,_,p3,p4⟩:=mk58 1048577 hk x0 hb 1 (by decide) (by decide)
 have p1':f58 1048577 x0 1=some (c,g'):=p1
 obtain ⟨d,l',m1,_,m2,m4⟩:=mk59 1048577 hk x1 hb1 c (by omega) (by omega)
 have m1':f59 1048577 x1 c=some (d,l'):=m1
 obtain ⟨e,z,n1,n3,n2,n4⟩:=mk60 1048577 hk v hbv 1 (by decide) (by decide)
 have n1':f60 1048577 v 1=some (e,z):=n1
 have h1':f61 1048577 z 1=some e:=hd61 1048577 hk 1 z e (by decide) n2 (by omega) n3
 have d1:decide ((d:Int) < 0)=false:=by simp; omega
 have e1:decide ((e:Int) < 0)=false:=by simp; omega
 simp only [to52 _ hk x0 hb,to53 _ hk x1 hb1,v1,v2,eq55 _ hk v hbv,eq56 _ hk x0 hb,eq57 _ hk x1 hb1,p1',m1',n1',h1',d1,e1,Option.bind_some]
 simp
theorem own:ownKnob Try.prog.godebug=none:=by kernel_rfl
def shs8:List Sh:=[(.st (.pair (.st (.pair (.int .i64) (.pair (.int .i64) (.int .i64)))) (.sl false 227 (.st (.pair (.int .i64) (.pair (.sl false 108 (.st (.pair (.int .i64) (.int .i64)))) (.sl false 288 (.st (.pair .str .str))))))))),(.sl false 147 (.st (.pair (.int .i64) (.pair (.int .i64) (.pair (.sl false 269 (.st (.pair .str (.pair (.int .i64) .str)))) (.pair .bool (.pair .str (.pair (.int .i64) (.int .i64)))))))))]
set_option maxRecDepth 100000 in
theorem call8 (ins:List TV) (h1:ins.map (·.sh)=shs8) (h2:∀ t ∈ ins,t.sh.wf t.x):PCall Try.prog 8 ins [⟨.bool,true⟩]:=by
 match ins,h1 with
 | [⟨_,x0⟩,⟨_,x1⟩],h1 =>
   simp only [List.map_cons,List.map_nil,shs8,List.cons.injEq,and_true] at h1
   obtain ⟨rfl,rfl⟩:=h1
   have w0:=h2 ⟨(.st (.pair (.st (.pair (.int .i64) (.pair (.int .i64) (.int .i64)))) (.sl false 227 (.st (.pair (.int .i64) (.pair (.sl false 108 (.st (.pair (.int .i64) (.int .i64)))) (.sl false 288 (.st (.pair .str .str))))))))),x0⟩ List.mem_cons_self
   have w1:=h2 ⟨(.sl false 147 (.st (.pair (.int .i64) (.pair (.int .i64) (.pair (.sl false 269 (.st (.pair .str (.pair (.int .i64) .str)))) (.pair .bool (.pair .str (.pair (.int .i64) (.int .i64))))))))),x1⟩ (List.mem_cons_of_mem _ List.mem_cons_self)
   obtain ⟨k,hk⟩:=law8 x0 w0 x1 w1
   exact c8 k x0 x1 h112 true hk
set_option maxRecDepth 100000 in
theorem lifted8 (os:Os) (started:os.Started) (H:Type) (enc:TypeId × Value→H) :
 ReturnsInHanded {} Try.checked os 8 .any (Rows.fnExactStrokesSpec.pre6 enc Try.prog Try.f8 Rows.fnExactStrokesRow.domain false) (Rows.fnExactStrokesSpec.post enc Try.prog Try.f8 false true false false):=by
 refine returnsInHanded_of_change (C:=Try.checked) own started (by kernel_rfl) Try.func8
  (ChangeSpec.witness6 (enc:=enc) (C:=Try.checked) (s:=Rows.fnExactStrokesSpec) false ⟨#[],#[.agg #[.int .i64 0,.int .i64 0,.int .i64 0,.slice none 0 0],.slice none 0 0],[]⟩ 8 (by kernel_rfl) (by kernel_rfl) (by kernel_rfl) (by kernel_rfl)) ?_
 intro W base args ds gs before hval hW _ _
 exact row_step (T:=tbl) (m:=12) (tb:=4) tok (by kernel_rfl) (by kernel_rfl) rfl Try.underlying4 rfl
  (fun ds hl => by
   match ds,hl with
   | [d0,d1],_ => rfl)
  (by kernel_rfl) (shs:=shs8) (by kernel_rfl) call8 hval hW
theorem band {a b:Bool} (h1:a=true) (h2:b=true):(a && b)=true:=by rw [h1,h2]; rfl
set_option maxHeartbeats 4000000 in
theorem closed8:joinedFacts Try.prog 8 Try.f8 Rows.fnExactStrokesSpec Rows.fnExactStrokesRow=true:=by
 unfold joinedFacts
 iterate 8 rw [Bool.and_assoc]
 refine band ?_ (by as_aux_lemma => kernel_rfl)
 iterate 9 rw [Bool.and_assoc]
 exact band (by as_aux_lemma => kernel_rfl) (by as_aux_lemma => kernel_rfl)
theorem over8:Rows.fnExactStrokesRow.holds Try.pinned (OpenSpec.ofChange Rows.fnExactStrokesSpec) :=
 OpenClaim.holds_of_wide 8 Try.f8 rfl rfl rfl rfl rfl rfl rfl ⟨rfl,rfl,rfl,rfl,rfl⟩ rfl rfl rfl rfl rfl (by kernel_rfl) Try.func8 closed8
  (of_decide_eq_true (by kernel_rfl)) (by unfold Func.isWrapper; first | (rw [if_pos (by decide +kernel)]; kernel_rfl) | (rw [if_neg (by decide +kernel)]; exact ⟨rfl,rfl⟩))
  (fun os started H enc _ => lifted8 os started H enc)
theorem FnExactStrokes_holds:Rows.FnExactStrokesSaid:=over8
#print axioms FnExactStrokes_holds
