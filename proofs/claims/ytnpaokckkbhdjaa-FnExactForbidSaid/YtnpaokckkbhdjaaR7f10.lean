/-
  FnExactForbid: at every graph and all ways the law's function returns true. No condition.
-/
import Derived.Test.YtnpaokckkbhdjaaRows
import Derived.Test.YtnpaokckkbhdjaaR7fX
import Derived.Test.YtnpaokckkbhdjaaVmU
set_option linter.unusedVariables false
set_option linter.unusedSimpArgs false
namespace Go.Proofs.Ytnpaokckkbhdjaa
open Go Go.Vm Go.Proofs V
theorem law10 (x0:((List (Int × (Int × Int))) × ((List (Int × (Int × (Int × (Int × (Int × ByteArray)))))) × (List (Int × Int))))) (w0:Sh.wf (.st (.pair (.sl false 214 (.st (.pair (.int .i64) (.st (.pair (.int .i64) (.int .i64)))))) (.pair (.sl false 207 (.st (.pair (.int .i64) (.pair (.int .i64) (.pair (.int .i64) (.pair (.int .i64) (.pair (.int .i64) .str))))))) (.sl false 217 (.st (.pair (.int .i64) (.int .i64))))))) x0) (x1:(List (List Int))) (w1:Sh.wf (.sl false 23 (.sl false 2 (.int .i64))) x1):∃ k,f10 k x0 x1=some true:=by
 refine ⟨1048577,?_⟩
 have hk:1048576 < 1048577:=by decide
 unfold f10
 obtain ⟨r,q1,q2,q3⟩:=sz40 1048577 hk x0 w0 1048576 (by decide) (by decide)
 have q1':f40 1048577 x0 1048576=some r:=q1
 rw [q1']
 simp only [Option.bind_some]
 by_cases hr:r < 0
 ·rw [if_t (by simpa using hr)]
 rw [if_f (by simpa using hr)]
 have hb:=q3 (by omega)
 obtain ⟨s,s1,s2,s3⟩:=sz65 1048577 hk x1 w1 r (by omega) (by omega)
 have s1':f65 1048577 x1 r=some s:=s1
 rw [s1']
 simp only [Option.bind_some]
 by_cases hs:s < 0
 ·rw [if_t (by simpa using hs)]
 rw [if_f (by simpa using hs)]
 have hb1:=s3 (by omega)
 have v1:=e66 1048577 hk x0 hb.1.1 hb.2.1.1 hb.2.2.1 x1
 have v2:=e68 1048577 hk x0 hb.1.1 hb.2.1.1 hb.2.2.1 x1
 obtain ⟨y,hy,y0⟩:∃ y:Graph,(if graphOk x0=true∧x1.length≤2000 then withB x0 (newsA x0 x1 x1.length 0) else noG)=y ∧ (y.1.length≤1048576 ∧ (∀ r ∈ y.2.1,r ∈ x0.2.1)∧y.2.1.length≤1048576∧y.2.2.length≤1048576):=by
  refine ⟨_,rfl,?_⟩
  split
  ·obtain ⟨_,s1,s2,s3,s4⟩:=withB_sub x0 (newsA x0 x1 x1.length 0)
   have b1:x0.1.length≤1048576:=hb.1.1
   have b2:x0.2.1.length≤1048576:=hb.2.1.1
   exact ⟨by omega,s2,by omega,by omega⟩
  ·simp
 obtain ⟨y1,y4,y2,y3⟩:=y0
 rw [hy] at v1 v2
 have hby:Sh.bd (.st (.pair (.sl false 181 (.st (.pair (.int .i64) (.st (.pair (.int .i64) (.int .i64)))))) (.pair (.sl false 171 (.st (.pair (.int .i64) (.pair (.int .i64) (.pair (.int .i64) (.pair (.int .i64) (.pair (.int .i64) .str))))))) (.sl false 174 (.st (.pair (.int .i64) (.int .i64))))))) y:=⟨⟨y1,fun _ _ => ⟨trivial,trivial,trivial⟩⟩,⟨y2,fun r hr => ⟨trivial,trivial,trivial,trivial,trivial,(hb.2.1.2 r (y4 r hr)).2.2.2.2.2⟩⟩,⟨y3,fun _ _ => ⟨trivial,trivial⟩⟩⟩
 obtain ⟨c,g',p1,_,p3,p4⟩:=mk46 1048577 hk x0 hb 1 (by decide) (by decide)
 have p1':f46 1048577 x0 1=some (c,g'):=p1
 obtain ⟨d,l',m1,_,m2,m4⟩:=mk28 1048577 hk x1 hb1 c (by omega) (by omega)
 have m1':f28 1048577 x1 c=some (d,l'):=m1
 obtain ⟨e,z,n1,n3,n2,n4⟩:=mk46 1048577 hk y hby 1 (by decide) (by decide)
 have n1':f46 1048577 y 1=some (e,z):=n1
 have h1':f64 1048577 z 1=some e:=hd64 1048577 hk 1 z e (by decide) n2 (by omega) n3
 have d1:decide ((d:Int) < 0)=false:=by simp; omega
 have e1:decide ((e:Int) < 0)=false:=by simp; omega
 simp only [to42 _ hk x0 hb,to67 _ hk x1 hb1,v1,v2,eq45 _ hk x0 hb,eq45 _ hk y hby,eq25 _ hk x1 hb1,p1',m1',n1',h1',d1,e1,Option.bind_some]
 simp
theorem own:ownKnob Try.prog.godebug=none:=by kernel_rfl
def shs10:List Sh:=[(.st (.pair (.sl false 214 (.st (.pair (.int .i64) (.st (.pair (.int .i64) (.int .i64)))))) (.pair (.sl false 207 (.st (.pair (.int .i64) (.pair (.int .i64) (.pair (.int .i64) (.pair (.int .i64) (.pair (.int .i64) .str))))))) (.sl false 217 (.st (.pair (.int .i64) (.int .i64))))))),(.sl false 23 (.sl false 2 (.int .i64)))]
set_option maxRecDepth 100000 in
theorem call10 (ins:List TV) (h1:ins.map (·.sh)=shs10) (h2:∀ t ∈ ins,t.sh.wf t.x):PCall Try.prog 10 ins [⟨.bool,true⟩]:=by
 match ins,h1 with
 | [⟨_,x0⟩,⟨_,x1⟩],h1 =>
   simp only [List.map_cons,List.map_nil,shs10,List.cons.injEq,and_true] at h1
   obtain ⟨rfl,rfl⟩:=h1
   have w0:=h2 ⟨(.st (.pair (.sl false 214 (.st (.pair (.int .i64) (.st (.pair (.int .i64) (.int .i64)))))) (.pair (.sl false 207 (.st (.pair (.int .i64) (.pair (.int .i64) (.pair (.int .i64) (.pair (.int .i64) (.pair (.int .i64) .str))))))) (.sl false 217 (.st (.pair (.int .i64) (.int .i64))))))),x0⟩ List.mem_cons_self
   have w1:=h2 ⟨(.sl false 23 (.sl false 2 (.int .i64))),x1⟩ (List.mem_cons_of_mem _ List.mem_cons_self)
   obtain ⟨k,hk⟩:=law10 x0 w0 x1 w1
   exact c10 k x0 x1 h173 true hk
set_option maxRecDepth 100000 in
theorem lifted10 (os:Os) (started:os.Started) (H:Type) (enc:TypeId × Value→H) :
 ReturnsInHanded {} Try.checked os 10 .any (Rows.fnExactForbidSpec.pre6 enc Try.prog Try.f10 Rows.fnExactForbidRow.domain false) (Rows.fnExactForbidSpec.post enc Try.prog Try.f10 false true false false):=by
 refine returnsInHanded_of_change (C:=Try.checked) own started (by kernel_rfl) Try.func10
  (ChangeSpec.witness6 (enc:=enc) (C:=Try.checked) (s:=Rows.fnExactForbidSpec) false ⟨#[],#[.agg #[.slice none 0 0,.slice none 0 0,.slice none 0 0],.slice none 0 0],[]⟩ 8 (by kernel_rfl) (by kernel_rfl) (by kernel_rfl) (by kernel_rfl)) ?_
 intro W base args ds gs before hval hW _ _
 exact row_step (T:=tbl) (m:=12) (tb:=4) tok (by kernel_rfl) (by kernel_rfl) rfl Try.underlying4 rfl
  (fun ds hl => by
   match ds,hl with
   | [d0,d1],_ => rfl)
  (by kernel_rfl) (shs:=shs10) (by kernel_rfl) call10 hval hW
theorem band {a b:Bool} (h1:a=true) (h2:b=true):(a && b)=true:=by rw [h1,h2]; rfl
set_option maxHeartbeats 4000000 in
theorem closed10:joinedFacts Try.prog 10 Try.f10 Rows.fnExactForbidSpec Rows.fnExactForbidRow=true:=by
 unfold joinedFacts
 iterate 8 rw [Bool.and_assoc]
 refine band ?_ (by as_aux_lemma => kernel_rfl)
 iterate 9 rw [Bool.and_assoc]
 exact band (by as_aux_lemma => kernel_rfl) (by as_aux_lemma => kernel_rfl)
theorem over10:Rows.fnExactForbidRow.holds Try.pinned (OpenSpec.ofChange Rows.fnExactForbidSpec) :=
 OpenClaim.holds_of_wide 10 Try.f10 rfl rfl rfl rfl rfl rfl rfl ⟨rfl,rfl,rfl,rfl,rfl⟩ rfl rfl rfl rfl rfl (by kernel_rfl) Try.func10 closed10
  (of_decide_eq_true (by kernel_rfl)) (by unfold Func.isWrapper; first | (rw [if_pos (by decide +kernel)]; kernel_rfl) | (rw [if_neg (by decide +kernel)]; exact ⟨rfl,rfl⟩))
  (fun os started H enc _ => lifted10 os started H enc)
theorem FnExactForbid_holds:Rows.FnExactForbidSaid:=over10
#print axioms FnExactForbid_holds
end Go.Proofs.Ytnpaokckkbhdjaa
