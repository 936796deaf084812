/-
  FnExactPicture: at every input the law's function returns true. No condition.
-/
import Derived.Test.YtgfekidehbancaaRows
import Derived.Test.YtgfekidehbancaaR8pX
import Derived.Test.YtgfekidehbancaaVmU
set_option linter.unusedVariables false
set_option linter.unusedSimpArgs false
namespace Go.Proofs.Ytgfekidehbancaa
open Go Go.Vm Go.Proofs V
theorem own:ownKnob Try.prog.godebug=none:=by kernel_rfl
def shs3:List Sh:=[(.sl false 58 (.st (.pair (.int .i64) (.pair (.sl false 137 (.st (.pair (.int .i64) (.int .i64)))) (.pair .str (.pair (.int .i64) (.int .i64))))))),(.int .i64)]
set_option maxRecDepth 100000 in
theorem call3 (ins:List TV) (h1:ins.map (·.sh)=shs3) (h2:∀ t ∈ ins,t.sh.wf t.x):PCall Try.prog 3 ins [⟨.bool,true⟩]:=by
 match ins,h1 with
 | [⟨_,x0⟩,⟨_,x1⟩],h1 =>
   simp only [List.map_cons,List.map_nil,shs3,List.cons.injEq,and_true] at h1
   obtain ⟨rfl,rfl⟩:=h1
   have w0:=h2 ⟨(.sl false 58 (.st (.pair (.int .i64) (.pair (.sl false 137 (.st (.pair (.int .i64) (.int .i64)))) (.pair .str (.pair (.int .i64) (.int .i64))))))),x0⟩ List.mem_cons_self
   have w1:=h2 ⟨(.int .i64),x1⟩ (List.mem_cons_of_mem _ List.mem_cons_self)
   obtain ⟨k,hk⟩:=law3 x0 w0 x1 w1
   exact c3 k x0 x1 true hk
set_option maxRecDepth 100000 in
theorem lifted3 (os:Os) (started:os.Started) (H:Type) (enc:TypeId × Value→H) :
 ReturnsInHanded {} Try.checked os 3 .any (Rows.fnExactPictureSpec.pre6 enc Try.prog Try.f3 Rows.fnExactPictureRow.domain false) (Rows.fnExactPictureSpec.post enc Try.prog Try.f3 false true false false):=by
 refine returnsInHanded_of_change (C:=Try.checked) own started (by kernel_rfl) Try.func3
  (ChangeSpec.witness6 (enc:=enc) (C:=Try.checked) (s:=Rows.fnExactPictureSpec) false ⟨#[],#[.slice none 0 0,.int .i64 0],[]⟩ 8 (by kernel_rfl) (by kernel_rfl) (by kernel_rfl) (by kernel_rfl)) ?_
 intro W base args ds gs before hval hW _ _
 exact row_step (T:=tbl) (m:=12) (tb:=4) tok (by kernel_rfl) (by kernel_rfl) rfl Try.underlying4 rfl
  (fun ds hl => by
   match ds,hl with
   | [d0,d1],_ => rfl)
  (by kernel_rfl) (shs:=shs3) (by kernel_rfl) call3 hval hW
theorem band {a b:Bool} (h1:a=true) (h2:b=true):(a && b)=true:=by rw [h1,h2]; rfl
set_option maxHeartbeats 4000000 in
theorem closed3:joinedFacts Try.prog 3 Try.f3 Rows.fnExactPictureSpec Rows.fnExactPictureRow=true:=by
 unfold joinedFacts
 iterate 8 rw [Bool.and_assoc]
 refine band ?_ (by as_aux_lemma => kernel_rfl)
 iterate 9 rw [Bool.and_assoc]
 exact band (by as_aux_lemma => kernel_rfl) (by as_aux_lemma => kernel_rfl)
theorem over3:Rows.fnExactPictureRow.holds Try.pinned (OpenSpec.ofChange Rows.fnExactPictureSpec) :=
 OpenClaim.holds_of_wide 3 Try.f3 rfl rfl rfl rfl rfl rfl rfl ⟨rfl,rfl,rfl,rfl,rfl⟩ rfl rfl rfl rfl rfl (by kernel_rfl) Try.func3 closed3
  (of_decide_eq_true (by kernel_rfl)) (by unfold Func.isWrapper; first | (rw [if_pos (by decide +kernel)]; kernel_rfl) | (rw [if_neg (by decide +kernel)]; exact ⟨rfl,rfl⟩))
  (fun os started H enc _ => lifted3 os started H enc)
theorem FnExactPicture_holds:Rows.FnExactPictureSaid:=over3
#print axioms FnExactPicture_holds
end Go.Proofs.Ytgfekidehbancaa
