/-
  FnExactReadTile: at every input the law's function returns true. No condition.
-/
import Derived.Test.YtgfekidehbancaaRows
import Derived.Test.YtgfekidehbancaaR8rX
import Derived.Test.YtgfekidehbancaaVmU
set_option linter.unusedVariables false
set_option linter.unusedSimpArgs false
namespace Go.Proofs.Ytgfekidehbancaa
open Go Go.Vm Go.Proofs V
theorem own:ownKnob Try.prog.godebug=none:=by kernel_rfl
def shs5:List Sh:=[(.sl false 5 (.int .u8))]
set_option maxRecDepth 100000 in
theorem call5 (ins:List TV) (h1:ins.map (·.sh)=shs5) (h2:∀ t ∈ ins,t.sh.wf t.x):PCall Try.prog 5 ins [⟨.bool,true⟩]:=by
 match ins,h1 with
 | [⟨_,x0⟩],h1 =>
   simp only [List.map_cons,List.map_nil,shs5,List.cons.injEq,and_true] at h1
   obtain rfl:=h1
   have w0:=h2 ⟨(.sl false 5 (.int .u8)),x0⟩ List.mem_cons_self
   obtain ⟨k,hk⟩:=law5 x0 w0
   exact c5 k x0 true hk
set_option maxRecDepth 100000 in
theorem lifted5 (os:Os) (started:os.Started) (H:Type) (enc:TypeId × Value→H) :
 ReturnsInHanded {} Try.checked os 5 .any (Rows.fnExactReadTileSpec.pre6 enc Try.prog Try.f5 Rows.fnExactReadTileRow.domain false) (Rows.fnExactReadTileSpec.post enc Try.prog Try.f5 false true false false):=by
 refine returnsInHanded_of_change (C:=Try.checked) own started (by kernel_rfl) Try.func5
  (ChangeSpec.witness6 (enc:=enc) (C:=Try.checked) (s:=Rows.fnExactReadTileSpec) false ⟨#[],#[.slice none 0 0],[]⟩ 8 (by kernel_rfl) (by kernel_rfl) (by kernel_rfl) (by kernel_rfl)) ?_
 intro W base args ds gs before hval hW _ _
 exact row_step (T:=tbl) (m:=12) (tb:=4) tok (by kernel_rfl) (by kernel_rfl) rfl Try.underlying4 rfl
  (fun ds hl => by
   match ds,hl with
   | [d0],_ => rfl)
  (by kernel_rfl) (shs:=shs5) (by kernel_rfl) call5 hval hW
theorem band {a b:Bool} (h1:a=true) (h2:b=true):(a && b)=true:=by rw [h1,h2]; rfl
set_option maxHeartbeats 4000000 in
theorem closed5:joinedFacts Try.prog 5 Try.f5 Rows.fnExactReadTileSpec Rows.fnExactReadTileRow=true:=by
 unfold joinedFacts
 iterate 8 rw [Bool.and_assoc]
 refine band ?_ (by as_aux_lemma => kernel_rfl)
 iterate 9 rw [Bool.and_assoc]
 exact band (by as_aux_lemma => kernel_rfl) (by as_aux_lemma => kernel_rfl)
theorem over5:Rows.fnExactReadTileRow.holds Try.pinned (OpenSpec.ofChange Rows.fnExactReadTileSpec) :=
 OpenClaim.holds_of_wide 5 Try.f5 rfl rfl rfl rfl rfl rfl rfl ⟨rfl,rfl,rfl,rfl,rfl⟩ rfl rfl rfl rfl rfl (by kernel_rfl) Try.func5 closed5
  (of_decide_eq_true (by kernel_rfl)) (by unfold Func.isWrapper; first | (rw [if_pos (by decide +kernel)]; kernel_rfl) | (rw [if_neg (by decide +kernel)]; exact ⟨rfl,rfl⟩))
  (fun os started H enc _ => lifted5 os started H enc)
theorem FnExactReadTile_holds:Rows.FnExactReadTileSaid:=over5
#print axioms FnExactReadTile_holds
end Go.Proofs.Ytgfekidehbancaa
