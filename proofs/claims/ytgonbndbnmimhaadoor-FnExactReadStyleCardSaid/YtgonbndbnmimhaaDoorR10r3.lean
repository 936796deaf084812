/-
  FnExactReadStyle: at every text the law's function returns true; the row, and the tied card. No condition.
-/
import Derived.Test.YtgonbndbnmimhaaDoorTie
import Derived.Test.YtgonbndbnmimhaaDoorCards
import Derived.Test.YtgonbndbnmimhaaDoorR10re
import Derived.Test.YtgonbndbnmimhaaDoorVmU
import Derived.ProofKit
import Derived.OpenShut
import Derived.LaidMore
import Derived.Lay
import Derived.SevenTiedAt
import Derived.Stop.Joined
set_option linter.unusedVariables false
open Go Go.Vm Go.Proofs
namespace Go.Proofs.YtgonbndbnmimhaaDoor
open Go.ChangeShapes Go.WideShapes Go.ChangeAt Go.RowKit
open V
theorem own:ownKnob Tryd.prog.godebug=none:=by kernel_rfl
def shs3:List Sh:=[.str]
set_option maxRecDepth 100000 in
theorem call3 (ins:List TV) (h1:ins.map (·.sh)=shs3) (h2:∀ t ∈ ins,t.sh.wf t.x):PCall Tryd.prog 3 ins [⟨.bool,true⟩]:=by
 match ins,h1 with
 | [⟨_,x0⟩],h1 =>
   simp only [List.map_cons,List.map_nil,shs3,List.cons.injEq,and_true] at h1
   obtain rfl:=h1
   have w0:=h2 ⟨.str,x0⟩ List.mem_cons_self
   obtain ⟨k,hk⟩:=law3 x0 w0
   exact c3 k x0 true hk
set_option maxRecDepth 100000 in
theorem lifted3 (os:Os) (started:os.Started) (H:Type) (enc:TypeId × Value→H) :
 ReturnsInHanded {} Tryd.checked os 3 .any (fun w args => (Rows.fnExactReadStyleSpec.pre enc Tryd.prog Tryd.f3 Rows.fnExactReadStyleRow.domain false w args∧laidMetH Tryd.prog Rows.fnExactReadStyleRow.laid w)∧sizedMet enc Tryd.prog Tryd.f3 (OpenSpec.ofChange Rows.fnExactReadStyleSpec) false w args)
  (Rows.fnExactReadStyleSpec.post enc Tryd.prog Tryd.f3 false true false false):=by
 refine returnsInHanded_of_change_and (C:=Tryd.checked) (X:=fun w _ => laidMetH Tryd.prog Rows.fnExactReadStyleRow.laid w) (fun _ _ _ hh h => h.of_heap hh) own started (by kernel_rfl) Tryd.func3
  (ChangeSpec.witness_shaped (enc:=enc) (C:=Tryd.checked) (os:=os) (X:=fun w _ => laidMetH Tryd.prog Rows.fnExactReadStyleRow.laid w) false (World.laidAll Tryd.prog os Rows.fnExactReadStyleRow.laid) #[.string ⟨#[]⟩] 8 (World.laidAll_os _ _ _)
   (World.shaped_of_ZipB (by kernel_rfl) (by kernel_rfl)) (by kernel_rfl) (by kernel_rfl) (by kernel_rfl)
   (by rw [MakeChecks.laidMetH_plain _ _ _ (by kernel_rfl)]; exact laidMet_laidAll _ (by kernel_rfl) (by kernel_rfl))) ?_
 intro W base args ds gs before hval hW _ _ _ _
 exact row_step (T:=tbl) (m:=12) (tb:=4) tok (by kernel_rfl) (by kernel_rfl) rfl Tryd.underlying4 rfl
  (fun ds hl => by
   match ds,hl with
   | [d0],_ => rfl)
  (by kernel_rfl) (shs:=shs3) (by kernel_rfl) call3 hval hW
theorem band {a b:Bool} (h1:a=true) (h2:b=true):(a && b)=true:=by rw [h1,h2]; rfl
set_option maxHeartbeats 4000000 in
theorem closed3:joinedFacts Tryd.prog 3 Tryd.f3 Rows.fnExactReadStyleSpec Rows.fnExactReadStyleRow=true:=by
 unfold joinedFacts
 iterate 8 rw [Bool.and_assoc]
 refine band ?_ (by as_aux_lemma => kernel_rfl)
 iterate 9 rw [Bool.and_assoc]
 exact band (by as_aux_lemma => kernel_rfl) (by as_aux_lemma => kernel_rfl)
theorem over3:Rows.fnExactReadStyleRow.holds Tryd.pinned (OpenSpec.ofChange Rows.fnExactReadStyleSpec) :=
 OpenClaim.holds_of_wide 3 Tryd.f3 rfl rfl rfl rfl rfl rfl rfl ⟨rfl,rfl,rfl,rfl,rfl⟩ rfl rfl rfl rfl rfl (by kernel_rfl) Tryd.func3 closed3
  (of_decide_eq_true (by kernel_rfl)) (by unfold Func.isWrapper; first | (rw [if_pos (by decide +kernel)]; kernel_rfl) | (rw [if_neg (by decide +kernel)]; exact ⟨rfl,rfl⟩))
  (fun os started H enc _ => lifted3 os started H enc)
theorem FnExactReadStyleCard_holds:Rows.FnExactReadStyleCardSaid :=
 Claim7.holds_tied_plain_at .later [] [.data, .pinned] true (true, "860ec70c9b7a463b888d7d15ff098b3b3ded829cb77cce52586945b9a6d93ca5") false over3 (fun _ h => by cases h) (by kernel_rfl) (fun _ h => by cases h) fnExactReadStyle_row_tie rfl ⟨rfl, rfl⟩ (by kernel_rfl) rfl
  (fun f fn hf hfn => by
   obtain rfl : f = 3 := Option.some.inj ((show Tryd.prog.funcNamed "loop.example/g00024/laws.FnExactReadStyle" = some 3 by kernel_rfl).symm.trans hf) |>.symm
   obtain rfl:fn=Tryd.f3:=(Option.some.inj (Tryd.func3.symm.trans hfn)).symm
   exact ⟨by kernel_rfl,fun j t ht => by
    rw [Tryd.params3] at ht
    have hm:t ∈ [9]:=by simpa using Array.mem_of_getElem? ht
    have hall:([9].all fun u => !Tryd.prog.wantsStandIn u)=true:=by kernel_rfl
    exact (show Tryd.prog.wantsStandIn t=false by simpa using List.all_eq_true.1 hall t hm)⟩)
  (by kernel_rfl)
#print axioms FnExactReadStyleCard_holds
end Go.Proofs.YtgonbndbnmimhaaDoor
