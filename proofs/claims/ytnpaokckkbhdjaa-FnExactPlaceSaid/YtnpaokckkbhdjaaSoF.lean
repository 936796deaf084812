/- sort.Slice's own body. -/
import Derived.Test.YtnpaokckkbhdjaaSoX
import Derived.Test.YtnpaokckkbhdjaaVmSo
import Derived.Laws.Externs
import Derived.WalkKit
import Derived.BigCall
import Derived.BigGuard
import Derived.Shelf.Abstract
set_option linter.unusedVariables false
set_option linter.unusedSimpArgs false
open Go Go.Vm Go.Proofs Go.Lib
namespace Go.Proofs.Ytnpaokckkbhdjaa.S
theorem bits_call (n : Nat) (hn : n < 2305843009213693952) (w : World) : Calls Try.prog 141 #[.int .u64 (n : Int)] w fun e w' => e = .returned (.int .i64 ((Go.Sort.bitsLen n : Nat) : Int)) ∧ Grow (fun _ => False) w w' := by
  have h := (c141 0 (n : Int) _ (f141_eq 0 (by omega))).2 (fun _ => False) w [.int .u64 (n : Int)] (fun i hi => hi.elim) ⟨_, _, fun _ => False, fun _ => False, rfl, fun i => ⟨.inl, fun h => h.elim id id⟩, fun i h => h.elim, ⟨_, ⟨rfl, fun _ => id⟩, rfl⟩, rfl, fun _ => id⟩
  refine h.mono ?_
  rintro e w' ⟨vs, Fr, Zn, rfl, _, hvs, _, hgr⟩
  obtain ⟨v, r, _, _, rfl, _, _, hv1, rfl, _⟩ := hvs
  exact ⟨by rw [int_arg hv1]; rfl, hgr⟩
set_option maxHeartbeats 4000000 in
set_option maxRecDepth 100000 in
theorem slice73_of {t e : TypeId} {i ie : TypeInfo} (hi : Try.prog.info? t = some i) (hd : i.desc = .slice e) (hpk : Try.prog.packed t = false) (hie : Try.prog.info? e = some ie) {ke : Nat} (hke : ∀ w, (Extern.Rtype.kind e).run Try.prog w = .ok ke w)
    (p : Option Addr) (n c : Nat) (hn : n < 2305843009213693952) (f : Nat) (hf : Try.prog.funcs.findIdx? (·.name == "internal/reflectlite" ++ ".Swapper$" ++ toString (swapperK n ie ke)) = some f) (lf : Fn) (la lb : Array Value) (w : World) (R : World → Prop)
    (hp : ∀ w2, Grow (fun _ => False) w w2 → Calls Try.prog 142 #[.agg #[.func lf la lb, .func (.func f) #[] (if swapperK n ie ke ≤ 2 then #[] else #[.slice p n c, typeHandle Try.prog e])], .int .i64 0, .int .i64 (n : Int), .int .i64 ((Go.Sort.bitsLen n : Nat) : Int)] w2 fun e w' => e = .returned (.tuple #[]) ∧ R w') :
    Calls Try.prog 73 #[.iface t (.slice p n c), .func lf la lb] w fun e w' => e = .returned (.tuple #[]) ∧ R w' := by
  have hv := run_valueOf_slice (P := Try.prog) t e i hi hd p n c w
  have hs := fun w => run_swapper_slice (P := Try.prog) t e i ie hi hd hie ke hke p n c f hf w
  have hl := fun a w ha => run_valueLen_slice (P := Try.prog) t e i hi hd hpk a p n c w ha
  have hb := fun w => bits_call n hn w
  have e141 : ∀ args w, (callFunc 141 args).run Try.prog w = .ok (.enter 141 args) w := enters_of Try.func141 (by kernel_rfl) rfl
  have e142 : ∀ args w, (callFunc 142 args).run Try.prog w = .ok (.enter 142 args) w := enters_of Try.func142 (by kernel_rfl) rfl
  generalize (if swapperK n ie ke ≤ 2 then (#[] : Array Value) else #[.slice p n c, typeHandle Try.prog e]) = B at hs hp
  have hg : Try.prog.globals.size = 0 := by kernel_rfl
  simp only [typeHandle, hg] at hv hl
  have wr : IntKind.u64.wrap (n : Int) = n := by rw [IntKind.wrap_u64]; omega
  go_enter Try.func73, Try.ntmps73
  go_wp2
  rw [run_callFunc_extern Try.func138 (by kernel_rfl) (by kernel_rfl) (by kernel_rfl) (e := fun args => Extern.ReflectliteValue.unpack (args.getD 0 (.tuple #[]))) (by kernel_rfl),
    show Sem.run Try.prog ((fun args : Array Value => Extern.ReflectliteValue.unpack (args.getD 0 (.tuple #[]))) #[.iface t (.slice p n c)]) w = _ from hv]
  simp only [Result.andThen]
  rw [Oper.upon_value]
  go_wp2
  rw [run_callFunc_extern Try.func139 (by kernel_rfl) (by kernel_rfl) (by kernel_rfl) (e := Extern.ReflectliteSwapper.swapper "internal/reflectlite" (Extern.ReflectliteValue.valueError "Swapper")) (by kernel_rfl), hs]
  simp only [Result.andThen]
  rw [Oper.upon_value]
  go_wp2
  rw [run_callFunc_extern Try.func140 (by kernel_rfl) (by kernel_rfl) (by kernel_rfl) (e := Extern.ReflectliteValue.method (Extern.ReflectliteValue.valueError "reflectlite.Value.Len" 0) Extern.ReflectliteValue.len) (by kernel_rfl),
    hl _ _ (by simp)]
  simp only [Result.andThen]
  rw [Oper.upon_value]
  go_wp2_with (first
    | (go_at_fn 141; refine (hb _).mono ?_; rintro e w' ⟨rfl, hgr⟩)
    | (go_at_fn 142; refine (hp _ (((Grow.alloc w _).step (Grow.alloc _ _) (fun _ h => h.elim)).step hgr (fun _ h => h.elim))).mono ?_; rintro e w' ⟨rfl, hR⟩))
  go_end0
  exact ⟨rfl, hR⟩
end Go.Proofs.Ytnpaokckkbhdjaa.S
