/-
  THE PLUMBING OF A LAW'S FUNCTIONS, PRINTED BY A PROGRAM OF THIS PROJECT (wip/gen/plumb.py).
-/
import Derived.Test.YtajigednlopmjaaR9r
import Derived.Test.YtajigednlopmjaaLawB
import Derived.Test.YtajigednlopmjaaLawC
import Derived.Test.YtajigednlopmjaaVmU
set_option linter.unusedVariables false
set_option linter.unusedSimpArgs false
open Go Go.Vm Go.Proofs
namespace Go.Proofs.Ytajigednlopmjaa.V
/- laws.szSpotS -/
theorem sz20 (k:Nat) (hk:1048576 < k) (x:(List (Int × (Int × Int)))) (hw:Sh.wf (.sl false 96 (.st (.pair (.int .i64) (.st (.pair (.int .i64) (.int .i64)))))) x):Sz (fun v => f20 k x v) (Sh.bd (.sl false 96 (.st (.pair (.int .i64) (.st (.pair (.int .i64) (.int .i64)))))) x) :=
 Sz.imp (Sz.len hw.1 (fun _ => Sz.done)) (fun h => ⟨h.1,fun y _ => ⟨trivial,⟨trivial,trivial⟩⟩⟩)
/- laws.szRoad -/
theorem sz40 (k:Nat) (hk:1048576 < k) (x:(Int × (Int × (Int × (Int × (Int × ByteArray)))))) (hw:Sh.wf (.st (.pair (.int .i64) (.pair (.int .i64) (.pair (.int .i64) (.pair (.int .i64) (.pair (.int .i64) .str)))))) x):Sz (fun v => f40 k x v) (Sh.bd (.st (.pair (.int .i64) (.pair (.int .i64) (.pair (.int .i64) (.pair (.int .i64) (.pair (.int .i64) .str)))))) x) :=
 Sz.imp (Sz.len hw.2.2.2.2.2 (fun _ => Sz.done)) (fun ⟨b5,_⟩ => ⟨trivial,trivial,trivial,trivial,trivial,b5⟩)
/- laws.szRoadS -/
theorem sz21 (k:Nat) (hk:1048576 < k) (x:(List (Int × (Int × (Int × (Int × (Int × ByteArray))))))) (hw:Sh.wf (.sl false 78 (.st (.pair (.int .i64) (.pair (.int .i64) (.pair (.int .i64) (.pair (.int .i64) (.pair (.int .i64) .str))))))) x):Sz (fun v => f21 k x v) (Sh.bd (.sl false 78 (.st (.pair (.int .i64) (.pair (.int .i64) (.pair (.int .i64) (.pair (.int .i64) (.pair (.int .i64) .str))))))) x) :=
 Sz.len hw.1 (fun h => Sz.loop hk (s:=fun y v => f40 k y v) (f21.l28 k x) (fun _ _ _ => rfl) h (fun y hy => sz40 k hk y (hw.2 y hy)))
/- laws.szBanS -/
theorem sz22 (k:Nat) (hk:1048576 < k) (x:(List (Int × Int))) (hw:Sh.wf (.sl false 102 (.st (.pair (.int .i64) (.int .i64)))) x):Sz (fun v => f22 k x v) (Sh.bd (.sl false 102 (.st (.pair (.int .i64) (.int .i64)))) x) :=
 Sz.imp (Sz.len hw.1 (fun _ => Sz.done)) (fun h => ⟨h.1,fun y _ => ⟨trivial,trivial⟩⟩)
/- laws.szGraph -/
theorem sz5 (k:Nat) (hk:1048576 < k) (x:((List (Int × (Int × Int))) × ((List (Int × (Int × (Int × (Int × (Int × ByteArray)))))) × (List (Int × Int))))) (hw:Sh.wf (.st (.pair (.sl false 96 (.st (.pair (.int .i64) (.st (.pair (.int .i64) (.int .i64)))))) (.pair (.sl false 78 (.st (.pair (.int .i64) (.pair (.int .i64) (.pair (.int .i64) (.pair (.int .i64) (.pair (.int .i64) .str))))))) (.sl false 102 (.st (.pair (.int .i64) (.int .i64))))))) x):Sz (fun v => f5 k x v) (Sh.bd (.st (.pair (.sl false 96 (.st (.pair (.int .i64) (.st (.pair (.int .i64) (.int .i64)))))) (.pair (.sl false 78 (.st (.pair (.int .i64) (.pair (.int .i64) (.pair (.int .i64) (.pair (.int .i64) (.pair (.int .i64) .str))))))) (.sl false 102 (.st (.pair (.int .i64) (.int .i64))))))) x) :=
 Sz.imp (Sz.seq (sz20 k hk x.1 hw.1) (Sz.seq (sz21 k hk x.2.1 hw.2.1) (Sz.seq (sz22 k hk x.2.2 hw.2.2) (Sz.done)))) (fun ⟨b0,b1,b2,_⟩ => ⟨b0,b1,b2⟩)
/- laws.szTaskS -/
theorem sz23 (k:Nat) (hk:1048576 < k) (x:(List (Int × (Int × (Int × (Int × Int)))))) (hw:Sh.wf (.sl false 104 (.st (.pair (.int .i64) (.pair (.int .i64) (.pair (.int .i64) (.pair (.int .i64) (.int .i64))))))) x):Sz (fun v => f23 k x v) (Sh.bd (.sl false 104 (.st (.pair (.int .i64) (.pair (.int .i64) (.pair (.int .i64) (.pair (.int .i64) (.int .i64))))))) x) :=
 Sz.imp (Sz.len hw.1 (fun _ => Sz.done)) (fun h => ⟨h.1,fun y _ => ⟨trivial,trivial,trivial,trivial,trivial⟩⟩)
/- laws.szFleet -/
theorem sz6 (k:Nat) (hk:1048576 < k) (x:(Int × (Int × (Int × (Int × (List (Int × (Int × (Int × (Int × Int)))))))))) (hw:Sh.wf (.st (.pair (.int .i64) (.pair (.int .i64) (.pair (.int .i64) (.pair (.int .i64) (.sl false 104 (.st (.pair (.int .i64) (.pair (.int .i64) (.pair (.int .i64) (.pair (.int .i64) (.int .i64)))))))))))) x):Sz (fun v => f6 k x v) (Sh.bd (.st (.pair (.int .i64) (.pair (.int .i64) (.pair (.int .i64) (.pair (.int .i64) (.sl false 104 (.st (.pair (.int .i64) (.pair (.int .i64) (.pair (.int .i64) (.pair (.int .i64) (.int .i64)))))))))))) x) :=
 Sz.imp (Sz.seq (sz23 k hk x.2.2.2.2 hw.2.2.2.2) (Sz.done)) (fun ⟨b4,_⟩ => ⟨trivial,trivial,trivial,trivial,b4⟩)
/- laws.toPoint -/
theorem to61 (k:Nat) (hk:1048576 < k) (x:(Int × Int)) (h:Sh.bd (.st (.pair (.int .i64) (.int .i64))) x):f61 k x=some x:=by
 unfold f61
 all_goals rfl
/- laws.toSpot -/
theorem to46 (k:Nat) (hk:1048576 < k) (x:(Int × (Int × Int))) (h:Sh.bd (.st (.pair (.int .i64) (.st (.pair (.int .i64) (.int .i64))))) x):f46 k x=some x:=by
 unfold f46
 simp only [to61 k hk x.2 h.2,Option.bind_some]
 all_goals rfl
/- laws.toSpotS -/
theorem to27 (k:Nat) (hk:1048576 < k) (x:(List (Int × (Int × Int)))) (h:Sh.bd (.sl false 96 (.st (.pair (.int .i64) (.st (.pair (.int .i64) (.int .i64)))))) x):f27 k x=some x:=by
 unfold f27
 exact copyRow (g:=fun y => f46 k y) (z:=24) hk (f27.l34 k x) (fun _ _ _ => rfl) (by decide) h.1 (fun y hy => to46 k hk y (h.2 y hy))
/- laws.toRoad -/
theorem to47 (k:Nat) (hk:1048576 < k) (x:(Int × (Int × (Int × (Int × (Int × ByteArray)))))) (h:Sh.bd (.st (.pair (.int .i64) (.pair (.int .i64) (.pair (.int .i64) (.pair (.int .i64) (.pair (.int .i64) .str)))))) x):f47 k x=some x:=by
 unfold f47
 all_goals rfl
/- laws.toRoadS -/
theorem to28 (k:Nat) (hk:1048576 < k) (x:(List (Int × (Int × (Int × (Int × (Int × ByteArray))))))) (h:Sh.bd (.sl false 78 (.st (.pair (.int .i64) (.pair (.int .i64) (.pair (.int .i64) (.pair (.int .i64) (.pair (.int .i64) .str))))))) x):f28 k x=some x:=by
 unfold f28
 exact copyRow (g:=fun y => f47 k y) (z:=56) hk (f28.l34 k x) (fun _ _ _ => rfl) (by decide) h.1 (fun y hy => to47 k hk y (h.2 y hy))
/- laws.toBan -/
theorem to48 (k:Nat) (hk:1048576 < k) (x:(Int × Int)) (h:Sh.bd (.st (.pair (.int .i64) (.int .i64))) x):f48 k x=some x:=by
 unfold f48
 all_goals rfl
/- laws.toBanS -/
theorem to29 (k:Nat) (hk:1048576 < k) (x:(List (Int × Int))) (h:Sh.bd (.sl false 102 (.st (.pair (.int .i64) (.int .i64)))) x):f29 k x=some x:=by
 unfold f29
 exact copyRow (g:=fun y => f48 k y) (z:=16) hk (f29.l34 k x) (fun _ _ _ => rfl) (by decide) h.1 (fun y hy => to48 k hk y (h.2 y hy))
/- laws.toGraph -/
theorem to8 (k:Nat) (hk:1048576 < k) (x:((List (Int × (Int × Int))) × ((List (Int × (Int × (Int × (Int × (Int × ByteArray)))))) × (List (Int × Int))))) (h:Sh.bd (.st (.pair (.sl false 96 (.st (.pair (.int .i64) (.st (.pair (.int .i64) (.int .i64)))))) (.pair (.sl false 78 (.st (.pair (.int .i64) (.pair (.int .i64) (.pair (.int .i64) (.pair (.int .i64) (.pair (.int .i64) .str))))))) (.sl false 102 (.st (.pair (.int .i64) (.int .i64))))))) x):f8 k x=some x:=by
 unfold f8
 simp only [to27 k hk x.1 h.1,to28 k hk x.2.1 h.2.1,to29 k hk x.2.2 h.2.2,Option.bind_some]
 all_goals rfl
/- laws.toTask -/
theorem to49 (k:Nat) (hk:1048576 < k) (x:(Int × (Int × (Int × (Int × Int))))) (h:Sh.bd (.st (.pair (.int .i64) (.pair (.int .i64) (.pair (.int .i64) (.pair (.int .i64) (.int .i64)))))) x):f49 k x=some x:=by
 unfold f49
 all_goals rfl
/- laws.toTaskS -/
theorem to30 (k:Nat) (hk:1048576 < k) (x:(List (Int × (Int × (Int × (Int × Int)))))) (h:Sh.bd (.sl false 104 (.st (.pair (.int .i64) (.pair (.int .i64) (.pair (.int .i64) (.pair (.int .i64) (.int .i64))))))) x):f30 k x=some x:=by
 unfold f30
 exact copyRow (g:=fun y => f49 k y) (z:=40) hk (f30.l34 k x) (fun _ _ _ => rfl) (by decide) h.1 (fun y hy => to49 k hk y (h.2 y hy))
/- laws.toFleet -/
theorem to9 (k:Nat) (hk:1048576 < k) (x:(Int × (Int × (Int × (Int × (List (Int × (Int × (Int × (Int × Int)))))))))) (h:Sh.bd (.st (.pair (.int .i64) (.pair (.int .i64) (.pair (.int .i64) (.pair (.int .i64) (.sl false 104 (.st (.pair (.int .i64) (.pair (.int .i64) (.pair (.int .i64) (.pair (.int .i64) (.int .i64)))))))))))) x):f9 k x=some x:=by
 unfold f9
 simp only [to30 k hk x.2.2.2.2 h.2.2.2.2,Option.bind_some]
 all_goals rfl
/- laws.toInt64S -/
theorem to10 (k:Nat) (hk:1048576 < k) (x:(List Int)) (h:Sh.bd (.sl false 2 (.int .i64)) x):f10 k x=some x:=by
 unfold f10
 exact copyRow (g:=some) (z:=8) hk (f10.l22 k x) (fun _ _ _ => rfl) (by decide) h.1 (fun y hy => rfl)
/- laws.eqPoint -/
theorem eq65 (k:Nat) (hk:1048576 < k) (x:(Int × Int)) (h:Sh.bd (.st (.pair (.int .i64) (.int .i64))) x):f65 k x x=some true:=by
 unfold f65
 simp []
/- laws.eqSpot -/
theorem eq53 (k:Nat) (hk:1048576 < k) (x:(Int × (Int × Int))) (h:Sh.bd (.st (.pair (.int .i64) (.st (.pair (.int .i64) (.int .i64))))) x):f53 k x x=some true:=by
 unfold f53
 simp [eq65 k hk x.2 h.2]
/- laws.eqSpotS -/
theorem eq33 (k:Nat) (hk:1048576 < k) (x:(List (Int × (Int × Int)))) (h:Sh.bd (.sl false 92 (.st (.pair (.int .i64) (.st (.pair (.int .i64) (.int .i64)))))) x):f33 k x x=some true:=by
 unfold f33
 exact eqRow (e:=fun a b => f53 k a b) hk (f33.l30 k x x) (fun _ _ => rfl) h.1 (fun y hy => eq53 k hk y (h.2 y hy))
/- laws.eqRoad -/
theorem eq54 (k:Nat) (hk:1048576 < k) (x:(Int × (Int × (Int × (Int × (Int × ByteArray)))))) (h:Sh.bd (.st (.pair (.int .i64) (.pair (.int .i64) (.pair (.int .i64) (.pair (.int .i64) (.pair (.int .i64) .str)))))) x):f54 k x x=some true:=by
 unfold f54
 simp []
/- laws.eqRoadS -/
theorem eq34 (k:Nat) (hk:1048576 < k) (x:(List (Int × (Int × (Int × (Int × (Int × ByteArray))))))) (h:Sh.bd (.sl false 97 (.st (.pair (.int .i64) (.pair (.int .i64) (.pair (.int .i64) (.pair (.int .i64) (.pair (.int .i64) .str))))))) x):f34 k x x=some true:=by
 unfold f34
 exact eqRow (e:=fun a b => f54 k a b) hk (f34.l30 k x x) (fun _ _ => rfl) h.1 (fun y hy => eq54 k hk y (h.2 y hy))
/- laws.eqBan -/
theorem eq55 (k:Nat) (hk:1048576 < k) (x:(Int × Int)) (h:Sh.bd (.st (.pair (.int .i64) (.int .i64))) x):f55 k x x=some true:=by
 unfold f55
 simp []
/- laws.eqBanS -/
theorem eq35 (k:Nat) (hk:1048576 < k) (x:(List (Int × Int))) (h:Sh.bd (.sl false 100 (.st (.pair (.int .i64) (.int .i64)))) x):f35 k x x=some true:=by
 unfold f35
 exact eqRow (e:=fun a b => f55 k a b) hk (f35.l30 k x x) (fun _ _ => rfl) h.1 (fun y hy => eq55 k hk y (h.2 y hy))
/- laws.eqGraph -/
theorem eq12 (k:Nat) (hk:1048576 < k) (x:((List (Int × (Int × Int))) × ((List (Int × (Int × (Int × (Int × (Int × ByteArray)))))) × (List (Int × Int))))) (h:Sh.bd (.st (.pair (.sl false 92 (.st (.pair (.int .i64) (.st (.pair (.int .i64) (.int .i64)))))) (.pair (.sl false 97 (.st (.pair (.int .i64) (.pair (.int .i64) (.pair (.int .i64) (.pair (.int .i64) (.pair (.int .i64) .str))))))) (.sl false 100 (.st (.pair (.int .i64) (.int .i64))))))) x):f12 k x x=some true:=by
 unfold f12
 simp [eq33 k hk x.1 h.1,eq34 k hk x.2.1 h.2.1,eq35 k hk x.2.2 h.2.2]
/- laws.eqTask -/
theorem eq56 (k:Nat) (hk:1048576 < k) (x:(Int × (Int × (Int × (Int × Int))))) (h:Sh.bd (.st (.pair (.int .i64) (.pair (.int .i64) (.pair (.int .i64) (.pair (.int .i64) (.int .i64)))))) x):f56 k x x=some true:=by
 unfold f56
 simp []
/- laws.eqTaskS -/
theorem eq36 (k:Nat) (hk:1048576 < k) (x:(List (Int × (Int × (Int × (Int × Int)))))) (h:Sh.bd (.sl false 82 (.st (.pair (.int .i64) (.pair (.int .i64) (.pair (.int .i64) (.pair (.int .i64) (.int .i64))))))) x):f36 k x x=some true:=by
 unfold f36
 exact eqRow (e:=fun a b => f56 k a b) hk (f36.l30 k x x) (fun _ _ => rfl) h.1 (fun y hy => eq56 k hk y (h.2 y hy))
/- laws.eqFleet -/
theorem eq13 (k:Nat) (hk:1048576 < k) (x:(Int × (Int × (Int × (Int × (List (Int × (Int × (Int × (Int × Int)))))))))) (h:Sh.bd (.st (.pair (.int .i64) (.pair (.int .i64) (.pair (.int .i64) (.pair (.int .i64) (.sl false 82 (.st (.pair (.int .i64) (.pair (.int .i64) (.pair (.int .i64) (.pair (.int .i64) (.int .i64)))))))))))) x):f13 k x x=some true:=by
 unfold f13
 simp [eq36 k hk x.2.2.2.2 h.2.2.2.2]
/- laws.eqInt64S -/
theorem eq14 (k:Nat) (hk:1048576 < k) (x:(List Int)) (h:Sh.bd (.sl false 2 (.int .i64)) x):f14 k x x=some true:=by
 unfold f14
 exact eqRow0 (ne:=fun (a b:Int) => a != b) hk (f14.l18 k x x) (fun _ _ => rfl) h.1 (fun y => by simp)
end Go.Proofs.Ytajigednlopmjaa.V
