/-
  THE PLUMBING OF A LAW'S FUNCTIONS, PRINTED BY A PROGRAM OF THIS PROJECT (wip/gen/plumb.py).
-/
import Derived.Test.YtchbpdnaodicaaaR3g
import Derived.Test.YtchbpdnaodicaaaLawB
import Derived.Test.YtchbpdnaodicaaaLawC
import Derived.Test.YtchbpdnaodicaaaVmU
set_option linter.unusedVariables false
set_option linter.unusedSimpArgs false
open Go Go.Vm Go.Proofs
namespace Go.Proofs.Ytchbpdnaodicaaa.V

/- laws.szTag -/
theorem sz263 (k : Nat) (hk : 1048576 < k) (x : (ByteArray × ByteArray)) (hw : Sh.wf (.st (.pair .str .str)) x) : Sz (fun v => f263 k x v) (Sh.bd (.st (.pair .str .str)) x) :=
  Sz.imp (Sz.len hw.1 (fun _ => Sz.len hw.2 (fun _ => Sz.done))) (fun ⟨b0, b1, _⟩ => ⟨b0, b1⟩)

/- laws.szTagS -/
theorem sz239 (k : Nat) (hk : 1048576 < k) (x : (List (ByteArray × ByteArray))) (hw : Sh.wf (.sl false 328 (.st (.pair .str .str))) x) : Sz (fun v => f239 k x v) (Sh.bd (.sl false 328 (.st (.pair .str .str))) x) :=
  Sz.len hw.1 (fun h => Sz.loop hk (s := fun y v => f263 k y v) (f239.l28 k x) (fun _ _ _ => rfl) h (fun y hy => sz263 k hk y (hw.2 y hy)))

/- laws.szNode -/
theorem sz196 (k : Nat) (hk : 1048576 < k) (x : (Int × ((Int × Int) × (List (ByteArray × ByteArray))))) (hw : Sh.wf (.st (.pair (.int .i64) (.pair (.st (.pair (.int .i64) (.int .i64))) (.sl false 328 (.st (.pair .str .str)))))) x) : Sz (fun v => f196 k x v) (Sh.bd (.st (.pair (.int .i64) (.pair (.st (.pair (.int .i64) (.int .i64))) (.sl false 328 (.st (.pair .str .str)))))) x) :=
  Sz.imp (Sz.seq (sz239 k hk x.2.2 hw.2.2) (Sz.done)) (fun ⟨b2, _⟩ => ⟨trivial, ⟨trivial, trivial⟩, b2⟩)

/- laws.szNodeS -/
theorem sz133 (k : Nat) (hk : 1048576 < k) (x : (List (Int × ((Int × Int) × (List (ByteArray × ByteArray)))))) (hw : Sh.wf (.sl false 257 (.st (.pair (.int .i64) (.pair (.st (.pair (.int .i64) (.int .i64))) (.sl false 328 (.st (.pair .str .str))))))) x) : Sz (fun v => f133 k x v) (Sh.bd (.sl false 257 (.st (.pair (.int .i64) (.pair (.st (.pair (.int .i64) (.int .i64))) (.sl false 328 (.st (.pair .str .str))))))) x) :=
  Sz.len hw.1 (fun h => Sz.loop hk (s := fun y v => f196 k y v) (f133.l28 k x) (fun _ _ _ => rfl) h (fun y hy => sz196 k hk y (hw.2 y hy)))

/- laws.szInt64S -/
theorem sz106 (k : Nat) (hk : 1048576 < k) (x : (List Int)) (hw : Sh.wf (.sl false 2 (.int .i64)) x) : Sz (fun v => f106 k x v) (Sh.bd (.sl false 2 (.int .i64)) x) :=
  Sz.imp (Sz.len hw.1 (fun _ => Sz.done)) (fun h => ⟨h.1, fun y _ => trivial⟩)

/- laws.szWay -/
theorem sz197 (k : Nat) (hk : 1048576 < k) (x : (Int × ((List Int) × (List (ByteArray × ByteArray))))) (hw : Sh.wf (.st (.pair (.int .i64) (.pair (.sl false 2 (.int .i64)) (.sl false 328 (.st (.pair .str .str)))))) x) : Sz (fun v => f197 k x v) (Sh.bd (.st (.pair (.int .i64) (.pair (.sl false 2 (.int .i64)) (.sl false 328 (.st (.pair .str .str)))))) x) :=
  Sz.imp (Sz.seq (sz106 k hk x.2.1 hw.2.1) (Sz.seq (sz239 k hk x.2.2 hw.2.2) (Sz.done))) (fun ⟨b1, b2, _⟩ => ⟨trivial, b1, b2⟩)

/- laws.szWayS -/
theorem sz134 (k : Nat) (hk : 1048576 < k) (x : (List (Int × ((List Int) × (List (ByteArray × ByteArray)))))) (hw : Sh.wf (.sl false 260 (.st (.pair (.int .i64) (.pair (.sl false 2 (.int .i64)) (.sl false 328 (.st (.pair .str .str))))))) x) : Sz (fun v => f134 k x v) (Sh.bd (.sl false 260 (.st (.pair (.int .i64) (.pair (.sl false 2 (.int .i64)) (.sl false 328 (.st (.pair .str .str))))))) x) :=
  Sz.len hw.1 (fun h => Sz.loop hk (s := fun y v => f197 k y v) (f134.l28 k x) (fun _ _ _ => rfl) h (fun y hy => sz197 k hk y (hw.2 y hy)))

/- laws.szPartS -/
theorem sz240 (k : Nat) (hk : 1048576 < k) (x : (List (Int × Bool))) (hw : Sh.wf (.sl false 331 (.st (.pair (.int .i64) .bool))) x) : Sz (fun v => f240 k x v) (Sh.bd (.sl false 331 (.st (.pair (.int .i64) .bool))) x) :=
  Sz.imp (Sz.len hw.1 (fun _ => Sz.done)) (fun h => ⟨h.1, fun y _ => ⟨trivial, trivial⟩⟩)

/- laws.szArea -/
theorem sz198 (k : Nat) (hk : 1048576 < k) (x : (Int × ((List (Int × Bool)) × (List (ByteArray × ByteArray))))) (hw : Sh.wf (.st (.pair (.int .i64) (.pair (.sl false 331 (.st (.pair (.int .i64) .bool))) (.sl false 328 (.st (.pair .str .str)))))) x) : Sz (fun v => f198 k x v) (Sh.bd (.st (.pair (.int .i64) (.pair (.sl false 331 (.st (.pair (.int .i64) .bool))) (.sl false 328 (.st (.pair .str .str)))))) x) :=
  Sz.imp (Sz.seq (sz240 k hk x.2.1 hw.2.1) (Sz.seq (sz239 k hk x.2.2 hw.2.2) (Sz.done))) (fun ⟨b1, b2, _⟩ => ⟨trivial, b1, b2⟩)

/- laws.szAreaS -/
theorem sz135 (k : Nat) (hk : 1048576 < k) (x : (List (Int × ((List (Int × Bool)) × (List (ByteArray × ByteArray)))))) (hw : Sh.wf (.sl false 264 (.st (.pair (.int .i64) (.pair (.sl false 331 (.st (.pair (.int .i64) .bool))) (.sl false 328 (.st (.pair .str .str))))))) x) : Sz (fun v => f135 k x v) (Sh.bd (.sl false 264 (.st (.pair (.int .i64) (.pair (.sl false 331 (.st (.pair (.int .i64) .bool))) (.sl false 328 (.st (.pair .str .str))))))) x) :=
  Sz.len hw.1 (fun h => Sz.loop hk (s := fun y v => f198 k y v) (f135.l28 k x) (fun _ _ _ => rfl) h (fun y hy => sz198 k hk y (hw.2 y hy)))

/- laws.szMap -/
theorem sz61 (k : Nat) (hk : 1048576 < k) (x : ((List (Int × ((Int × Int) × (List (ByteArray × ByteArray))))) × ((List (Int × ((List Int) × (List (ByteArray × ByteArray))))) × (List (Int × ((List (Int × Bool)) × (List (ByteArray × ByteArray)))))))) (hw : Sh.wf (.st (.pair (.sl false 257 (.st (.pair (.int .i64) (.pair (.st (.pair (.int .i64) (.int .i64))) (.sl false 328 (.st (.pair .str .str))))))) (.pair (.sl false 260 (.st (.pair (.int .i64) (.pair (.sl false 2 (.int .i64)) (.sl false 328 (.st (.pair .str .str))))))) (.sl false 264 (.st (.pair (.int .i64) (.pair (.sl false 331 (.st (.pair (.int .i64) .bool))) (.sl false 328 (.st (.pair .str .str)))))))))) x) : Sz (fun v => f61 k x v) (Sh.bd (.st (.pair (.sl false 257 (.st (.pair (.int .i64) (.pair (.st (.pair (.int .i64) (.int .i64))) (.sl false 328 (.st (.pair .str .str))))))) (.pair (.sl false 260 (.st (.pair (.int .i64) (.pair (.sl false 2 (.int .i64)) (.sl false 328 (.st (.pair .str .str))))))) (.sl false 264 (.st (.pair (.int .i64) (.pair (.sl false 331 (.st (.pair (.int .i64) .bool))) (.sl false 328 (.st (.pair .str .str)))))))))) x) :=
  Sz.imp (Sz.seq (sz133 k hk x.1 hw.1) (Sz.seq (sz134 k hk x.2.1 hw.2.1) (Sz.seq (sz135 k hk x.2.2 hw.2.2) (Sz.done)))) (fun ⟨b0, b1, b2, _⟩ => ⟨b0, b1, b2⟩)

/- laws.toPoint -/
theorem to220 (k : Nat) (hk : 1048576 < k) (x : (Int × Int)) (h : Sh.bd (.st (.pair (.int .i64) (.int .i64))) x) : f220 k x = some x := by
  unfold f220
  all_goals rfl

/- laws.toTag -/
theorem to264 (k : Nat) (hk : 1048576 < k) (x : (ByteArray × ByteArray)) (h : Sh.bd (.st (.pair .str .str)) x) : f264 k x = some x := by
  unfold f264
  all_goals rfl

/- laws.toTagS -/
theorem to244 (k : Nat) (hk : 1048576 < k) (x : (List (ByteArray × ByteArray))) (h : Sh.bd (.sl false 328 (.st (.pair .str .str))) x) : f244 k x = some x := by
  unfold f244
  exact copyRow (g := fun y => f264 k y) (z := 32) hk (f244.l34 k x) (fun _ _ _ => rfl) (by decide) h.1 (fun y hy => to264 k hk y (h.2 y hy))

/- laws.toNode -/
theorem to205 (k : Nat) (hk : 1048576 < k) (x : (Int × ((Int × Int) × (List (ByteArray × ByteArray))))) (h : Sh.bd (.st (.pair (.int .i64) (.pair (.st (.pair (.int .i64) (.int .i64))) (.sl false 328 (.st (.pair .str .str)))))) x) : f205 k x = some x := by
  unfold f205
  simp only [to220 k hk x.2.1 h.2.1, to244 k hk x.2.2 h.2.2, Option.bind_some]
  all_goals rfl

/- laws.toNodeS -/
theorem to142 (k : Nat) (hk : 1048576 < k) (x : (List (Int × ((Int × Int) × (List (ByteArray × ByteArray)))))) (h : Sh.bd (.sl false 257 (.st (.pair (.int .i64) (.pair (.st (.pair (.int .i64) (.int .i64))) (.sl false 328 (.st (.pair .str .str))))))) x) : f142 k x = some x := by
  unfold f142
  exact copyRow (g := fun y => f205 k y) (z := 48) hk (f142.l34 k x) (fun _ _ _ => rfl) (by decide) h.1 (fun y hy => to205 k hk y (h.2 y hy))

/- laws.toInt64S -/
theorem to17 (k : Nat) (hk : 1048576 < k) (x : (List Int)) (h : Sh.bd (.sl false 2 (.int .i64)) x) : f17 k x = some x := by
  unfold f17
  exact copyRow (g := some) (z := 8) hk (f17.l22 k x) (fun _ _ _ => rfl) (by decide) h.1 (fun y hy => rfl)

/- laws.toWay -/
theorem to206 (k : Nat) (hk : 1048576 < k) (x : (Int × ((List Int) × (List (ByteArray × ByteArray))))) (h : Sh.bd (.st (.pair (.int .i64) (.pair (.sl false 2 (.int .i64)) (.sl false 328 (.st (.pair .str .str)))))) x) : f206 k x = some x := by
  unfold f206
  simp only [to17 k hk x.2.1 h.2.1, to244 k hk x.2.2 h.2.2, Option.bind_some]
  all_goals rfl

/- laws.toWayS -/
theorem to143 (k : Nat) (hk : 1048576 < k) (x : (List (Int × ((List Int) × (List (ByteArray × ByteArray)))))) (h : Sh.bd (.sl false 260 (.st (.pair (.int .i64) (.pair (.sl false 2 (.int .i64)) (.sl false 328 (.st (.pair .str .str))))))) x) : f143 k x = some x := by
  unfold f143
  exact copyRow (g := fun y => f206 k y) (z := 56) hk (f143.l34 k x) (fun _ _ _ => rfl) (by decide) h.1 (fun y hy => to206 k hk y (h.2 y hy))

/- laws.toPart -/
theorem to265 (k : Nat) (hk : 1048576 < k) (x : (Int × Bool)) (h : Sh.bd (.st (.pair (.int .i64) .bool)) x) : f265 k x = some x := by
  unfold f265
  all_goals rfl

/- laws.toPartS -/
theorem to245 (k : Nat) (hk : 1048576 < k) (x : (List (Int × Bool))) (h : Sh.bd (.sl false 331 (.st (.pair (.int .i64) .bool))) x) : f245 k x = some x := by
  unfold f245
  exact copyRow (g := fun y => f265 k y) (z := 16) hk (f245.l34 k x) (fun _ _ _ => rfl) (by decide) h.1 (fun y hy => to265 k hk y (h.2 y hy))

/- laws.toArea -/
theorem to207 (k : Nat) (hk : 1048576 < k) (x : (Int × ((List (Int × Bool)) × (List (ByteArray × ByteArray))))) (h : Sh.bd (.st (.pair (.int .i64) (.pair (.sl false 331 (.st (.pair (.int .i64) .bool))) (.sl false 328 (.st (.pair .str .str)))))) x) : f207 k x = some x := by
  unfold f207
  simp only [to245 k hk x.2.1 h.2.1, to244 k hk x.2.2 h.2.2, Option.bind_some]
  all_goals rfl

/- laws.toAreaS -/
theorem to144 (k : Nat) (hk : 1048576 < k) (x : (List (Int × ((List (Int × Bool)) × (List (ByteArray × ByteArray)))))) (h : Sh.bd (.sl false 264 (.st (.pair (.int .i64) (.pair (.sl false 331 (.st (.pair (.int .i64) .bool))) (.sl false 328 (.st (.pair .str .str))))))) x) : f144 k x = some x := by
  unfold f144
  exact copyRow (g := fun y => f207 k y) (z := 56) hk (f144.l34 k x) (fun _ _ _ => rfl) (by decide) h.1 (fun y hy => to207 k hk y (h.2 y hy))

/- laws.toMap -/
theorem to63 (k : Nat) (hk : 1048576 < k) (x : ((List (Int × ((Int × Int) × (List (ByteArray × ByteArray))))) × ((List (Int × ((List Int) × (List (ByteArray × ByteArray))))) × (List (Int × ((List (Int × Bool)) × (List (ByteArray × ByteArray)))))))) (h : Sh.bd (.st (.pair (.sl false 257 (.st (.pair (.int .i64) (.pair (.st (.pair (.int .i64) (.int .i64))) (.sl false 328 (.st (.pair .str .str))))))) (.pair (.sl false 260 (.st (.pair (.int .i64) (.pair (.sl false 2 (.int .i64)) (.sl false 328 (.st (.pair .str .str))))))) (.sl false 264 (.st (.pair (.int .i64) (.pair (.sl false 331 (.st (.pair (.int .i64) .bool))) (.sl false 328 (.st (.pair .str .str)))))))))) x) : f63 k x = some x := by
  unfold f63
  simp only [to142 k hk x.1 h.1, to143 k hk x.2.1 h.2.1, to144 k hk x.2.2 h.2.2, Option.bind_some]
  all_goals rfl

/- laws.eqPoint -/
theorem eq222 (k : Nat) (hk : 1048576 < k) (x : (Int × Int)) (h : Sh.bd (.st (.pair (.int .i64) (.int .i64))) x) : f222 k x x = some true := by
  unfold f222
  simp []

/- laws.eqSpot -/
theorem eq174 (k : Nat) (hk : 1048576 < k) (x : (Int × (Int × Int))) (h : Sh.bd (.st (.pair (.int .i64) (.st (.pair (.int .i64) (.int .i64))))) x) : f174 k x x = some true := by
  unfold f174
  simp [eq222 k hk x.2 h.2]

/- laws.eqSpotS -/
theorem eq85 (k : Nat) (hk : 1048576 < k) (x : (List (Int × (Int × Int)))) (h : Sh.bd (.sl false 176 (.st (.pair (.int .i64) (.st (.pair (.int .i64) (.int .i64)))))) x) : f85 k x x = some true := by
  unfold f85
  exact eqRow (e := fun a b => f174 k a b) hk (f85.l30 k x x) (fun _ _ => rfl) h.1 (fun y hy => eq174 k hk y (h.2 y hy))

/- laws.eqRoad -/
theorem eq175 (k : Nat) (hk : 1048576 < k) (x : (Int × (Int × (Int × (Int × (Int × ByteArray)))))) (h : Sh.bd (.st (.pair (.int .i64) (.pair (.int .i64) (.pair (.int .i64) (.pair (.int .i64) (.pair (.int .i64) .str)))))) x) : f175 k x x = some true := by
  unfold f175
  simp []

/- laws.eqRoadS -/
theorem eq86 (k : Nat) (hk : 1048576 < k) (x : (List (Int × (Int × (Int × (Int × (Int × ByteArray))))))) (h : Sh.bd (.sl false 110 (.st (.pair (.int .i64) (.pair (.int .i64) (.pair (.int .i64) (.pair (.int .i64) (.pair (.int .i64) .str))))))) x) : f86 k x x = some true := by
  unfold f86
  exact eqRow (e := fun a b => f175 k a b) hk (f86.l30 k x x) (fun _ _ => rfl) h.1 (fun y hy => eq175 k hk y (h.2 y hy))

/- laws.eqBan -/
theorem eq176 (k : Nat) (hk : 1048576 < k) (x : (Int × Int)) (h : Sh.bd (.st (.pair (.int .i64) (.int .i64))) x) : f176 k x x = some true := by
  unfold f176
  simp []

/- laws.eqBanS -/
theorem eq87 (k : Nat) (hk : 1048576 < k) (x : (List (Int × Int))) (h : Sh.bd (.sl false 167 (.st (.pair (.int .i64) (.int .i64)))) x) : f87 k x x = some true := by
  unfold f87
  exact eqRow (e := fun a b => f176 k a b) hk (f87.l30 k x x) (fun _ _ => rfl) h.1 (fun y hy => eq176 k hk y (h.2 y hy))

/- laws.eqGraph -/
theorem eq20 (k : Nat) (hk : 1048576 < k) (x : ((List (Int × (Int × Int))) × ((List (Int × (Int × (Int × (Int × (Int × ByteArray)))))) × (List (Int × Int))))) (h : Sh.bd (.st (.pair (.sl false 176 (.st (.pair (.int .i64) (.st (.pair (.int .i64) (.int .i64)))))) (.pair (.sl false 110 (.st (.pair (.int .i64) (.pair (.int .i64) (.pair (.int .i64) (.pair (.int .i64) (.pair (.int .i64) .str))))))) (.sl false 167 (.st (.pair (.int .i64) (.int .i64))))))) x) : f20 k x x = some true := by
  unfold f20
  simp [eq85 k hk x.1 h.1, eq86 k hk x.2.1 h.2.1, eq87 k hk x.2.2 h.2.2]

/- laws.eqTag -/
theorem eq266 (k : Nat) (hk : 1048576 < k) (x : (ByteArray × ByteArray)) (h : Sh.bd (.st (.pair .str .str)) x) : f266 k x x = some true := by
  unfold f266
  simp []

/- laws.eqTagS -/
theorem eq248 (k : Nat) (hk : 1048576 < k) (x : (List (ByteArray × ByteArray))) (h : Sh.bd (.sl false 273 (.st (.pair .str .str))) x) : f248 k x x = some true := by
  unfold f248
  exact eqRow (e := fun a b => f266 k a b) hk (f248.l30 k x x) (fun _ _ => rfl) h.1 (fun y hy => eq266 k hk y (h.2 y hy))

/- laws.eqNode -/
theorem eq213 (k : Nat) (hk : 1048576 < k) (x : (Int × ((Int × Int) × (List (ByteArray × ByteArray))))) (h : Sh.bd (.st (.pair (.int .i64) (.pair (.st (.pair (.int .i64) (.int .i64))) (.sl false 273 (.st (.pair .str .str)))))) x) : f213 k x x = some true := by
  unfold f213
  simp [eq222 k hk x.2.1 h.2.1, eq248 k hk x.2.2 h.2.2]

/- laws.eqNodeS -/
theorem eq151 (k : Nat) (hk : 1048576 < k) (x : (List (Int × ((Int × Int) × (List (ByteArray × ByteArray)))))) (h : Sh.bd (.sl false 188 (.st (.pair (.int .i64) (.pair (.st (.pair (.int .i64) (.int .i64))) (.sl false 273 (.st (.pair .str .str))))))) x) : f151 k x x = some true := by
  unfold f151
  exact eqRow (e := fun a b => f213 k a b) hk (f151.l30 k x x) (fun _ _ => rfl) h.1 (fun y hy => eq213 k hk y (h.2 y hy))

/- laws.eqInt64S -/
theorem eq21 (k : Nat) (hk : 1048576 < k) (x : (List Int)) (h : Sh.bd (.sl false 2 (.int .i64)) x) : f21 k x x = some true := by
  unfold f21
  exact eqRow0 (ne := fun (a b : Int) => a != b) hk (f21.l18 k x x) (fun _ _ => rfl) h.1 (fun y => by simp)

/- laws.eqWay -/
theorem eq214 (k : Nat) (hk : 1048576 < k) (x : (Int × ((List Int) × (List (ByteArray × ByteArray))))) (h : Sh.bd (.st (.pair (.int .i64) (.pair (.sl false 2 (.int .i64)) (.sl false 273 (.st (.pair .str .str)))))) x) : f214 k x x = some true := by
  unfold f214
  simp [eq21 k hk x.2.1 h.2.1, eq248 k hk x.2.2 h.2.2]

/- laws.eqWayS -/
theorem eq152 (k : Nat) (hk : 1048576 < k) (x : (List (Int × ((List Int) × (List (ByteArray × ByteArray)))))) (h : Sh.bd (.sl false 184 (.st (.pair (.int .i64) (.pair (.sl false 2 (.int .i64)) (.sl false 273 (.st (.pair .str .str))))))) x) : f152 k x x = some true := by
  unfold f152
  exact eqRow (e := fun a b => f214 k a b) hk (f152.l30 k x x) (fun _ _ => rfl) h.1 (fun y hy => eq214 k hk y (h.2 y hy))

/- laws.eqPart -/
theorem eq267 (k : Nat) (hk : 1048576 < k) (x : (Int × Bool)) (h : Sh.bd (.st (.pair (.int .i64) .bool)) x) : f267 k x x = some true := by
  unfold f267
  simp []

/- laws.eqPartS -/
theorem eq249 (k : Nat) (hk : 1048576 < k) (x : (List (Int × Bool))) (h : Sh.bd (.sl false 278 (.st (.pair (.int .i64) .bool))) x) : f249 k x x = some true := by
  unfold f249
  exact eqRow (e := fun a b => f267 k a b) hk (f249.l30 k x x) (fun _ _ => rfl) h.1 (fun y hy => eq267 k hk y (h.2 y hy))

/- laws.eqArea -/
theorem eq215 (k : Nat) (hk : 1048576 < k) (x : (Int × ((List (Int × Bool)) × (List (ByteArray × ByteArray))))) (h : Sh.bd (.st (.pair (.int .i64) (.pair (.sl false 278 (.st (.pair (.int .i64) .bool))) (.sl false 273 (.st (.pair .str .str)))))) x) : f215 k x x = some true := by
  unfold f215
  simp [eq249 k hk x.2.1 h.2.1, eq248 k hk x.2.2 h.2.2]

/- laws.eqAreaS -/
theorem eq153 (k : Nat) (hk : 1048576 < k) (x : (List (Int × ((List (Int × Bool)) × (List (ByteArray × ByteArray)))))) (h : Sh.bd (.sl false 270 (.st (.pair (.int .i64) (.pair (.sl false 278 (.st (.pair (.int .i64) .bool))) (.sl false 273 (.st (.pair .str .str))))))) x) : f153 k x x = some true := by
  unfold f153
  exact eqRow (e := fun a b => f215 k a b) hk (f153.l30 k x x) (fun _ _ => rfl) h.1 (fun y hy => eq215 k hk y (h.2 y hy))

/- laws.eqMap -/
theorem eq65 (k : Nat) (hk : 1048576 < k) (x : ((List (Int × ((Int × Int) × (List (ByteArray × ByteArray))))) × ((List (Int × ((List Int) × (List (ByteArray × ByteArray))))) × (List (Int × ((List (Int × Bool)) × (List (ByteArray × ByteArray)))))))) (h : Sh.bd (.st (.pair (.sl false 188 (.st (.pair (.int .i64) (.pair (.st (.pair (.int .i64) (.int .i64))) (.sl false 273 (.st (.pair .str .str))))))) (.pair (.sl false 184 (.st (.pair (.int .i64) (.pair (.sl false 2 (.int .i64)) (.sl false 273 (.st (.pair .str .str))))))) (.sl false 270 (.st (.pair (.int .i64) (.pair (.sl false 278 (.st (.pair (.int .i64) .bool))) (.sl false 273 (.st (.pair .str .str)))))))))) x) : f65 k x x = some true := by
  unfold f65
  simp [eq151 k hk x.1 h.1, eq152 k hk x.2.1 h.2.1, eq153 k hk x.2.2 h.2.2]

/- laws.markText -/
theorem tx91_go (k : Nat) : ∀ (d m n : Nat) (s : ByteArray), n < 10 ^ d → d < m → n < 9223372036854775807 → s.size + d ≤ 1000 → ∃ t, f91.l19 k m ((n : Int), s) = some t
  | 0, m, n, s, h1, hm, h3, h2 => by
    obtain ⟨m, rfl⟩ : ∃ q, m = q + 1 := ⟨m - 1, by omega⟩
    obtain rfl : n = 0 := by omega
    rw [f91.l19, if_f (by decide), if_t (by rw [show (⟨#[109]⟩ : ByteArray).size = 1 from rfl]; omega)]
    exact ⟨_, rfl⟩
  | d + 1, m, n, s, h1, hm, h3, h2 => by
    obtain ⟨m, rfl⟩ : ∃ q, m = q + 1 := ⟨m - 1, by omega⟩
    rw [f91.l19]
    by_cases h0 : (n : Int) > 0
    · have e : Int.tdiv (n : Int) 10 = ((n / 10 : Nat) : Int) := by rw [Int.tdiv_eq_ediv_of_nonneg (by omega)]; omega
      have z : ∀ n, (strOfNums [n]).size = 1 := fun _ => rfl
      rw [if_t (by simpa using h0), if_t (by decide), if_t (by rw [z]; omega), if_t (by decide), e, wrap_in (by omega) (by omega)]
      exact tx91_go k d m (n / 10) _ (by rw [Nat.pow_succ] at h1; omega) (by omega) (by omega) (by rw [ByteArray.size_append, z]; omega)
    · rw [if_f (by simpa using h0), if_t (by rw [show (⟨#[109]⟩ : ByteArray).size = 1 from rfl]; omega)]
      exact ⟨_, rfl⟩
theorem tx91 (k : Nat) (hk : 1048576 < k) (x : Int) (h0 : 0 ≤ x) (h1 : x ≤ 9223372036854775000) : ∃ t, f91 k x = some t := by
  unfold f91
  by_cases h : x ≤ 0
  · rw [if_t (by simpa using h)]; exact ⟨_, rfl⟩
  · rw [if_f (by simpa using h)]
    obtain ⟨n, rfl⟩ : ∃ n : Nat, x = n := ⟨x.toNat, by omega⟩
    exact tx91_go k 19 k n _ (by omega) (by omega) (by omega) (by decide)

def ETagS (k : Nat) (v : Int) (b : (ByteArray × ByteArray)) (c : Int) : Prop := (f91 k (v) = some b.1) ∧ (f91 k (v + 1) = some b.2) ∧ c = v + 1 + 1
abbrev KTagS (k : Nat) : Int → (List (ByteArray × ByteArray)) → Int → Prop := RowR ((⟨#[]⟩ : ByteArray), (⟨#[]⟩ : ByteArray)) (ETagS k)

/- laws.markTagS -/
theorem mk216 (k : Nat) (hk : 1048576 < k) (x : (List (ByteArray × ByteArray))) (hx : Sh.bd (.sl false 273 (.st (.pair .str .str))) x) : Mk (fun x v => f216 k x v) (KTagS k) 2097152 x := by
  refine markRow (d := ((⟨#[]⟩ : ByteArray), (⟨#[]⟩ : ByteArray))) (w := 2) hx.1 (L := f216.l50 k) (by decide) (fun a ha v h0 h1 => ?_) (fun m xs v => by rw [f216.l50, if_f (by simp)]) hk (by decide)
  obtain ⟨t1, ht1⟩ := tx91 k hk (v) (by omega) (by omega)
  obtain ⟨t2, ht2⟩ := tx91 k hk (v + 1) (by omega) (by omega)
  have z0 : IntKind.i64.wrap (v + 1) = v + 1 := wrap_in (by omega) (by omega)
  have z1 : IntKind.i64.wrap (v + 1 + 1) = v + 1 + 1 := wrap_in (by omega) (by omega)
  refine ⟨v + 1 + 1, (t1, t2), ⟨ht1, ht2, rfl⟩, by omega, by omega, fun m i xs hi hl ha => ?_⟩
  have hc : decide ((i : Int) < (xs.length : Int)) = true := by simpa using hi
  have hb : (0 : Int) ≤ (i : Int) ∧ (i : Int) < (xs.length : Int) := ⟨by omega, by omega⟩
  have hxl := hx.1
  have h3 : ((3 : Int) : Int) ≠ 0 := by decide
  rw [f216.l50, if_t hc]
  simp only [if_t hb, if_t h3, List.length_set, Int.toNat_natCast, gd_set_eq, hi, List.set_set, Option.bind_some, ha, wrap_s (n := i) (by omega), z0, z1, ht1, ht2]

def ENodeS (k : Nat) (v : Int) (b : (Int × ((Int × Int) × (List (ByteArray × ByteArray))))) (c : Int) : Prop := ∃ c1 : Int, (b.1 = v) ∧ (b.2.1.1 = v + 1) ∧ (b.2.1.2 = v + 1 + 1) ∧ (KTagS k (v + 1 + 1 + 1) b.2.2 c1 ∧ v + 1 + 1 + 1 ≤ c1) ∧ c = c1
abbrev KNodeS (k : Nat) : Int → (List (Int × ((Int × Int) × (List (ByteArray × ByteArray))))) → Int → Prop := RowR ((0 : Int), (((0 : Int), (0 : Int)), ([] : (List (ByteArray × ByteArray))))) (ENodeS k)

/- laws.markNodeS -/
theorem mk154 (k : Nat) (hk : 1048576 < k) (x : (List (Int × ((Int × Int) × (List (ByteArray × ByteArray)))))) (hx : Sh.bd (.sl false 188 (.st (.pair (.int .i64) (.pair (.st (.pair (.int .i64) (.int .i64))) (.sl false 273 (.st (.pair .str .str))))))) x) : Mk (fun x v => f154 k x v) (KNodeS k) 2199026401280 x := by
  refine markRow (d := ((0 : Int), (((0 : Int), (0 : Int)), ([] : (List (ByteArray × ByteArray)))))) (w := 2097155) hx.1 (L := f154.l74 k) (by decide) (fun a ha v h0 h1 => ?_) (fun m xs v => by rw [f154.l74, if_f (by simp)]) hk (by decide)
  obtain ⟨c1, y1, q1, r1, l1, u1⟩ := mk216 k hk (a.2.2) (hx.2 a ha).2.2 (v + 1 + 1 + 1) (by omega) (by omega)
  have p1 : f216 k (a.2.2) (v + 1 + 1 + 1) = some (c1, y1) := q1
  have z0 : IntKind.i64.wrap (v + 1) = v + 1 := wrap_in (by omega) (by omega)
  have z1 : IntKind.i64.wrap (v + 1 + 1) = v + 1 + 1 := wrap_in (by omega) (by omega)
  have z2 : IntKind.i64.wrap (v + 1 + 1 + 1) = v + 1 + 1 + 1 := wrap_in (by omega) (by omega)
  refine ⟨c1, (v, (v + 1, v + 1 + 1), y1), ⟨_, rfl, rfl, rfl, ⟨r1, l1⟩, rfl⟩, by omega, by omega, fun m i xs hi hl ha => ?_⟩
  have hc : decide ((i : Int) < (xs.length : Int)) = true := by simpa using hi
  have hb : (0 : Int) ≤ (i : Int) ∧ (i : Int) < (xs.length : Int) := ⟨by omega, by omega⟩
  have hxl := hx.1
  have h3 : ((3 : Int) : Int) ≠ 0 := by decide
  rw [f154.l74, if_t hc]
  simp only [if_t hb, if_t h3, List.length_set, Int.toNat_natCast, gd_set_eq, hi, List.set_set, Option.bind_some, ha, wrap_s (n := i) (by omega), z0, z1, z2, p1]

def EInt64S (k : Nat) (v : Int) (b : Int) (c : Int) : Prop := (b = v) ∧ c = v + 1
abbrev KInt64S (k : Nat) : Int → (List Int) → Int → Prop := RowR (0 : Int) (EInt64S k)

/- laws.markInt64S -/
theorem mk23 (k : Nat) (hk : 1048576 < k) (x : (List Int)) (hx : Sh.bd (.sl false 2 (.int .i64)) x) : Mk (fun x v => f23 k x v) (KInt64S k) 1048576 x := by
  refine markRow (d := (0 : Int)) (w := 1) hx.1 (L := f23.l20 k) (by decide) (fun a ha v h0 h1 => ?_) (fun m xs v => by rw [f23.l20, if_f (by simp)]) hk (by decide)

  have z0 : IntKind.i64.wrap (v + 1) = v + 1 := wrap_in (by omega) (by omega)
  refine ⟨v + 1, v, ⟨rfl, rfl⟩, by omega, by omega, fun m i xs hi hl ha => ?_⟩
  have hc : decide ((i : Int) < (xs.length : Int)) = true := by simpa using hi
  have hb : (0 : Int) ≤ (i : Int) ∧ (i : Int) < (xs.length : Int) := ⟨by omega, by omega⟩
  have hxl := hx.1
  have h3 : ((3 : Int) : Int) ≠ 0 := by decide
  rw [f23.l20, if_t hc]
  simp only [if_t hb, if_t h3, List.length_set, Int.toNat_natCast, gd_set_eq, hi, List.set_set, Option.bind_some, ha, wrap_s (n := i) (by omega), z0]

def EWayS (k : Nat) (v : Int) (b : (Int × ((List Int) × (List (ByteArray × ByteArray))))) (c : Int) : Prop := ∃ c1 : Int, ∃ c2 : Int, (b.1 = v) ∧ (KInt64S k (v + 1) b.2.1 c1 ∧ v + 1 ≤ c1) ∧ (KTagS k (c1) b.2.2 c2 ∧ c1 ≤ c2) ∧ c = c2
abbrev KWayS (k : Nat) : Int → (List (Int × ((List Int) × (List (ByteArray × ByteArray))))) → Int → Prop := RowR ((0 : Int), (([] : (List Int)), ([] : (List (ByteArray × ByteArray))))) (EWayS k)

/- laws.markWayS -/
theorem mk155 (k : Nat) (hk : 1048576 < k) (x : (List (Int × ((List Int) × (List (ByteArray × ByteArray)))))) (hx : Sh.bd (.sl false 184 (.st (.pair (.int .i64) (.pair (.sl false 2 (.int .i64)) (.sl false 273 (.st (.pair .str .str))))))) x) : Mk (fun x v => f155 k x v) (KWayS k) 3298535931904 x := by
  refine markRow (d := ((0 : Int), (([] : (List Int)), ([] : (List (ByteArray × ByteArray)))))) (w := 3145729) hx.1 (L := f155.l68 k) (by decide) (fun a ha v h0 h1 => ?_) (fun m xs v => by rw [f155.l68, if_f (by simp)]) hk (by decide)
  obtain ⟨c1, y1, q1, r1, l1, u1⟩ := mk23 k hk (a.2.1) (hx.2 a ha).2.1 (v + 1) (by omega) (by omega)
  have p1 : f23 k (a.2.1) (v + 1) = some (c1, y1) := q1
  obtain ⟨c2, y2, q2, r2, l2, u2⟩ := mk216 k hk (a.2.2) (hx.2 a ha).2.2 (c1) (by omega) (by omega)
  have p2 : f216 k (a.2.2) (c1) = some (c2, y2) := q2
  have z0 : IntKind.i64.wrap (v + 1) = v + 1 := wrap_in (by omega) (by omega)
  refine ⟨c2, (v, y1, y2), ⟨_, _, rfl, ⟨r1, l1⟩, ⟨r2, l2⟩, rfl⟩, by omega, by omega, fun m i xs hi hl ha => ?_⟩
  have hc : decide ((i : Int) < (xs.length : Int)) = true := by simpa using hi
  have hb : (0 : Int) ≤ (i : Int) ∧ (i : Int) < (xs.length : Int) := ⟨by omega, by omega⟩
  have hxl := hx.1
  have h3 : ((3 : Int) : Int) ≠ 0 := by decide
  rw [f155.l68, if_t hc]
  simp only [if_t hb, if_t h3, List.length_set, Int.toNat_natCast, gd_set_eq, hi, List.set_set, Option.bind_some, ha, wrap_s (n := i) (by omega), z0, p1, p2]

def EPartS (k : Nat) (v : Int) (b : (Int × Bool)) (c : Int) : Prop := (b.1 = v) ∧ (b.2 = ((Int.tmod (v + 1) (3 : Int)) == (0 : Int))) ∧ c = v + 1 + 1
abbrev KPartS (k : Nat) : Int → (List (Int × Bool)) → Int → Prop := RowR ((0 : Int), false) (EPartS k)

/- laws.markPartS -/
theorem mk217 (k : Nat) (hk : 1048576 < k) (x : (List (Int × Bool))) (hx : Sh.bd (.sl false 278 (.st (.pair (.int .i64) .bool))) x) : Mk (fun x v => f217 k x v) (KPartS k) 2097152 x := by
  refine markRow (d := ((0 : Int), false)) (w := 2) hx.1 (L := f217.l32 k) (by decide) (fun a ha v h0 h1 => ?_) (fun m xs v => by rw [f217.l32, if_f (by simp)]) hk (by decide)

  have z0 : IntKind.i64.wrap (v + 1) = v + 1 := wrap_in (by omega) (by omega)
  have z1 : IntKind.i64.wrap (v + 1 + 1) = v + 1 + 1 := wrap_in (by omega) (by omega)
  refine ⟨v + 1 + 1, (v, ((Int.tmod (v + 1) (3 : Int)) == (0 : Int))), ⟨rfl, rfl, rfl⟩, by omega, by omega, fun m i xs hi hl ha => ?_⟩
  have hc : decide ((i : Int) < (xs.length : Int)) = true := by simpa using hi
  have hb : (0 : Int) ≤ (i : Int) ∧ (i : Int) < (xs.length : Int) := ⟨by omega, by omega⟩
  have hxl := hx.1
  have h3 : ((3 : Int) : Int) ≠ 0 := by decide
  rw [f217.l32, if_t hc]
  simp only [if_t hb, if_t h3, List.length_set, Int.toNat_natCast, gd_set_eq, hi, List.set_set, Option.bind_some, ha, wrap_s (n := i) (by omega), z0, z1]

def EAreaS (k : Nat) (v : Int) (b : (Int × ((List (Int × Bool)) × (List (ByteArray × ByteArray))))) (c : Int) : Prop := ∃ c1 : Int, ∃ c2 : Int, (b.1 = v) ∧ (KPartS k (v + 1) b.2.1 c1 ∧ v + 1 ≤ c1) ∧ (KTagS k (c1) b.2.2 c2 ∧ c1 ≤ c2) ∧ c = c2
abbrev KAreaS (k : Nat) : Int → (List (Int × ((List (Int × Bool)) × (List (ByteArray × ByteArray))))) → Int → Prop := RowR ((0 : Int), (([] : (List (Int × Bool))), ([] : (List (ByteArray × ByteArray))))) (EAreaS k)

/- laws.markAreaS -/
theorem mk156 (k : Nat) (hk : 1048576 < k) (x : (List (Int × ((List (Int × Bool)) × (List (ByteArray × ByteArray)))))) (hx : Sh.bd (.sl false 270 (.st (.pair (.int .i64) (.pair (.sl false 278 (.st (.pair (.int .i64) .bool))) (.sl false 273 (.st (.pair .str .str))))))) x) : Mk (fun x v => f156 k x v) (KAreaS k) 4398047559680 x := by
  refine markRow (d := ((0 : Int), (([] : (List (Int × Bool))), ([] : (List (ByteArray × ByteArray)))))) (w := 4194305) hx.1 (L := f156.l68 k) (by decide) (fun a ha v h0 h1 => ?_) (fun m xs v => by rw [f156.l68, if_f (by simp)]) hk (by decide)
  obtain ⟨c1, y1, q1, r1, l1, u1⟩ := mk217 k hk (a.2.1) (hx.2 a ha).2.1 (v + 1) (by omega) (by omega)
  have p1 : f217 k (a.2.1) (v + 1) = some (c1, y1) := q1
  obtain ⟨c2, y2, q2, r2, l2, u2⟩ := mk216 k hk (a.2.2) (hx.2 a ha).2.2 (c1) (by omega) (by omega)
  have p2 : f216 k (a.2.2) (c1) = some (c2, y2) := q2
  have z0 : IntKind.i64.wrap (v + 1) = v + 1 := wrap_in (by omega) (by omega)
  refine ⟨c2, (v, y1, y2), ⟨_, _, rfl, ⟨r1, l1⟩, ⟨r2, l2⟩, rfl⟩, by omega, by omega, fun m i xs hi hl ha => ?_⟩
  have hc : decide ((i : Int) < (xs.length : Int)) = true := by simpa using hi
  have hb : (0 : Int) ≤ (i : Int) ∧ (i : Int) < (xs.length : Int) := ⟨by omega, by omega⟩
  have hxl := hx.1
  have h3 : ((3 : Int) : Int) ≠ 0 := by decide
  rw [f156.l68, if_t hc]
  simp only [if_t hb, if_t h3, List.length_set, Int.toNat_natCast, gd_set_eq, hi, List.set_set, Option.bind_some, ha, wrap_s (n := i) (by omega), z0, p1, p2]

def KMap (k : Nat) (v : Int) (b : ((List (Int × ((Int × Int) × (List (ByteArray × ByteArray))))) × ((List (Int × ((List Int) × (List (ByteArray × ByteArray))))) × (List (Int × ((List (Int × Bool)) × (List (ByteArray × ByteArray)))))))) (c : Int) : Prop := ∃ c1 : Int, ∃ c2 : Int, ∃ c3 : Int, (KNodeS k v b.1 c1 ∧ v ≤ c1) ∧ (KWayS k c1 b.2.1 c2 ∧ c1 ≤ c2) ∧ (KAreaS k c2 b.2.2 c3 ∧ c2 ≤ c3) ∧ c = c3

/- laws.markMap -/
theorem mk66 (k : Nat) (hk : 1048576 < k) (x : ((List (Int × ((Int × Int) × (List (ByteArray × ByteArray))))) × ((List (Int × ((List Int) × (List (ByteArray × ByteArray))))) × (List (Int × ((List (Int × Bool)) × (List (ByteArray × ByteArray)))))))) (hx : Sh.bd (.st (.pair (.sl false 188 (.st (.pair (.int .i64) (.pair (.st (.pair (.int .i64) (.int .i64))) (.sl false 273 (.st (.pair .str .str))))))) (.pair (.sl false 184 (.st (.pair (.int .i64) (.pair (.sl false 2 (.int .i64)) (.sl false 273 (.st (.pair .str .str))))))) (.sl false 270 (.st (.pair (.int .i64) (.pair (.sl false 278 (.st (.pair (.int .i64) .bool))) (.sl false 273 (.st (.pair .str .str)))))))))) x) : Mk (fun x v => f66 k x v) (KMap k) 9895609892864 x := by
  intro v h0 h1
  obtain ⟨c1, y1, q1, r1, l1, u1⟩ := mk154 k hk x.1 hx.1 v (by omega) (by omega)
  have p1 : f154 k x.1 v = some (c1, y1) := q1
  obtain ⟨c2, y2, q2, r2, l2, u2⟩ := mk155 k hk x.2.1 hx.2.1 c1 (by omega) (by omega)
  have p2 : f155 k x.2.1 c1 = some (c2, y2) := q2
  obtain ⟨c3, y3, q3, r3, l3, u3⟩ := mk156 k hk x.2.2 hx.2.2 c2 (by omega) (by omega)
  have p3 : f156 k x.2.2 c2 = some (c3, y3) := q3
  refine ⟨c3, (y1, y2, y3), ?_, ⟨_, _, _, ⟨r1, l1⟩, ⟨r2, l2⟩, ⟨r3, l3⟩, rfl⟩, by omega, by omega⟩
  show f66 k x v = _
  unfold f66
  simp only [p1, p2, p3, Option.bind_some]

def ESpotS (k : Nat) (v : Int) (b : (Int × (Int × Int))) (c : Int) : Prop := (b.1 = v) ∧ (b.2.1 = v + 1) ∧ (b.2.2 = v + 1 + 1) ∧ c = v + 1 + 1 + 1
abbrev KSpotS (k : Nat) : Int → (List (Int × (Int × Int))) → Int → Prop := RowR ((0 : Int), ((0 : Int), (0 : Int))) (ESpotS k)

/- laws.markSpotS -/
theorem mk88 (k : Nat) (hk : 1048576 < k) (x : (List (Int × (Int × Int)))) (hx : Sh.bd (.sl false 176 (.st (.pair (.int .i64) (.st (.pair (.int .i64) (.int .i64)))))) x) : Mk (fun x v => f88 k x v) (KSpotS k) 3145728 x := by
  refine markRow (d := ((0 : Int), ((0 : Int), (0 : Int)))) (w := 3) hx.1 (L := f88.l44 k) (by decide) (fun a ha v h0 h1 => ?_) (fun m xs v => by rw [f88.l44, if_f (by simp)]) hk (by decide)

  have z0 : IntKind.i64.wrap (v + 1) = v + 1 := wrap_in (by omega) (by omega)
  have z1 : IntKind.i64.wrap (v + 1 + 1) = v + 1 + 1 := wrap_in (by omega) (by omega)
  have z2 : IntKind.i64.wrap (v + 1 + 1 + 1) = v + 1 + 1 + 1 := wrap_in (by omega) (by omega)
  refine ⟨v + 1 + 1 + 1, (v, (v + 1, v + 1 + 1)), ⟨rfl, rfl, rfl, rfl⟩, by omega, by omega, fun m i xs hi hl ha => ?_⟩
  have hc : decide ((i : Int) < (xs.length : Int)) = true := by simpa using hi
  have hb : (0 : Int) ≤ (i : Int) ∧ (i : Int) < (xs.length : Int) := ⟨by omega, by omega⟩
  have hxl := hx.1
  have h3 : ((3 : Int) : Int) ≠ 0 := by decide
  rw [f88.l44, if_t hc]
  simp only [if_t hb, if_t h3, List.length_set, Int.toNat_natCast, gd_set_eq, hi, List.set_set, Option.bind_some, ha, wrap_s (n := i) (by omega), z0, z1, z2]

def ERoadS (k : Nat) (v : Int) (b : (Int × (Int × (Int × (Int × (Int × ByteArray)))))) (c : Int) : Prop := (b.1 = v) ∧ (b.2.1 = v + 1) ∧ (b.2.2.1 = v + 1 + 1) ∧ (b.2.2.2.1 = v + 1 + 1 + 1) ∧ (b.2.2.2.2.1 = v + 1 + 1 + 1 + 1) ∧ (f91 k (v + 1 + 1 + 1 + 1 + 1) = some b.2.2.2.2.2) ∧ c = v + 1 + 1 + 1 + 1 + 1 + 1
abbrev KRoadS (k : Nat) : Int → (List (Int × (Int × (Int × (Int × (Int × ByteArray)))))) → Int → Prop := RowR ((0 : Int), ((0 : Int), ((0 : Int), ((0 : Int), ((0 : Int), (⟨#[]⟩ : ByteArray)))))) (ERoadS k)

/- laws.markRoadS -/
theorem mk89 (k : Nat) (hk : 1048576 < k) (x : (List (Int × (Int × (Int × (Int × (Int × ByteArray))))))) (hx : Sh.bd (.sl false 110 (.st (.pair (.int .i64) (.pair (.int .i64) (.pair (.int .i64) (.pair (.int .i64) (.pair (.int .i64) .str))))))) x) : Mk (fun x v => f89 k x v) (KRoadS k) 6291456 x := by
  refine markRow (d := ((0 : Int), ((0 : Int), ((0 : Int), ((0 : Int), ((0 : Int), (⟨#[]⟩ : ByteArray))))))) (w := 6) hx.1 (L := f89.l110 k) (by decide) (fun a ha v h0 h1 => ?_) (fun m xs v => by rw [f89.l110, if_f (by simp)]) hk (by decide)
  obtain ⟨t1, ht1⟩ := tx91 k hk (v + 1 + 1 + 1 + 1 + 1) (by omega) (by omega)
  have z0 : IntKind.i64.wrap (v + 1) = v + 1 := wrap_in (by omega) (by omega)
  have z1 : IntKind.i64.wrap (v + 1 + 1) = v + 1 + 1 := wrap_in (by omega) (by omega)
  have z2 : IntKind.i64.wrap (v + 1 + 1 + 1) = v + 1 + 1 + 1 := wrap_in (by omega) (by omega)
  have z3 : IntKind.i64.wrap (v + 1 + 1 + 1 + 1) = v + 1 + 1 + 1 + 1 := wrap_in (by omega) (by omega)
  have z4 : IntKind.i64.wrap (v + 1 + 1 + 1 + 1 + 1) = v + 1 + 1 + 1 + 1 + 1 := wrap_in (by omega) (by omega)
  have z5 : IntKind.i64.wrap (v + 1 + 1 + 1 + 1 + 1 + 1) = v + 1 + 1 + 1 + 1 + 1 + 1 := wrap_in (by omega) (by omega)
  refine ⟨v + 1 + 1 + 1 + 1 + 1 + 1, (v, v + 1, v + 1 + 1, v + 1 + 1 + 1, v + 1 + 1 + 1 + 1, t1), ⟨rfl, rfl, rfl, rfl, rfl, ht1, rfl⟩, by omega, by omega, fun m i xs hi hl ha => ?_⟩
  have hc : decide ((i : Int) < (xs.length : Int)) = true := by simpa using hi
  have hb : (0 : Int) ≤ (i : Int) ∧ (i : Int) < (xs.length : Int) := ⟨by omega, by omega⟩
  have hxl := hx.1
  have h3 : ((3 : Int) : Int) ≠ 0 := by decide
  rw [f89.l110, if_t hc]
  simp only [if_t hb, if_t h3, List.length_set, Int.toNat_natCast, gd_set_eq, hi, List.set_set, Option.bind_some, ha, wrap_s (n := i) (by omega), z0, z1, z2, z3, z4, z5, ht1]

def EBanS (k : Nat) (v : Int) (b : (Int × Int)) (c : Int) : Prop := (b.1 = v) ∧ (b.2 = v + 1) ∧ c = v + 1 + 1
abbrev KBanS (k : Nat) : Int → (List (Int × Int)) → Int → Prop := RowR ((0 : Int), (0 : Int)) (EBanS k)

/- laws.markBanS -/
theorem mk90 (k : Nat) (hk : 1048576 < k) (x : (List (Int × Int))) (hx : Sh.bd (.sl false 167 (.st (.pair (.int .i64) (.int .i64)))) x) : Mk (fun x v => f90 k x v) (KBanS k) 2097152 x := by
  refine markRow (d := ((0 : Int), (0 : Int))) (w := 2) hx.1 (L := f90.l26 k) (by decide) (fun a ha v h0 h1 => ?_) (fun m xs v => by rw [f90.l26, if_f (by simp)]) hk (by decide)

  have z0 : IntKind.i64.wrap (v + 1) = v + 1 := wrap_in (by omega) (by omega)
  have z1 : IntKind.i64.wrap (v + 1 + 1) = v + 1 + 1 := wrap_in (by omega) (by omega)
  refine ⟨v + 1 + 1, (v, v + 1), ⟨rfl, rfl, rfl⟩, by omega, by omega, fun m i xs hi hl ha => ?_⟩
  have hc : decide ((i : Int) < (xs.length : Int)) = true := by simpa using hi
  have hb : (0 : Int) ≤ (i : Int) ∧ (i : Int) < (xs.length : Int) := ⟨by omega, by omega⟩
  have hxl := hx.1
  have h3 : ((3 : Int) : Int) ≠ 0 := by decide
  rw [f90.l26, if_t hc]
  simp only [if_t hb, if_t h3, List.length_set, Int.toNat_natCast, gd_set_eq, hi, List.set_set, Option.bind_some, ha, wrap_s (n := i) (by omega), z0, z1]

def KGraph (k : Nat) (v : Int) (b : ((List (Int × (Int × Int))) × ((List (Int × (Int × (Int × (Int × (Int × ByteArray)))))) × (List (Int × Int))))) (c : Int) : Prop := ∃ c1 : Int, ∃ c2 : Int, ∃ c3 : Int, (KSpotS k v b.1 c1 ∧ v ≤ c1) ∧ (KRoadS k c1 b.2.1 c2 ∧ c1 ≤ c2) ∧ (KBanS k c2 b.2.2 c3 ∧ c2 ≤ c3) ∧ c = c3

/- laws.markGraph -/
theorem mk22 (k : Nat) (hk : 1048576 < k) (x : ((List (Int × (Int × Int))) × ((List (Int × (Int × (Int × (Int × (Int × ByteArray)))))) × (List (Int × Int))))) (hx : Sh.bd (.st (.pair (.sl false 176 (.st (.pair (.int .i64) (.st (.pair (.int .i64) (.int .i64)))))) (.pair (.sl false 110 (.st (.pair (.int .i64) (.pair (.int .i64) (.pair (.int .i64) (.pair (.int .i64) (.pair (.int .i64) .str))))))) (.sl false 167 (.st (.pair (.int .i64) (.int .i64))))))) x) : Mk (fun x v => f22 k x v) (KGraph k) 11534336 x := by
  intro v h0 h1
  obtain ⟨c1, y1, q1, r1, l1, u1⟩ := mk88 k hk x.1 hx.1 v (by omega) (by omega)
  have p1 : f88 k x.1 v = some (c1, y1) := q1
  obtain ⟨c2, y2, q2, r2, l2, u2⟩ := mk89 k hk x.2.1 hx.2.1 c1 (by omega) (by omega)
  have p2 : f89 k x.2.1 c1 = some (c2, y2) := q2
  obtain ⟨c3, y3, q3, r3, l3, u3⟩ := mk90 k hk x.2.2 hx.2.2 c2 (by omega) (by omega)
  have p3 : f90 k x.2.2 c2 = some (c3, y3) := q3
  refine ⟨c3, (y1, y2, y3), ?_, ⟨_, _, _, ⟨r1, l1⟩, ⟨r2, l2⟩, ⟨r3, l3⟩, rfl⟩, by omega, by omega⟩
  show f22 k x v = _
  unfold f22
  simp only [p1, p2, p3, Option.bind_some]

/- laws.heldSpotS -/
theorem hd128 (k : Nat) (hk : 1048576 < k) : Hd (fun y v => f128 k y v) (KSpotS k) := by
  refine heldRow (d := ((0 : Int), ((0 : Int), (0 : Int)))) (L := fun y => f128.l28 k y) (fun ys m i v c hi hl h0 h1 h2 hR => ?_) (fun ys m v => by rw [f128.l28, if_f (by simp)]) hk
  obtain ⟨e0, e1, e2, ec⟩ := hR
  have z0 : IntKind.i64.wrap (v + 1) = v + 1 := wrap_in (by omega) (by omega)
  have z1 : IntKind.i64.wrap (v + 1 + 1) = v + 1 + 1 := wrap_in (by omega) (by omega)
  have z2 : IntKind.i64.wrap (v + 1 + 1 + 1) = v + 1 + 1 + 1 := wrap_in (by omega) (by omega)
  have hc : decide ((i : Int) < (ys.length : Int)) = true := by simpa using hi
  have hb : (0 : Int) ≤ (i : Int) ∧ (i : Int) < (ys.length : Int) := ⟨by omega, by omega⟩
  have h3 : ((3 : Int) : Int) ≠ 0 := by decide
  subst ec
  rw [f128.l28, if_t hc]
  simp only [if_t hb, if_t h3, Int.toNat_natCast, Option.bind_some, z0, z1, z2, e0, e1, e2, wrap_s (n := i) (by omega), bne_self_eq_false, beq_self_eq_true, Bool.not_true, Bool.false_eq_true, if_false]

/- laws.heldRoadS -/
theorem hd129 (k : Nat) (hk : 1048576 < k) : Hd (fun y v => f129 k y v) (KRoadS k) := by
  refine heldRow (d := ((0 : Int), ((0 : Int), ((0 : Int), ((0 : Int), ((0 : Int), (⟨#[]⟩ : ByteArray))))))) (L := fun y => f129.l58 k y) (fun ys m i v c hi hl h0 h1 h2 hR => ?_) (fun ys m v => by rw [f129.l58, if_f (by simp)]) hk
  obtain ⟨e0, e1, e2, e3, e4, e5, ec⟩ := hR
  have z0 : IntKind.i64.wrap (v + 1) = v + 1 := wrap_in (by omega) (by omega)
  have z1 : IntKind.i64.wrap (v + 1 + 1) = v + 1 + 1 := wrap_in (by omega) (by omega)
  have z2 : IntKind.i64.wrap (v + 1 + 1 + 1) = v + 1 + 1 + 1 := wrap_in (by omega) (by omega)
  have z3 : IntKind.i64.wrap (v + 1 + 1 + 1 + 1) = v + 1 + 1 + 1 + 1 := wrap_in (by omega) (by omega)
  have z4 : IntKind.i64.wrap (v + 1 + 1 + 1 + 1 + 1) = v + 1 + 1 + 1 + 1 + 1 := wrap_in (by omega) (by omega)
  have z5 : IntKind.i64.wrap (v + 1 + 1 + 1 + 1 + 1 + 1) = v + 1 + 1 + 1 + 1 + 1 + 1 := wrap_in (by omega) (by omega)
  have hc : decide ((i : Int) < (ys.length : Int)) = true := by simpa using hi
  have hb : (0 : Int) ≤ (i : Int) ∧ (i : Int) < (ys.length : Int) := ⟨by omega, by omega⟩
  have h3 : ((3 : Int) : Int) ≠ 0 := by decide
  subst ec
  rw [f129.l58, if_t hc]
  simp only [if_t hb, if_t h3, Int.toNat_natCast, Option.bind_some, z0, z1, z2, z3, z4, z5, e0, e1, e2, e3, e4, e5, wrap_s (n := i) (by omega), bne_self_eq_false, beq_self_eq_true, Bool.not_true, Bool.false_eq_true, if_false]

/- laws.heldBanS -/
theorem hd130 (k : Nat) (hk : 1048576 < k) : Hd (fun y v => f130 k y v) (KBanS k) := by
  refine heldRow (d := ((0 : Int), (0 : Int))) (L := fun y => f130.l22 k y) (fun ys m i v c hi hl h0 h1 h2 hR => ?_) (fun ys m v => by rw [f130.l22, if_f (by simp)]) hk
  obtain ⟨e0, e1, ec⟩ := hR
  have z0 : IntKind.i64.wrap (v + 1) = v + 1 := wrap_in (by omega) (by omega)
  have z1 : IntKind.i64.wrap (v + 1 + 1) = v + 1 + 1 := wrap_in (by omega) (by omega)
  have hc : decide ((i : Int) < (ys.length : Int)) = true := by simpa using hi
  have hb : (0 : Int) ≤ (i : Int) ∧ (i : Int) < (ys.length : Int) := ⟨by omega, by omega⟩
  have h3 : ((3 : Int) : Int) ≠ 0 := by decide
  subst ec
  rw [f130.l22, if_t hc]
  simp only [if_t hb, if_t h3, Int.toNat_natCast, Option.bind_some, z0, z1, e0, e1, wrap_s (n := i) (by omega), bne_self_eq_false, beq_self_eq_true, Bool.not_true, Bool.false_eq_true, if_false]

/- laws.heldGraph -/
theorem hd57 (k : Nat) (hk : 1048576 < k) : Hd (fun y v => f57 k y v) (KGraph k) := by
  intro v y c h0 h1 h2 hR
  obtain ⟨c1, c2, c3, ⟨k1, l1⟩, ⟨k2, l2⟩, ⟨k3, l3⟩, ec⟩ := hR
  obtain rfl := ec.symm
  have p1 : f128 k y.1 v = some c1 := hd128 k hk v _ c1 (by omega) (by omega) (by omega) k1
  have n1 : ¬ (decide ((c1 : Int) < (0 : Int)) = true) := by simp; omega
  have p2 : f129 k y.2.1 c1 = some c2 := hd129 k hk c1 _ c2 (by omega) (by omega) (by omega) k2
  have n2 : ¬ (decide ((c2 : Int) < (0 : Int)) = true) := by simp; omega
  have p3 : f130 k y.2.2 c2 = some c3 := hd130 k hk c2 _ c3 (by omega) (by omega) (by omega) k3
  have n3 : ¬ (decide ((c3 : Int) < (0 : Int)) = true) := by simp; omega
  show f57 k y v = _
  unfold f57
  simp only [p1, if_f n1, p2, if_f n2, p3, if_f n3, Option.bind_some]
end Go.Proofs.Ytchbpdnaodicaaa.V
