/-
  No cell of these rows narrows 'for every input' (looked for: loops, veiled, ifaces, maps, wideKeys, modest, calm, conditions, laid).
  DERIVED. THE GIVEN ROWS OF THIS SEAT. 8 by the template 'for every input the law returns true; each argument reads behind the call as it read before'; 0 by the template 'total and deterministic' (their statements: YtnpaokckkbhdjaaTotals.lean).
  GIVEN WITH THE SEED: the statements are not yours to turn. If you find one false, say at which input.
  Laid BY PROGRAM, IN A SANDBOX (cutbox-rows.mjs): the forced cells as the released guide's own fill.sh prints them over the translation 13eaed17bdbc1192… (all of the seat's roots in one cut). By AI agents, Wed Nov 11 2026. No macro, syntax, notation, axiom, sorry.
-/
import Derived.Test.YtnpaokckkbhdjaaChecked
import GoSem.Claim
import GoSem.ClaimJoined
import GoSem.ClaimMapViews
import Derived.JoinedTies
import Derived.KernelRfl
namespace Go.Proofs.Ytnpaokckkbhdjaa
/- THE CELL 'sum', in the pinned program and in every row, IS THE sha256 OF THE DUMP (.gsa) THAT YtnpaokckkbhdjaaProg.lean LOADS. Nothing in Lean hashes anything: it is a label: what it is worth is what the hold of that sum in a sandbox is worth. -/
noncomputable def Try.pinned : Pinned := { name := "ytnpaokckkbhdjaa", sum := "13eaed17bdbc1192d762582647baf2ce7341436a1db3c5388314f89a49c6bed2", checked := Try.checked }
namespace Rows
def none {H : Type} : Left H := { results := [], args := [] }

/-- 'laws.FnExactPlace': WHATEVER THE INPUT: true; the input reads as it did. -/
def fnExactPlaceSpec : ChangeSpec := { name := "fnExactPlace", fn := fun _ => fun
  | [d1, d2] => { results := [.lit (.bool true)], args := [d1, d2] }
  | _ => none }
def fnExactPlaceRow : OpenClaim := { program := "ytnpaokckkbhdjaa", sum := "13eaed17bdbc1192d762582647baf2ce7341436a1db3c5388314f89a49c6bed2", func := "loop.example/g00024/laws.FnExactPlace", spec := "fnExactPlace", inPlace := ["internal/reflectlite.ValueOf", "internal/reflectlite.Swapper", "(internal/reflectlite.Value).Len"], unfollowed := true, recurses := true, plainKeys := false, apart := false }
def FnExactPlaceSaid : Prop := fnExactPlaceRow.holds Try.pinned (OpenSpec.ofChange fnExactPlaceSpec)

/-- ITS FALSE NEIGHBOUR: 'it returns false'. Refute it at one input. -/
def fnExactPlaceWrong : ChangeSpec := { name := "fnExactPlace", fn := fun _ => fun
  | [d1, d2] => { results := [.lit (.bool false)], args := [d1, d2] }
  | _ => none }
def FnExactPlaceWrongFalsely : Prop := fnExactPlaceRow.holds Try.pinned (OpenSpec.ofChange fnExactPlaceWrong)

/-- 'laws.FnExactSteady': WHATEVER THE INPUT: true; the input reads as it did. -/
def fnExactSteadySpec : ChangeSpec := { name := "fnExactSteady", fn := fun _ => fun
  | [d] => { results := [.lit (.bool true)], args := [d] }
  | _ => none }
def fnExactSteadyRow : OpenClaim := { program := "ytnpaokckkbhdjaa", sum := "13eaed17bdbc1192d762582647baf2ce7341436a1db3c5388314f89a49c6bed2", func := "loop.example/g00024/laws.FnExactSteady", spec := "fnExactSteady", inPlace := ["internal/reflectlite.ValueOf", "internal/reflectlite.Swapper", "(internal/reflectlite.Value).Len"], unfollowed := true, recurses := true, plainKeys := false, apart := false }
def FnExactSteadySaid : Prop := fnExactSteadyRow.holds Try.pinned (OpenSpec.ofChange fnExactSteadySpec)

/-- ITS FALSE NEIGHBOUR: 'it returns false'. Refute it at one input. -/
def fnExactSteadyWrong : ChangeSpec := { name := "fnExactSteady", fn := fun _ => fun
  | [d] => { results := [.lit (.bool false)], args := [d] }
  | _ => none }
def FnExactSteadyWrongFalsely : Prop := fnExactSteadyRow.holds Try.pinned (OpenSpec.ofChange fnExactSteadyWrong)

/-- 'laws.FnWeights': WHATEVER THE INPUT: true; the input reads as it did. -/
def fnWeightsSpec : ChangeSpec := { name := "fnWeights", fn := fun _ => fun
  | [d] => { results := [.lit (.bool true)], args := [d] }
  | _ => none }
def fnWeightsRow : OpenClaim := { program := "ytnpaokckkbhdjaa", sum := "13eaed17bdbc1192d762582647baf2ce7341436a1db3c5388314f89a49c6bed2", func := "loop.example/g00024/laws.FnWeights", spec := "fnWeights", inPlace := ["internal/reflectlite.ValueOf", "internal/reflectlite.Swapper", "(internal/reflectlite.Value).Len"], unfollowed := true, recurses := true, plainKeys := false, apart := false }
def FnWeightsSaid : Prop := fnWeightsRow.holds Try.pinned (OpenSpec.ofChange fnWeightsSpec)

/-- ITS FALSE NEIGHBOUR: 'it returns false'. Refute it at one input. -/
def fnWeightsWrong : ChangeSpec := { name := "fnWeights", fn := fun _ => fun
  | [d] => { results := [.lit (.bool false)], args := [d] }
  | _ => none }
def FnWeightsWrongFalsely : Prop := fnWeightsRow.holds Try.pinned (OpenSpec.ofChange fnWeightsWrong)

/-- 'laws.FnLabels': WHATEVER THE INPUT: true; the input reads as it did. -/
def fnLabelsSpec : ChangeSpec := { name := "fnLabels", fn := fun _ => fun
  | [d] => { results := [.lit (.bool true)], args := [d] }
  | _ => none }
def fnLabelsRow : OpenClaim := { program := "ytnpaokckkbhdjaa", sum := "13eaed17bdbc1192d762582647baf2ce7341436a1db3c5388314f89a49c6bed2", func := "loop.example/g00024/laws.FnLabels", spec := "fnLabels", inPlace := ["internal/reflectlite.ValueOf", "internal/reflectlite.Swapper", "(internal/reflectlite.Value).Len"], unfollowed := true, recurses := true, plainKeys := false, apart := false }
def FnLabelsSaid : Prop := fnLabelsRow.holds Try.pinned (OpenSpec.ofChange fnLabelsSpec)

/-- ITS FALSE NEIGHBOUR: 'it returns false'. Refute it at one input. -/
def fnLabelsWrong : ChangeSpec := { name := "fnLabels", fn := fun _ => fun
  | [d] => { results := [.lit (.bool false)], args := [d] }
  | _ => none }
def FnLabelsWrongFalsely : Prop := fnLabelsRow.holds Try.pinned (OpenSpec.ofChange fnLabelsWrong)

/-- 'laws.FnExactWithin': WHATEVER THE INPUT: true; the input reads as it did. -/
def fnExactWithinSpec : ChangeSpec := { name := "fnExactWithin", fn := fun _ => fun
  | [d1, d2, d3] => { results := [.lit (.bool true)], args := [d1, d2, d3] }
  | _ => none }
def fnExactWithinRow : OpenClaim := { program := "ytnpaokckkbhdjaa", sum := "13eaed17bdbc1192d762582647baf2ce7341436a1db3c5388314f89a49c6bed2", func := "loop.example/g00024/laws.FnExactWithin", spec := "fnExactWithin", inPlace := ["internal/reflectlite.ValueOf", "internal/reflectlite.Swapper", "(internal/reflectlite.Value).Len"], unfollowed := true, recurses := true, plainKeys := false, apart := false }
def FnExactWithinSaid : Prop := fnExactWithinRow.holds Try.pinned (OpenSpec.ofChange fnExactWithinSpec)

/-- ITS FALSE NEIGHBOUR: 'it returns false'. Refute it at one input. -/
def fnExactWithinWrong : ChangeSpec := { name := "fnExactWithin", fn := fun _ => fun
  | [d1, d2, d3] => { results := [.lit (.bool false)], args := [d1, d2, d3] }
  | _ => none }
def FnExactWithinWrongFalsely : Prop := fnExactWithinRow.holds Try.pinned (OpenSpec.ofChange fnExactWithinWrong)

/-- 'laws.FnExactStrokes': WHATEVER THE INPUT: true; the input reads as it did. -/
def fnExactStrokesSpec : ChangeSpec := { name := "fnExactStrokes", fn := fun _ => fun
  | [d1, d2] => { results := [.lit (.bool true)], args := [d1, d2] }
  | _ => none }
def fnExactStrokesRow : OpenClaim := { program := "ytnpaokckkbhdjaa", sum := "13eaed17bdbc1192d762582647baf2ce7341436a1db3c5388314f89a49c6bed2", func := "loop.example/g00024/laws.FnExactStrokes", spec := "fnExactStrokes", inPlace := ["internal/reflectlite.ValueOf", "internal/reflectlite.Swapper", "(internal/reflectlite.Value).Len"], unfollowed := true, recurses := true, plainKeys := false, apart := false }
def FnExactStrokesSaid : Prop := fnExactStrokesRow.holds Try.pinned (OpenSpec.ofChange fnExactStrokesSpec)

/-- ITS FALSE NEIGHBOUR: 'it returns false'. Refute it at one input. -/
def fnExactStrokesWrong : ChangeSpec := { name := "fnExactStrokes", fn := fun _ => fun
  | [d1, d2] => { results := [.lit (.bool false)], args := [d1, d2] }
  | _ => none }
def FnExactStrokesWrongFalsely : Prop := fnExactStrokesRow.holds Try.pinned (OpenSpec.ofChange fnExactStrokesWrong)

/-- 'laws.FnExactNoBack': WHATEVER THE INPUT: true; the input reads as it did. -/
def fnExactNoBackSpec : ChangeSpec := { name := "fnExactNoBack", fn := fun _ => fun
  | [d] => { results := [.lit (.bool true)], args := [d] }
  | _ => none }
def fnExactNoBackRow : OpenClaim := { program := "ytnpaokckkbhdjaa", sum := "13eaed17bdbc1192d762582647baf2ce7341436a1db3c5388314f89a49c6bed2", func := "loop.example/g00024/laws.FnExactNoBack", spec := "fnExactNoBack", inPlace := ["internal/reflectlite.ValueOf", "internal/reflectlite.Swapper", "(internal/reflectlite.Value).Len"], unfollowed := true, recurses := true, plainKeys := false, apart := false }
def FnExactNoBackSaid : Prop := fnExactNoBackRow.holds Try.pinned (OpenSpec.ofChange fnExactNoBackSpec)

/-- ITS FALSE NEIGHBOUR: 'it returns false'. Refute it at one input. -/
def fnExactNoBackWrong : ChangeSpec := { name := "fnExactNoBack", fn := fun _ => fun
  | [d] => { results := [.lit (.bool false)], args := [d] }
  | _ => none }
def FnExactNoBackWrongFalsely : Prop := fnExactNoBackRow.holds Try.pinned (OpenSpec.ofChange fnExactNoBackWrong)

/-- 'laws.FnExactForbid': WHATEVER THE INPUT: true; the input reads as it did. -/
def fnExactForbidSpec : ChangeSpec := { name := "fnExactForbid", fn := fun _ => fun
  | [d1, d2] => { results := [.lit (.bool true)], args := [d1, d2] }
  | _ => none }
def fnExactForbidRow : OpenClaim := { program := "ytnpaokckkbhdjaa", sum := "13eaed17bdbc1192d762582647baf2ce7341436a1db3c5388314f89a49c6bed2", func := "loop.example/g00024/laws.FnExactForbid", spec := "fnExactForbid", inPlace := ["internal/reflectlite.ValueOf", "internal/reflectlite.Swapper", "(internal/reflectlite.Value).Len"], unfollowed := true, recurses := true, plainKeys := false, apart := false }
def FnExactForbidSaid : Prop := fnExactForbidRow.holds Try.pinned (OpenSpec.ofChange fnExactForbidSpec)

/-- ITS FALSE NEIGHBOUR: 'it returns false'. Refute it at one input. -/
def fnExactForbidWrong : ChangeSpec := { name := "fnExactForbid", fn := fun _ => fun
  | [d1, d2] => { results := [.lit (.bool false)], args := [d1, d2] }
  | _ => none }
def FnExactForbidWrongFalsely : Prop := fnExactForbidRow.holds Try.pinned (OpenSpec.ofChange fnExactForbidWrong)

/- THE SECOND FORM. 'bulk': how many values and letters a reading holds, each counted each time it is reached (what is shared counts as often as it is met; a slice's spare places count too). A statement '..UptoSaid' is the law's where the arguments, and the package variables that the reading takes, are together of bulk at most 1048576: NARROWER than '..Said'. Prove '..Said' where nothing that the law and all that it calls make is longer than what came in: it says more and counts as full. Else prove '..UptoSaid'. A law counts once. -/
mutual
def uptoBulk {H : Type} : DataW H → Nat
  | .lit (.string bytes) => bytes.length + 1
  | .lit _ => 1
  | .nil => 1
  | .ptr d => uptoBulk d + 1
  | .slice elems spare => uptoBulkAll elems + uptoBulkAll spare + 1
  | .agg parts => uptoBulkAll parts + 1
  | .iface _ d => uptoBulk d + 1
  | .map entries => uptoBulkEntries entries + 1
  | .held _ => 1
def uptoBulkAll {H : Type} : List (DataW H) → Nat
  | [] => 0
  | d :: r => uptoBulk d + uptoBulkAll r
def uptoBulkEntries {H : Type} : List (Lit × DataW H) → Nat
  | [] => 0
  | x :: r => uptoBulkEntry x + uptoBulkEntries r
def uptoBulkEntry {H : Type} : Lit × DataW H → Nat
  | (.string bytes, d) => bytes.length + uptoBulk d + 1
  | (_, d) => uptoBulk d + 1
 end
def uptoSmall : (H : Type) → List (DataW H) → Bool := fun _ ds => decide (uptoBulkAll ds ≤ 1048576)
def OpenSpec.upto (s : _root_.Go.ChangeSpec) : _root_.Go.OpenSpec := { _root_.Go.OpenSpec.ofChange s with cond := some uptoSmall }

/-- 'laws.FnExactPlace', WHERE WHAT IT READS IS OF BULK AT MOST 1048576: true; the input reads as it did. -/
def fnExactPlaceUptoRow : OpenClaim := { program := "ytnpaokckkbhdjaa", sum := "13eaed17bdbc1192d762582647baf2ce7341436a1db3c5388314f89a49c6bed2", func := "loop.example/g00024/laws.FnExactPlace", spec := "fnExactPlace", inPlace := ["internal/reflectlite.ValueOf", "internal/reflectlite.Swapper", "(internal/reflectlite.Value).Len"], unfollowed := true, recurses := true, plainKeys := false, apart := false, narrowed := true }
def FnExactPlaceUptoSaid : Prop := fnExactPlaceUptoRow.holds Try.pinned (OpenSpec.upto fnExactPlaceSpec)

/-- 'laws.FnExactSteady', WHERE WHAT IT READS IS OF BULK AT MOST 1048576: true; the input reads as it did. -/
def fnExactSteadyUptoRow : OpenClaim := { program := "ytnpaokckkbhdjaa", sum := "13eaed17bdbc1192d762582647baf2ce7341436a1db3c5388314f89a49c6bed2", func := "loop.example/g00024/laws.FnExactSteady", spec := "fnExactSteady", inPlace := ["internal/reflectlite.ValueOf", "internal/reflectlite.Swapper", "(internal/reflectlite.Value).Len"], unfollowed := true, recurses := true, plainKeys := false, apart := false, narrowed := true }
def FnExactSteadyUptoSaid : Prop := fnExactSteadyUptoRow.holds Try.pinned (OpenSpec.upto fnExactSteadySpec)

/-- 'laws.FnWeights', WHERE WHAT IT READS IS OF BULK AT MOST 1048576: true; the input reads as it did. -/
def fnWeightsUptoRow : OpenClaim := { program := "ytnpaokckkbhdjaa", sum := "13eaed17bdbc1192d762582647baf2ce7341436a1db3c5388314f89a49c6bed2", func := "loop.example/g00024/laws.FnWeights", spec := "fnWeights", inPlace := ["internal/reflectlite.ValueOf", "internal/reflectlite.Swapper", "(internal/reflectlite.Value).Len"], unfollowed := true, recurses := true, plainKeys := false, apart := false, narrowed := true }
def FnWeightsUptoSaid : Prop := fnWeightsUptoRow.holds Try.pinned (OpenSpec.upto fnWeightsSpec)

/-- 'laws.FnLabels', WHERE WHAT IT READS IS OF BULK AT MOST 1048576: true; the input reads as it did. -/
def fnLabelsUptoRow : OpenClaim := { program := "ytnpaokckkbhdjaa", sum := "13eaed17bdbc1192d762582647baf2ce7341436a1db3c5388314f89a49c6bed2", func := "loop.example/g00024/laws.FnLabels", spec := "fnLabels", inPlace := ["internal/reflectlite.ValueOf", "internal/reflectlite.Swapper", "(internal/reflectlite.Value).Len"], unfollowed := true, recurses := true, plainKeys := false, apart := false, narrowed := true }
def FnLabelsUptoSaid : Prop := fnLabelsUptoRow.holds Try.pinned (OpenSpec.upto fnLabelsSpec)

/-- 'laws.FnExactWithin', WHERE WHAT IT READS IS OF BULK AT MOST 1048576: true; the input reads as it did. -/
def fnExactWithinUptoRow : OpenClaim := { program := "ytnpaokckkbhdjaa", sum := "13eaed17bdbc1192d762582647baf2ce7341436a1db3c5388314f89a49c6bed2", func := "loop.example/g00024/laws.FnExactWithin", spec := "fnExactWithin", inPlace := ["internal/reflectlite.ValueOf", "internal/reflectlite.Swapper", "(internal/reflectlite.Value).Len"], unfollowed := true, recurses := true, plainKeys := false, apart := false, narrowed := true }
def FnExactWithinUptoSaid : Prop := fnExactWithinUptoRow.holds Try.pinned (OpenSpec.upto fnExactWithinSpec)

/-- 'laws.FnExactStrokes', WHERE WHAT IT READS IS OF BULK AT MOST 1048576: true; the input reads as it did. -/
def fnExactStrokesUptoRow : OpenClaim := { program := "ytnpaokckkbhdjaa", sum := "13eaed17bdbc1192d762582647baf2ce7341436a1db3c5388314f89a49c6bed2", func := "loop.example/g00024/laws.FnExactStrokes", spec := "fnExactStrokes", inPlace := ["internal/reflectlite.ValueOf", "internal/reflectlite.Swapper", "(internal/reflectlite.Value).Len"], unfollowed := true, recurses := true, plainKeys := false, apart := false, narrowed := true }
def FnExactStrokesUptoSaid : Prop := fnExactStrokesUptoRow.holds Try.pinned (OpenSpec.upto fnExactStrokesSpec)

/-- 'laws.FnExactNoBack', WHERE WHAT IT READS IS OF BULK AT MOST 1048576: true; the input reads as it did. -/
def fnExactNoBackUptoRow : OpenClaim := { program := "ytnpaokckkbhdjaa", sum := "13eaed17bdbc1192d762582647baf2ce7341436a1db3c5388314f89a49c6bed2", func := "loop.example/g00024/laws.FnExactNoBack", spec := "fnExactNoBack", inPlace := ["internal/reflectlite.ValueOf", "internal/reflectlite.Swapper", "(internal/reflectlite.Value).Len"], unfollowed := true, recurses := true, plainKeys := false, apart := false, narrowed := true }
def FnExactNoBackUptoSaid : Prop := fnExactNoBackUptoRow.holds Try.pinned (OpenSpec.upto fnExactNoBackSpec)

/-- 'laws.FnExactForbid', WHERE WHAT IT READS IS OF BULK AT MOST 1048576: true; the input reads as it did. -/
def fnExactForbidUptoRow : OpenClaim := { program := "ytnpaokckkbhdjaa", sum := "13eaed17bdbc1192d762582647baf2ce7341436a1db3c5388314f89a49c6bed2", func := "loop.example/g00024/laws.FnExactForbid", spec := "fnExactForbid", inPlace := ["internal/reflectlite.ValueOf", "internal/reflectlite.Swapper", "(internal/reflectlite.Value).Len"], unfollowed := true, recurses := true, plainKeys := false, apart := false, narrowed := true }
def FnExactForbidUptoSaid : Prop := fnExactForbidUptoRow.holds Try.pinned (OpenSpec.upto fnExactForbidSpec)

end Rows
end Go.Proofs.Ytnpaokckkbhdjaa
