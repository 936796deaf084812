/-
  No cell of these rows narrows 'for every input' (looked for: loops, veiled, ifaces, maps, wideKeys, modest, calm, conditions, laid).
  DERIVED. THE GIVEN ROWS OF THIS SEAT. 12 by the template 'for every input the law returns true; each argument reads behind the call as it read before'; 0 by the template 'total and deterministic' (their statements: YtijlnlonlmcdoaaTotals.lean).
  GIVEN WITH THE SEED: the statements are not yours to turn. If you find one false, say at which input.
  Laid BY PROGRAM, IN A SANDBOX (cutbox-rows.mjs): the forced cells as the released guide's own fill.sh prints them over the translation accf29390b434b4b… (all of the seat's roots in one cut). By AI agents, Wed Nov 11 2026. No macro, syntax, notation, axiom, sorry.
-/
import Derived.Test.YtijlnlonlmcdoaaChecked
import GoSem.Claim
import GoSem.ClaimJoined
import GoSem.ClaimMapViews
import Derived.JoinedTies
import Derived.KernelRfl
namespace Go.Proofs.Ytijlnlonlmcdoaa
/- THE CELL 'sum', in the pinned program and in every row, IS THE sha256 OF THE DUMP (.gsa) THAT YtijlnlonlmcdoaaProg.lean LOADS. Nothing in Lean hashes anything: it is a label: what it is worth is what the hold of that sum in a sandbox is worth. -/
noncomputable def Try.pinned : Pinned := { name := "ytijlnlonlmcdoaa", sum := "accf29390b434b4b32932d1d77f01dba96f8db9085bcb867dd66f9cf97159f3d", checked := Try.checked }
namespace Rows
def none {H : Type} : Left H := { results := [], args := [] }

/-- 'laws.FnExactOverlap': WHATEVER THE INPUT: true; the input reads as it did. -/
def fnExactOverlapSpec : ChangeSpec := { name := "fnExactOverlap", fn := fun _ => fun
  | [d1, d2] => { results := [.lit (.bool true)], args := [d1, d2] }
  | _ => none }
def fnExactOverlapRow : OpenClaim := { program := "ytijlnlonlmcdoaa", sum := "accf29390b434b4b32932d1d77f01dba96f8db9085bcb867dd66f9cf97159f3d", func := "loop.example/g00024/laws.FnExactOverlap", spec := "fnExactOverlap", apart := false }
def FnExactOverlapSaid : Prop := fnExactOverlapRow.holds Try.pinned (OpenSpec.ofChange fnExactOverlapSpec)

/-- ITS FALSE NEIGHBOUR: 'it returns false'. Refute it at one input. -/
def fnExactOverlapWrong : ChangeSpec := { name := "fnExactOverlap", fn := fun _ => fun
  | [d1, d2] => { results := [.lit (.bool false)], args := [d1, d2] }
  | _ => none }
def FnExactOverlapWrongFalsely : Prop := fnExactOverlapRow.holds Try.pinned (OpenSpec.ofChange fnExactOverlapWrong)

/-- 'laws.FnExactOneway': WHATEVER THE INPUT: true; the input reads as it did. -/
def fnExactOnewaySpec : ChangeSpec := { name := "fnExactOneway", fn := fun _ => fun
  | [d1, d2] => { results := [.lit (.bool true)], args := [d1, d2] }
  | _ => none }
def fnExactOnewayRow : OpenClaim := { program := "ytijlnlonlmcdoaa", sum := "accf29390b434b4b32932d1d77f01dba96f8db9085bcb867dd66f9cf97159f3d", func := "loop.example/g00024/laws.FnExactOneway", spec := "fnExactOneway", apart := false }
def FnExactOnewaySaid : Prop := fnExactOnewayRow.holds Try.pinned (OpenSpec.ofChange fnExactOnewaySpec)

/-- ITS FALSE NEIGHBOUR: 'it returns false'. Refute it at one input. -/
def fnExactOnewayWrong : ChangeSpec := { name := "fnExactOneway", fn := fun _ => fun
  | [d1, d2] => { results := [.lit (.bool false)], args := [d1, d2] }
  | _ => none }
def FnExactOnewayWrongFalsely : Prop := fnExactOnewayRow.holds Try.pinned (OpenSpec.ofChange fnExactOnewayWrong)

/-- 'laws.FnExactLabelsOk': WHATEVER THE INPUT: true; the input reads as it did. -/
def fnExactLabelsOkSpec : ChangeSpec := { name := "fnExactLabelsOk", fn := fun _ => fun
  | [d] => { results := [.lit (.bool true)], args := [d] }
  | _ => none }
def fnExactLabelsOkRow : OpenClaim := { program := "ytijlnlonlmcdoaa", sum := "accf29390b434b4b32932d1d77f01dba96f8db9085bcb867dd66f9cf97159f3d", func := "loop.example/g00024/laws.FnExactLabelsOk", spec := "fnExactLabelsOk", apart := false }
def FnExactLabelsOkSaid : Prop := fnExactLabelsOkRow.holds Try.pinned (OpenSpec.ofChange fnExactLabelsOkSpec)

/-- ITS FALSE NEIGHBOUR: 'it returns false'. Refute it at one input. -/
def fnExactLabelsOkWrong : ChangeSpec := { name := "fnExactLabelsOk", fn := fun _ => fun
  | [d] => { results := [.lit (.bool false)], args := [d] }
  | _ => none }
def FnExactLabelsOkWrongFalsely : Prop := fnExactLabelsOkRow.holds Try.pinned (OpenSpec.ofChange fnExactLabelsOkWrong)

/-- 'laws.FnExactSpeedOf': WHATEVER THE INPUT: true; the input reads as it did. -/
def fnExactSpeedOfSpec : ChangeSpec := { name := "fnExactSpeedOf", fn := fun _ => fun
  | [d1, d2] => { results := [.lit (.bool true)], args := [d1, d2] }
  | _ => none }
def fnExactSpeedOfRow : OpenClaim := { program := "ytijlnlonlmcdoaa", sum := "accf29390b434b4b32932d1d77f01dba96f8db9085bcb867dd66f9cf97159f3d", func := "loop.example/g00024/laws.FnExactSpeedOf", spec := "fnExactSpeedOf", apart := false }
def FnExactSpeedOfSaid : Prop := fnExactSpeedOfRow.holds Try.pinned (OpenSpec.ofChange fnExactSpeedOfSpec)

/-- ITS FALSE NEIGHBOUR: 'it returns false'. Refute it at one input. -/
def fnExactSpeedOfWrong : ChangeSpec := { name := "fnExactSpeedOf", fn := fun _ => fun
  | [d1, d2] => { results := [.lit (.bool false)], args := [d1, d2] }
  | _ => none }
def FnExactSpeedOfWrongFalsely : Prop := fnExactSpeedOfRow.holds Try.pinned (OpenSpec.ofChange fnExactSpeedOfWrong)

/-- 'laws.FnExactQuantise': WHATEVER THE INPUT: true; the input reads as it did. -/
def fnExactQuantiseSpec : ChangeSpec := { name := "fnExactQuantise", fn := fun _ => fun
  | [d1, d2] => { results := [.lit (.bool true)], args := [d1, d2] }
  | _ => none }
def fnExactQuantiseRow : OpenClaim := { program := "ytijlnlonlmcdoaa", sum := "accf29390b434b4b32932d1d77f01dba96f8db9085bcb867dd66f9cf97159f3d", func := "loop.example/g00024/laws.FnExactQuantise", spec := "fnExactQuantise", apart := false }
def FnExactQuantiseSaid : Prop := fnExactQuantiseRow.holds Try.pinned (OpenSpec.ofChange fnExactQuantiseSpec)

/-- ITS FALSE NEIGHBOUR: 'it returns false'. Refute it at one input. -/
def fnExactQuantiseWrong : ChangeSpec := { name := "fnExactQuantise", fn := fun _ => fun
  | [d1, d2] => { results := [.lit (.bool false)], args := [d1, d2] }
  | _ => none }
def FnExactQuantiseWrongFalsely : Prop := fnExactQuantiseRow.holds Try.pinned (OpenSpec.ofChange fnExactQuantiseWrong)

/-- 'laws.FnExactWeight': WHATEVER THE INPUT: true; the input reads as it did. -/
def fnExactWeightSpec : ChangeSpec := { name := "fnExactWeight", fn := fun _ => fun
  | [d1, d2] => { results := [.lit (.bool true)], args := [d1, d2] }
  | _ => none }
def fnExactWeightRow : OpenClaim := { program := "ytijlnlonlmcdoaa", sum := "accf29390b434b4b32932d1d77f01dba96f8db9085bcb867dd66f9cf97159f3d", func := "loop.example/g00024/laws.FnExactWeight", spec := "fnExactWeight", apart := false }
def FnExactWeightSaid : Prop := fnExactWeightRow.holds Try.pinned (OpenSpec.ofChange fnExactWeightSpec)

/-- ITS FALSE NEIGHBOUR: 'it returns false'. Refute it at one input. -/
def fnExactWeightWrong : ChangeSpec := { name := "fnExactWeight", fn := fun _ => fun
  | [d1, d2] => { results := [.lit (.bool false)], args := [d1, d2] }
  | _ => none }
def FnExactWeightWrongFalsely : Prop := fnExactWeightRow.holds Try.pinned (OpenSpec.ofChange fnExactWeightWrong)

/-- 'laws.FnTilesOf': WHATEVER THE INPUT: true; the input reads as it did. -/
def fnTilesOfSpec : ChangeSpec := { name := "fnTilesOf", fn := fun _ => fun
  | [d] => { results := [.lit (.bool true)], args := [d] }
  | _ => none }
def fnTilesOfRow : OpenClaim := { program := "ytijlnlonlmcdoaa", sum := "accf29390b434b4b32932d1d77f01dba96f8db9085bcb867dd66f9cf97159f3d", func := "loop.example/g00024/laws.FnTilesOf", spec := "fnTilesOf", unfollowed := true, recurses := true, apart := false }
def FnTilesOfSaid : Prop := fnTilesOfRow.holds Try.pinned (OpenSpec.ofChange fnTilesOfSpec)

/-- ITS FALSE NEIGHBOUR: 'it returns false'. Refute it at one input. -/
def fnTilesOfWrong : ChangeSpec := { name := "fnTilesOf", fn := fun _ => fun
  | [d] => { results := [.lit (.bool false)], args := [d] }
  | _ => none }
def FnTilesOfWrongFalsely : Prop := fnTilesOfRow.holds Try.pinned (OpenSpec.ofChange fnTilesOfWrong)

/-- 'laws.FnExactSpaced': WHATEVER THE INPUT: true; the input reads as it did. -/
def fnExactSpacedSpec : ChangeSpec := { name := "fnExactSpaced", fn := fun _ => fun
  | [d1, d2] => { results := [.lit (.bool true)], args := [d1, d2] }
  | _ => none }
def fnExactSpacedRow : OpenClaim := { program := "ytijlnlonlmcdoaa", sum := "accf29390b434b4b32932d1d77f01dba96f8db9085bcb867dd66f9cf97159f3d", func := "loop.example/g00024/laws.FnExactSpaced", spec := "fnExactSpaced", apart := false }
def FnExactSpacedSaid : Prop := fnExactSpacedRow.holds Try.pinned (OpenSpec.ofChange fnExactSpacedSpec)

/-- ITS FALSE NEIGHBOUR: 'it returns false'. Refute it at one input. -/
def fnExactSpacedWrong : ChangeSpec := { name := "fnExactSpaced", fn := fun _ => fun
  | [d1, d2] => { results := [.lit (.bool false)], args := [d1, d2] }
  | _ => none }
def FnExactSpacedWrongFalsely : Prop := fnExactSpacedRow.holds Try.pinned (OpenSpec.ofChange fnExactSpacedWrong)

/-- 'laws.FnExactApplies': WHATEVER THE INPUT: true; the input reads as it did. -/
def fnExactAppliesSpec : ChangeSpec := { name := "fnExactApplies", fn := fun _ => fun
  | [d1, d2, d3] => { results := [.lit (.bool true)], args := [d1, d2, d3] }
  | _ => none }
def fnExactAppliesRow : OpenClaim := { program := "ytijlnlonlmcdoaa", sum := "accf29390b434b4b32932d1d77f01dba96f8db9085bcb867dd66f9cf97159f3d", func := "loop.example/g00024/laws.FnExactApplies", spec := "fnExactApplies", apart := false }
def FnExactAppliesSaid : Prop := fnExactAppliesRow.holds Try.pinned (OpenSpec.ofChange fnExactAppliesSpec)

/-- ITS FALSE NEIGHBOUR: 'it returns false'. Refute it at one input. -/
def fnExactAppliesWrong : ChangeSpec := { name := "fnExactApplies", fn := fun _ => fun
  | [d1, d2, d3] => { results := [.lit (.bool false)], args := [d1, d2, d3] }
  | _ => none }
def FnExactAppliesWrongFalsely : Prop := fnExactAppliesRow.holds Try.pinned (OpenSpec.ofChange fnExactAppliesWrong)

/-- 'laws.FnExactGraphOk': WHATEVER THE INPUT: true; the input reads as it did. -/
def fnExactGraphOkSpec : ChangeSpec := { name := "fnExactGraphOk", fn := fun _ => fun
  | [d] => { results := [.lit (.bool true)], args := [d] }
  | _ => none }
def fnExactGraphOkRow : OpenClaim := { program := "ytijlnlonlmcdoaa", sum := "accf29390b434b4b32932d1d77f01dba96f8db9085bcb867dd66f9cf97159f3d", func := "loop.example/g00024/laws.FnExactGraphOk", spec := "fnExactGraphOk", apart := false }
def FnExactGraphOkSaid : Prop := fnExactGraphOkRow.holds Try.pinned (OpenSpec.ofChange fnExactGraphOkSpec)

/-- ITS FALSE NEIGHBOUR: 'it returns false'. Refute it at one input. -/
def fnExactGraphOkWrong : ChangeSpec := { name := "fnExactGraphOk", fn := fun _ => fun
  | [d] => { results := [.lit (.bool false)], args := [d] }
  | _ => none }
def FnExactGraphOkWrongFalsely : Prop := fnExactGraphOkRow.holds Try.pinned (OpenSpec.ofChange fnExactGraphOkWrong)

/-- 'laws.FnExactFleetOk': WHATEVER THE INPUT: true; the input reads as it did. -/
def fnExactFleetOkSpec : ChangeSpec := { name := "fnExactFleetOk", fn := fun _ => fun
  | [d1, d2] => { results := [.lit (.bool true)], args := [d1, d2] }
  | _ => none }
def fnExactFleetOkRow : OpenClaim := { program := "ytijlnlonlmcdoaa", sum := "accf29390b434b4b32932d1d77f01dba96f8db9085bcb867dd66f9cf97159f3d", func := "loop.example/g00024/laws.FnExactFleetOk", spec := "fnExactFleetOk", apart := false }
def FnExactFleetOkSaid : Prop := fnExactFleetOkRow.holds Try.pinned (OpenSpec.ofChange fnExactFleetOkSpec)

/-- ITS FALSE NEIGHBOUR: 'it returns false'. Refute it at one input. -/
def fnExactFleetOkWrong : ChangeSpec := { name := "fnExactFleetOk", fn := fun _ => fun
  | [d1, d2] => { results := [.lit (.bool false)], args := [d1, d2] }
  | _ => none }
def FnExactFleetOkWrongFalsely : Prop := fnExactFleetOkRow.holds Try.pinned (OpenSpec.ofChange fnExactFleetOkWrong)

/-- 'laws.FnExactPaint': WHATEVER THE INPUT: true; the input reads as it did. -/
def fnExactPaintSpec : ChangeSpec := { name := "fnExactPaint", fn := fun _ => fun
  | [d1, d2, d3] => { results := [.lit (.bool true)], args := [d1, d2, d3] }
  | _ => none }
def fnExactPaintRow : OpenClaim := { program := "ytijlnlonlmcdoaa", sum := "accf29390b434b4b32932d1d77f01dba96f8db9085bcb867dd66f9cf97159f3d", func := "loop.example/g00024/laws.FnExactPaint", spec := "fnExactPaint", apart := false }
def FnExactPaintSaid : Prop := fnExactPaintRow.holds Try.pinned (OpenSpec.ofChange fnExactPaintSpec)

/-- ITS FALSE NEIGHBOUR: 'it returns false'. Refute it at one input. -/
def fnExactPaintWrong : ChangeSpec := { name := "fnExactPaint", fn := fun _ => fun
  | [d1, d2, d3] => { results := [.lit (.bool false)], args := [d1, d2, d3] }
  | _ => none }
def FnExactPaintWrongFalsely : Prop := fnExactPaintRow.holds Try.pinned (OpenSpec.ofChange fnExactPaintWrong)

/- THE SECOND FORM. 'bulk': how many values and letters a reading holds, each counted each time it is reached (what is shared counts as often as it is met; a slice's spare places count too). A statement '..UptoSaid' is the law's where the arguments, and the package variables that the reading takes, are together of bulk at most 1048576: NARROWER than '..Said'. Prove '..Said' where nothing that the law and all that it calls make is longer than what came in: it says more and counts as full. Else prove '..UptoSaid'. A law counts once. -/
mutual
def uptoBulk {H : Type} : DataW H → Nat
  | .lit (.string bytes) => bytes.length + 1
  | .lit _ => 1
  | .nil => 1
  | .ptr d => uptoBulk d + 1
  | .slice elems spare => uptoBulkAll elems + uptoBulkAll spare + 1
  | .agg parts => uptoBulkAll parts + 1
  | .iface _ d => uptoBulk d + 1
  | .map entries => uptoBulkEntries entries + 1
  | .held _ => 1
def uptoBulkAll {H : Type} : List (DataW H) → Nat
  | [] => 0
  | d :: r => uptoBulk d + uptoBulkAll r
def uptoBulkEntries {H : Type} : List (Lit × DataW H) → Nat
  | [] => 0
  | x :: r => uptoBulkEntry x + uptoBulkEntries r
def uptoBulkEntry {H : Type} : Lit × DataW H → Nat
  | (.string bytes, d) => bytes.length + uptoBulk d + 1
  | (_, d) => uptoBulk d + 1
 end
def uptoSmall : (H : Type) → List (DataW H) → Bool := fun _ ds => decide (uptoBulkAll ds ≤ 1048576)
def OpenSpec.upto (s : _root_.Go.ChangeSpec) : _root_.Go.OpenSpec := { _root_.Go.OpenSpec.ofChange s with cond := some uptoSmall }

/-- 'laws.FnExactOverlap', WHERE WHAT IT READS IS OF BULK AT MOST 1048576: true; the input reads as it did. -/
def fnExactOverlapUptoRow : OpenClaim := { program := "ytijlnlonlmcdoaa", sum := "accf29390b434b4b32932d1d77f01dba96f8db9085bcb867dd66f9cf97159f3d", func := "loop.example/g00024/laws.FnExactOverlap", spec := "fnExactOverlap", apart := false, narrowed := true }
def FnExactOverlapUptoSaid : Prop := fnExactOverlapUptoRow.holds Try.pinned (OpenSpec.upto fnExactOverlapSpec)

/-- 'laws.FnExactOneway', WHERE WHAT IT READS IS OF BULK AT MOST 1048576: true; the input reads as it did. -/
def fnExactOnewayUptoRow : OpenClaim := { program := "ytijlnlonlmcdoaa", sum := "accf29390b434b4b32932d1d77f01dba96f8db9085bcb867dd66f9cf97159f3d", func := "loop.example/g00024/laws.FnExactOneway", spec := "fnExactOneway", apart := false, narrowed := true }
def FnExactOnewayUptoSaid : Prop := fnExactOnewayUptoRow.holds Try.pinned (OpenSpec.upto fnExactOnewaySpec)

/-- 'laws.FnExactLabelsOk', WHERE WHAT IT READS IS OF BULK AT MOST 1048576: true; the input reads as it did. -/
def fnExactLabelsOkUptoRow : OpenClaim := { program := "ytijlnlonlmcdoaa", sum := "accf29390b434b4b32932d1d77f01dba96f8db9085bcb867dd66f9cf97159f3d", func := "loop.example/g00024/laws.FnExactLabelsOk", spec := "fnExactLabelsOk", apart := false, narrowed := true }
def FnExactLabelsOkUptoSaid : Prop := fnExactLabelsOkUptoRow.holds Try.pinned (OpenSpec.upto fnExactLabelsOkSpec)

/-- 'laws.FnExactSpeedOf', WHERE WHAT IT READS IS OF BULK AT MOST 1048576: true; the input reads as it did. -/
def fnExactSpeedOfUptoRow : OpenClaim := { program := "ytijlnlonlmcdoaa", sum := "accf29390b434b4b32932d1d77f01dba96f8db9085bcb867dd66f9cf97159f3d", func := "loop.example/g00024/laws.FnExactSpeedOf", spec := "fnExactSpeedOf", apart := false, narrowed := true }
def FnExactSpeedOfUptoSaid : Prop := fnExactSpeedOfUptoRow.holds Try.pinned (OpenSpec.upto fnExactSpeedOfSpec)

/-- 'laws.FnExactQuantise', WHERE WHAT IT READS IS OF BULK AT MOST 1048576: true; the input reads as it did. -/
def fnExactQuantiseUptoRow : OpenClaim := { program := "ytijlnlonlmcdoaa", sum := "accf29390b434b4b32932d1d77f01dba96f8db9085bcb867dd66f9cf97159f3d", func := "loop.example/g00024/laws.FnExactQuantise", spec := "fnExactQuantise", apart := false, narrowed := true }
def FnExactQuantiseUptoSaid : Prop := fnExactQuantiseUptoRow.holds Try.pinned (OpenSpec.upto fnExactQuantiseSpec)

/-- 'laws.FnExactWeight', WHERE WHAT IT READS IS OF BULK AT MOST 1048576: true; the input reads as it did. -/
def fnExactWeightUptoRow : OpenClaim := { program := "ytijlnlonlmcdoaa", sum := "accf29390b434b4b32932d1d77f01dba96f8db9085bcb867dd66f9cf97159f3d", func := "loop.example/g00024/laws.FnExactWeight", spec := "fnExactWeight", apart := false, narrowed := true }
def FnExactWeightUptoSaid : Prop := fnExactWeightUptoRow.holds Try.pinned (OpenSpec.upto fnExactWeightSpec)

/-- 'laws.FnTilesOf', WHERE WHAT IT READS IS OF BULK AT MOST 1048576: true; the input reads as it did. -/
def fnTilesOfUptoRow : OpenClaim := { program := "ytijlnlonlmcdoaa", sum := "accf29390b434b4b32932d1d77f01dba96f8db9085bcb867dd66f9cf97159f3d", func := "loop.example/g00024/laws.FnTilesOf", spec := "fnTilesOf", unfollowed := true, recurses := true, apart := false, narrowed := true }
def FnTilesOfUptoSaid : Prop := fnTilesOfUptoRow.holds Try.pinned (OpenSpec.upto fnTilesOfSpec)

/-- 'laws.FnExactSpaced', WHERE WHAT IT READS IS OF BULK AT MOST 1048576: true; the input reads as it did. -/
def fnExactSpacedUptoRow : OpenClaim := { program := "ytijlnlonlmcdoaa", sum := "accf29390b434b4b32932d1d77f01dba96f8db9085bcb867dd66f9cf97159f3d", func := "loop.example/g00024/laws.FnExactSpaced", spec := "fnExactSpaced", apart := false, narrowed := true }
def FnExactSpacedUptoSaid : Prop := fnExactSpacedUptoRow.holds Try.pinned (OpenSpec.upto fnExactSpacedSpec)

/-- 'laws.FnExactApplies', WHERE WHAT IT READS IS OF BULK AT MOST 1048576: true; the input reads as it did. -/
def fnExactAppliesUptoRow : OpenClaim := { program := "ytijlnlonlmcdoaa", sum := "accf29390b434b4b32932d1d77f01dba96f8db9085bcb867dd66f9cf97159f3d", func := "loop.example/g00024/laws.FnExactApplies", spec := "fnExactApplies", apart := false, narrowed := true }
def FnExactAppliesUptoSaid : Prop := fnExactAppliesUptoRow.holds Try.pinned (OpenSpec.upto fnExactAppliesSpec)

/-- 'laws.FnExactGraphOk', WHERE WHAT IT READS IS OF BULK AT MOST 1048576: true; the input reads as it did. -/
def fnExactGraphOkUptoRow : OpenClaim := { program := "ytijlnlonlmcdoaa", sum := "accf29390b434b4b32932d1d77f01dba96f8db9085bcb867dd66f9cf97159f3d", func := "loop.example/g00024/laws.FnExactGraphOk", spec := "fnExactGraphOk", apart := false, narrowed := true }
def FnExactGraphOkUptoSaid : Prop := fnExactGraphOkUptoRow.holds Try.pinned (OpenSpec.upto fnExactGraphOkSpec)

/-- 'laws.FnExactFleetOk', WHERE WHAT IT READS IS OF BULK AT MOST 1048576: true; the input reads as it did. -/
def fnExactFleetOkUptoRow : OpenClaim := { program := "ytijlnlonlmcdoaa", sum := "accf29390b434b4b32932d1d77f01dba96f8db9085bcb867dd66f9cf97159f3d", func := "loop.example/g00024/laws.FnExactFleetOk", spec := "fnExactFleetOk", apart := false, narrowed := true }
def FnExactFleetOkUptoSaid : Prop := fnExactFleetOkUptoRow.holds Try.pinned (OpenSpec.upto fnExactFleetOkSpec)

/-- 'laws.FnExactPaint', WHERE WHAT IT READS IS OF BULK AT MOST 1048576: true; the input reads as it did. -/
def fnExactPaintUptoRow : OpenClaim := { program := "ytijlnlonlmcdoaa", sum := "accf29390b434b4b32932d1d77f01dba96f8db9085bcb867dd66f9cf97159f3d", func := "loop.example/g00024/laws.FnExactPaint", spec := "fnExactPaint", apart := false, narrowed := true }
def FnExactPaintUptoSaid : Prop := fnExactPaintUptoRow.holds Try.pinned (OpenSpec.upto fnExactPaintSpec)

end Rows
end Go.Proofs.Ytijlnlonlmcdoaa
