/-
  No cell of these rows narrows 'for every input' (looked for: loops, veiled, ifaces, maps, wideKeys, modest, calm, conditions, laid).
  DERIVED. THE GIVEN ROWS OF THIS SEAT. 12 by the template 'for every input the law returns true; each argument reads behind the call as it read before'; 0 by the template 'total and deterministic' (their statements: YtjfledckleeoaaaTotals.lean).
  GIVEN WITH THE SEED: the statements are not yours to turn. If you find one false, say at which input.
  Laid BY PROGRAM, IN A SANDBOX (cutbox-rows.mjs): the forced cells as the released guide's own fill.sh prints them over the translation 48281e0aceb89afa… (all of the seat's roots in one cut). By AI agents, Wed Nov 11 2026. No macro, syntax, notation, axiom, sorry.
-/
import Derived.Test.YtjfledckleeoaaaChecked
import GoSem.Claim
import GoSem.ClaimJoined
import GoSem.ClaimMapViews
import Derived.JoinedTies
import Derived.KernelRfl
namespace Go.Proofs.Ytjfledckleeoaaa
/- THE CELL 'sum', in the pinned program and in every row, IS THE sha256 OF THE DUMP (.gsa) THAT YtjfledckleeoaaaProg.lean LOADS. Nothing in Lean hashes anything: it is a label: what it is worth is what the hold of that sum in a sandbox is worth. -/
noncomputable def Try.pinned : Pinned := { name := "ytjfledckleeoaaa", sum := "48281e0aceb89afa8f51adabc799ed71e3a7b4ecb8f325057204240682b0ee87", checked := Try.checked }
namespace Rows
def none {H : Type} : Left H := { results := [], args := [] }

/-- 'laws.FnExactLoops': WHATEVER THE INPUT: true; the input reads as it did. -/
def fnExactLoopsSpec : ChangeSpec := { name := "fnExactLoops", fn := fun _ => fun
  | [d1, d2] => { results := [.lit (.bool true)], args := [d1, d2] }
  | _ => none }
def fnExactLoopsRow : OpenClaim := { program := "ytjfledckleeoaaa", sum := "48281e0aceb89afa8f51adabc799ed71e3a7b4ecb8f325057204240682b0ee87", func := "loop.example/g00024/laws.FnExactLoops", spec := "fnExactLoops", plainKeys := false, apart := false }
def FnExactLoopsSaid : Prop := fnExactLoopsRow.holds Try.pinned (OpenSpec.ofChange fnExactLoopsSpec)

/-- ITS FALSE NEIGHBOUR: 'it returns false'. Refute it at one input. -/
def fnExactLoopsWrong : ChangeSpec := { name := "fnExactLoops", fn := fun _ => fun
  | [d1, d2] => { results := [.lit (.bool false)], args := [d1, d2] }
  | _ => none }
def FnExactLoopsWrongFalsely : Prop := fnExactLoopsRow.holds Try.pinned (OpenSpec.ofChange fnExactLoopsWrong)

/-- 'laws.FnExactCommon': WHATEVER THE INPUT: true; the input reads as it did. -/
def fnExactCommonSpec : ChangeSpec := { name := "fnExactCommon", fn := fun _ => fun
  | [d1, d2, d3] => { results := [.lit (.bool true)], args := [d1, d2, d3] }
  | _ => none }
def fnExactCommonRow : OpenClaim := { program := "ytjfledckleeoaaa", sum := "48281e0aceb89afa8f51adabc799ed71e3a7b4ecb8f325057204240682b0ee87", func := "loop.example/g00024/laws.FnExactCommon", spec := "fnExactCommon", plainKeys := false, apart := false }
def FnExactCommonSaid : Prop := fnExactCommonRow.holds Try.pinned (OpenSpec.ofChange fnExactCommonSpec)

/-- ITS FALSE NEIGHBOUR: 'it returns false'. Refute it at one input. -/
def fnExactCommonWrong : ChangeSpec := { name := "fnExactCommon", fn := fun _ => fun
  | [d1, d2, d3] => { results := [.lit (.bool false)], args := [d1, d2, d3] }
  | _ => none }
def FnExactCommonWrongFalsely : Prop := fnExactCommonRow.holds Try.pinned (OpenSpec.ofChange fnExactCommonWrong)

/-- 'laws.FnExactTurnsOf': WHATEVER THE INPUT: true; the input reads as it did. -/
def fnExactTurnsOfSpec : ChangeSpec := { name := "fnExactTurnsOf", fn := fun _ => fun
  | [d1, d2] => { results := [.lit (.bool true)], args := [d1, d2] }
  | _ => none }
def fnExactTurnsOfRow : OpenClaim := { program := "ytjfledckleeoaaa", sum := "48281e0aceb89afa8f51adabc799ed71e3a7b4ecb8f325057204240682b0ee87", func := "loop.example/g00024/laws.FnExactTurnsOf", spec := "fnExactTurnsOf", plainKeys := false, apart := false }
def FnExactTurnsOfSaid : Prop := fnExactTurnsOfRow.holds Try.pinned (OpenSpec.ofChange fnExactTurnsOfSpec)

/-- ITS FALSE NEIGHBOUR: 'it returns false'. Refute it at one input. -/
def fnExactTurnsOfWrong : ChangeSpec := { name := "fnExactTurnsOf", fn := fun _ => fun
  | [d1, d2] => { results := [.lit (.bool false)], args := [d1, d2] }
  | _ => none }
def FnExactTurnsOfWrongFalsely : Prop := fnExactTurnsOfRow.holds Try.pinned (OpenSpec.ofChange fnExactTurnsOfWrong)

/-- 'laws.FnExactTurnTime': WHATEVER THE INPUT: true; the input reads as it did. -/
def fnExactTurnTimeSpec : ChangeSpec := { name := "fnExactTurnTime", fn := fun _ => fun
  | [d1, d2, d3] => { results := [.lit (.bool true)], args := [d1, d2, d3] }
  | _ => none }
def fnExactTurnTimeRow : OpenClaim := { program := "ytjfledckleeoaaa", sum := "48281e0aceb89afa8f51adabc799ed71e3a7b4ecb8f325057204240682b0ee87", func := "loop.example/g00024/laws.FnExactTurnTime", spec := "fnExactTurnTime", plainKeys := false, apart := false }
def FnExactTurnTimeSaid : Prop := fnExactTurnTimeRow.holds Try.pinned (OpenSpec.ofChange fnExactTurnTimeSpec)

/-- ITS FALSE NEIGHBOUR: 'it returns false'. Refute it at one input. -/
def fnExactTurnTimeWrong : ChangeSpec := { name := "fnExactTurnTime", fn := fun _ => fun
  | [d1, d2, d3] => { results := [.lit (.bool false)], args := [d1, d2, d3] }
  | _ => none }
def FnExactTurnTimeWrongFalsely : Prop := fnExactTurnTimeRow.holds Try.pinned (OpenSpec.ofChange fnExactTurnTimeWrong)

/-- 'laws.FnExactAhead': WHATEVER THE INPUT: true; the input reads as it did. -/
def fnExactAheadSpec : ChangeSpec := { name := "fnExactAhead", fn := fun _ => fun
  | [d1, d2] => { results := [.lit (.bool true)], args := [d1, d2] }
  | _ => none }
def fnExactAheadRow : OpenClaim := { program := "ytjfledckleeoaaa", sum := "48281e0aceb89afa8f51adabc799ed71e3a7b4ecb8f325057204240682b0ee87", func := "loop.example/g00024/laws.FnExactAhead", spec := "fnExactAhead", plainKeys := false, apart := false }
def FnExactAheadSaid : Prop := fnExactAheadRow.holds Try.pinned (OpenSpec.ofChange fnExactAheadSpec)

/-- ITS FALSE NEIGHBOUR: 'it returns false'. Refute it at one input. -/
def fnExactAheadWrong : ChangeSpec := { name := "fnExactAhead", fn := fun _ => fun
  | [d1, d2] => { results := [.lit (.bool false)], args := [d1, d2] }
  | _ => none }
def FnExactAheadWrongFalsely : Prop := fnExactAheadRow.holds Try.pinned (OpenSpec.ofChange fnExactAheadWrong)

/-- 'laws.FnExactSlower': WHATEVER THE INPUT: true; the input reads as it did. -/
def fnExactSlowerSpec : ChangeSpec := { name := "fnExactSlower", fn := fun _ => fun
  | [d1, d2, d3] => { results := [.lit (.bool true)], args := [d1, d2, d3] }
  | _ => none }
def fnExactSlowerRow : OpenClaim := { program := "ytjfledckleeoaaa", sum := "48281e0aceb89afa8f51adabc799ed71e3a7b4ecb8f325057204240682b0ee87", func := "loop.example/g00024/laws.FnExactSlower", spec := "fnExactSlower", plainKeys := false, apart := false }
def FnExactSlowerSaid : Prop := fnExactSlowerRow.holds Try.pinned (OpenSpec.ofChange fnExactSlowerSpec)

/-- ITS FALSE NEIGHBOUR: 'it returns false'. Refute it at one input. -/
def fnExactSlowerWrong : ChangeSpec := { name := "fnExactSlower", fn := fun _ => fun
  | [d1, d2, d3] => { results := [.lit (.bool false)], args := [d1, d2, d3] }
  | _ => none }
def FnExactSlowerWrongFalsely : Prop := fnExactSlowerRow.holds Try.pinned (OpenSpec.ofChange fnExactSlowerWrong)

/-- 'laws.FnExactPathTime': WHATEVER THE INPUT: true; the input reads as it did. -/
def fnExactPathTimeSpec : ChangeSpec := { name := "fnExactPathTime", fn := fun _ => fun
  | [d1, d2, d3, d4] => { results := [.lit (.bool true)], args := [d1, d2, d3, d4] }
  | _ => none }
def fnExactPathTimeRow : OpenClaim := { program := "ytjfledckleeoaaa", sum := "48281e0aceb89afa8f51adabc799ed71e3a7b4ecb8f325057204240682b0ee87", func := "loop.example/g00024/laws.FnExactPathTime", spec := "fnExactPathTime", plainKeys := false, apart := false }
def FnExactPathTimeSaid : Prop := fnExactPathTimeRow.holds Try.pinned (OpenSpec.ofChange fnExactPathTimeSpec)

/-- ITS FALSE NEIGHBOUR: 'it returns false'. Refute it at one input. -/
def fnExactPathTimeWrong : ChangeSpec := { name := "fnExactPathTime", fn := fun _ => fun
  | [d1, d2, d3, d4] => { results := [.lit (.bool false)], args := [d1, d2, d3, d4] }
  | _ => none }
def FnExactPathTimeWrongFalsely : Prop := fnExactPathTimeRow.holds Try.pinned (OpenSpec.ofChange fnExactPathTimeWrong)

/-- 'laws.FnExactCenter': WHATEVER THE INPUT: true; the input reads as it did. -/
def fnExactCenterSpec : ChangeSpec := { name := "fnExactCenter", fn := fun _ => fun
  | [d1, d2] => { results := [.lit (.bool true)], args := [d1, d2] }
  | _ => none }
def fnExactCenterRow : OpenClaim := { program := "ytjfledckleeoaaa", sum := "48281e0aceb89afa8f51adabc799ed71e3a7b4ecb8f325057204240682b0ee87", func := "loop.example/g00024/laws.FnExactCenter", spec := "fnExactCenter", plainKeys := false, apart := false }
def FnExactCenterSaid : Prop := fnExactCenterRow.holds Try.pinned (OpenSpec.ofChange fnExactCenterSpec)

/-- ITS FALSE NEIGHBOUR: 'it returns false'. Refute it at one input. -/
def fnExactCenterWrong : ChangeSpec := { name := "fnExactCenter", fn := fun _ => fun
  | [d1, d2] => { results := [.lit (.bool false)], args := [d1, d2] }
  | _ => none }
def FnExactCenterWrongFalsely : Prop := fnExactCenterRow.holds Try.pinned (OpenSpec.ofChange fnExactCenterWrong)

/-- 'laws.FnExactFirstRoads': WHATEVER THE INPUT: true; the input reads as it did. -/
def fnExactFirstRoadsSpec : ChangeSpec := { name := "fnExactFirstRoads", fn := fun _ => fun
  | [d1, d2] => { results := [.lit (.bool true)], args := [d1, d2] }
  | _ => none }
def fnExactFirstRoadsRow : OpenClaim := { program := "ytjfledckleeoaaa", sum := "48281e0aceb89afa8f51adabc799ed71e3a7b4ecb8f325057204240682b0ee87", func := "loop.example/g00024/laws.FnExactFirstRoads", spec := "fnExactFirstRoads", plainKeys := false, apart := false }
def FnExactFirstRoadsSaid : Prop := fnExactFirstRoadsRow.holds Try.pinned (OpenSpec.ofChange fnExactFirstRoadsSpec)

/-- ITS FALSE NEIGHBOUR: 'it returns false'. Refute it at one input. -/
def fnExactFirstRoadsWrong : ChangeSpec := { name := "fnExactFirstRoads", fn := fun _ => fun
  | [d1, d2] => { results := [.lit (.bool false)], args := [d1, d2] }
  | _ => none }
def FnExactFirstRoadsWrongFalsely : Prop := fnExactFirstRoadsRow.holds Try.pinned (OpenSpec.ofChange fnExactFirstRoadsWrong)

/-- 'laws.FnExactReach': WHATEVER THE INPUT: true; the input reads as it did. -/
def fnExactReachSpec : ChangeSpec := { name := "fnExactReach", fn := fun _ => fun
  | [d1, d2] => { results := [.lit (.bool true)], args := [d1, d2] }
  | _ => none }
def fnExactReachRow : OpenClaim := { program := "ytjfledckleeoaaa", sum := "48281e0aceb89afa8f51adabc799ed71e3a7b4ecb8f325057204240682b0ee87", func := "loop.example/g00024/laws.FnExactReach", spec := "fnExactReach", plainKeys := false, apart := false }
def FnExactReachSaid : Prop := fnExactReachRow.holds Try.pinned (OpenSpec.ofChange fnExactReachSpec)

/-- ITS FALSE NEIGHBOUR: 'it returns false'. Refute it at one input. -/
def fnExactReachWrong : ChangeSpec := { name := "fnExactReach", fn := fun _ => fun
  | [d1, d2] => { results := [.lit (.bool false)], args := [d1, d2] }
  | _ => none }
def FnExactReachWrongFalsely : Prop := fnExactReachRow.holds Try.pinned (OpenSpec.ofChange fnExactReachWrong)

/-- 'laws.FnExactTimes': WHATEVER THE INPUT: true; the input reads as it did. -/
def fnExactTimesSpec : ChangeSpec := { name := "fnExactTimes", fn := fun _ => fun
  | [d1, d2, d3] => { results := [.lit (.bool true)], args := [d1, d2, d3] }
  | _ => none }
def fnExactTimesRow : OpenClaim := { program := "ytjfledckleeoaaa", sum := "48281e0aceb89afa8f51adabc799ed71e3a7b4ecb8f325057204240682b0ee87", func := "loop.example/g00024/laws.FnExactTimes", spec := "fnExactTimes", plainKeys := false, apart := false }
def FnExactTimesSaid : Prop := fnExactTimesRow.holds Try.pinned (OpenSpec.ofChange fnExactTimesSpec)

/-- ITS FALSE NEIGHBOUR: 'it returns false'. Refute it at one input. -/
def fnExactTimesWrong : ChangeSpec := { name := "fnExactTimes", fn := fun _ => fun
  | [d1, d2, d3] => { results := [.lit (.bool false)], args := [d1, d2, d3] }
  | _ => none }
def FnExactTimesWrongFalsely : Prop := fnExactTimesRow.holds Try.pinned (OpenSpec.ofChange fnExactTimesWrong)

/-- 'laws.FnExactBestPath': WHATEVER THE INPUT: true; the input reads as it did. -/
def fnExactBestPathSpec : ChangeSpec := { name := "fnExactBestPath", fn := fun _ => fun
  | [d1, d2, d3] => { results := [.lit (.bool true)], args := [d1, d2, d3] }
  | _ => none }
def fnExactBestPathRow : OpenClaim := { program := "ytjfledckleeoaaa", sum := "48281e0aceb89afa8f51adabc799ed71e3a7b4ecb8f325057204240682b0ee87", func := "loop.example/g00024/laws.FnExactBestPath", spec := "fnExactBestPath", unfollowed := true, recurses := true, plainKeys := false, apart := false }
def FnExactBestPathSaid : Prop := fnExactBestPathRow.holds Try.pinned (OpenSpec.ofChange fnExactBestPathSpec)

/-- ITS FALSE NEIGHBOUR: 'it returns false'. Refute it at one input. -/
def fnExactBestPathWrong : ChangeSpec := { name := "fnExactBestPath", fn := fun _ => fun
  | [d1, d2, d3] => { results := [.lit (.bool false)], args := [d1, d2, d3] }
  | _ => none }
def FnExactBestPathWrongFalsely : Prop := fnExactBestPathRow.holds Try.pinned (OpenSpec.ofChange fnExactBestPathWrong)

/- THE SECOND FORM. 'bulk': how many values and letters a reading holds, each counted each time it is reached (what is shared counts as often as it is met; a slice's spare places count too). A statement '..UptoSaid' is the law's where the arguments, and the package variables that the reading takes, are together of bulk at most 1048576: NARROWER than '..Said'. Prove '..Said' where nothing that the law and all that it calls make is longer than what came in: it says more and counts as full. Else prove '..UptoSaid'. A law counts once. -/
mutual
def uptoBulk {H : Type} : DataW H → Nat
  | .lit (.string bytes) => bytes.length + 1
  | .lit _ => 1
  | .nil => 1
  | .ptr d => uptoBulk d + 1
  | .slice elems spare => uptoBulkAll elems + uptoBulkAll spare + 1
  | .agg parts => uptoBulkAll parts + 1
  | .iface _ d => uptoBulk d + 1
  | .map entries => uptoBulkEntries entries + 1
  | .held _ => 1
def uptoBulkAll {H : Type} : List (DataW H) → Nat
  | [] => 0
  | d :: r => uptoBulk d + uptoBulkAll r
def uptoBulkEntries {H : Type} : List (Lit × DataW H) → Nat
  | [] => 0
  | x :: r => uptoBulkEntry x + uptoBulkEntries r
def uptoBulkEntry {H : Type} : Lit × DataW H → Nat
  | (.string bytes, d) => bytes.length + uptoBulk d + 1
  | (_, d) => uptoBulk d + 1
 end
def uptoSmall : (H : Type) → List (DataW H) → Bool := fun _ ds => decide (uptoBulkAll ds ≤ 1048576)
def OpenSpec.upto (s : _root_.Go.ChangeSpec) : _root_.Go.OpenSpec := { _root_.Go.OpenSpec.ofChange s with cond := some uptoSmall }

/-- 'laws.FnExactLoops', WHERE WHAT IT READS IS OF BULK AT MOST 1048576: true; the input reads as it did. -/
def fnExactLoopsUptoRow : OpenClaim := { program := "ytjfledckleeoaaa", sum := "48281e0aceb89afa8f51adabc799ed71e3a7b4ecb8f325057204240682b0ee87", func := "loop.example/g00024/laws.FnExactLoops", spec := "fnExactLoops", plainKeys := false, apart := false, narrowed := true }
def FnExactLoopsUptoSaid : Prop := fnExactLoopsUptoRow.holds Try.pinned (OpenSpec.upto fnExactLoopsSpec)

/-- 'laws.FnExactCommon', WHERE WHAT IT READS IS OF BULK AT MOST 1048576: true; the input reads as it did. -/
def fnExactCommonUptoRow : OpenClaim := { program := "ytjfledckleeoaaa", sum := "48281e0aceb89afa8f51adabc799ed71e3a7b4ecb8f325057204240682b0ee87", func := "loop.example/g00024/laws.FnExactCommon", spec := "fnExactCommon", plainKeys := false, apart := false, narrowed := true }
def FnExactCommonUptoSaid : Prop := fnExactCommonUptoRow.holds Try.pinned (OpenSpec.upto fnExactCommonSpec)

/-- 'laws.FnExactTurnsOf', WHERE WHAT IT READS IS OF BULK AT MOST 1048576: true; the input reads as it did. -/
def fnExactTurnsOfUptoRow : OpenClaim := { program := "ytjfledckleeoaaa", sum := "48281e0aceb89afa8f51adabc799ed71e3a7b4ecb8f325057204240682b0ee87", func := "loop.example/g00024/laws.FnExactTurnsOf", spec := "fnExactTurnsOf", plainKeys := false, apart := false, narrowed := true }
def FnExactTurnsOfUptoSaid : Prop := fnExactTurnsOfUptoRow.holds Try.pinned (OpenSpec.upto fnExactTurnsOfSpec)

/-- 'laws.FnExactTurnTime', WHERE WHAT IT READS IS OF BULK AT MOST 1048576: true; the input reads as it did. -/
def fnExactTurnTimeUptoRow : OpenClaim := { program := "ytjfledckleeoaaa", sum := "48281e0aceb89afa8f51adabc799ed71e3a7b4ecb8f325057204240682b0ee87", func := "loop.example/g00024/laws.FnExactTurnTime", spec := "fnExactTurnTime", plainKeys := false, apart := false, narrowed := true }
def FnExactTurnTimeUptoSaid : Prop := fnExactTurnTimeUptoRow.holds Try.pinned (OpenSpec.upto fnExactTurnTimeSpec)

/-- 'laws.FnExactAhead', WHERE WHAT IT READS IS OF BULK AT MOST 1048576: true; the input reads as it did. -/
def fnExactAheadUptoRow : OpenClaim := { program := "ytjfledckleeoaaa", sum := "48281e0aceb89afa8f51adabc799ed71e3a7b4ecb8f325057204240682b0ee87", func := "loop.example/g00024/laws.FnExactAhead", spec := "fnExactAhead", plainKeys := false, apart := false, narrowed := true }
def FnExactAheadUptoSaid : Prop := fnExactAheadUptoRow.holds Try.pinned (OpenSpec.upto fnExactAheadSpec)

/-- 'laws.FnExactSlower', WHERE WHAT IT READS IS OF BULK AT MOST 1048576: true; the input reads as it did. -/
def fnExactSlowerUptoRow : OpenClaim := { program := "ytjfledckleeoaaa", sum := "48281e0aceb89afa8f51adabc799ed71e3a7b4ecb8f325057204240682b0ee87", func := "loop.example/g00024/laws.FnExactSlower", spec := "fnExactSlower", plainKeys := false, apart := false, narrowed := true }
def FnExactSlowerUptoSaid : Prop := fnExactSlowerUptoRow.holds Try.pinned (OpenSpec.upto fnExactSlowerSpec)

/-- 'laws.FnExactPathTime', WHERE WHAT IT READS IS OF BULK AT MOST 1048576: true; the input reads as it did. -/
def fnExactPathTimeUptoRow : OpenClaim := { program := "ytjfledckleeoaaa", sum := "48281e0aceb89afa8f51adabc799ed71e3a7b4ecb8f325057204240682b0ee87", func := "loop.example/g00024/laws.FnExactPathTime", spec := "fnExactPathTime", plainKeys := false, apart := false, narrowed := true }
def FnExactPathTimeUptoSaid : Prop := fnExactPathTimeUptoRow.holds Try.pinned (OpenSpec.upto fnExactPathTimeSpec)

/-- 'laws.FnExactCenter', WHERE WHAT IT READS IS OF BULK AT MOST 1048576: true; the input reads as it did. -/
def fnExactCenterUptoRow : OpenClaim := { program := "ytjfledckleeoaaa", sum := "48281e0aceb89afa8f51adabc799ed71e3a7b4ecb8f325057204240682b0ee87", func := "loop.example/g00024/laws.FnExactCenter", spec := "fnExactCenter", plainKeys := false, apart := false, narrowed := true }
def FnExactCenterUptoSaid : Prop := fnExactCenterUptoRow.holds Try.pinned (OpenSpec.upto fnExactCenterSpec)

/-- 'laws.FnExactFirstRoads', WHERE WHAT IT READS IS OF BULK AT MOST 1048576: true; the input reads as it did. -/
def fnExactFirstRoadsUptoRow : OpenClaim := { program := "ytjfledckleeoaaa", sum := "48281e0aceb89afa8f51adabc799ed71e3a7b4ecb8f325057204240682b0ee87", func := "loop.example/g00024/laws.FnExactFirstRoads", spec := "fnExactFirstRoads", plainKeys := false, apart := false, narrowed := true }
def FnExactFirstRoadsUptoSaid : Prop := fnExactFirstRoadsUptoRow.holds Try.pinned (OpenSpec.upto fnExactFirstRoadsSpec)

/-- 'laws.FnExactReach', WHERE WHAT IT READS IS OF BULK AT MOST 1048576: true; the input reads as it did. -/
def fnExactReachUptoRow : OpenClaim := { program := "ytjfledckleeoaaa", sum := "48281e0aceb89afa8f51adabc799ed71e3a7b4ecb8f325057204240682b0ee87", func := "loop.example/g00024/laws.FnExactReach", spec := "fnExactReach", plainKeys := false, apart := false, narrowed := true }
def FnExactReachUptoSaid : Prop := fnExactReachUptoRow.holds Try.pinned (OpenSpec.upto fnExactReachSpec)

/-- 'laws.FnExactTimes', WHERE WHAT IT READS IS OF BULK AT MOST 1048576: true; the input reads as it did. -/
def fnExactTimesUptoRow : OpenClaim := { program := "ytjfledckleeoaaa", sum := "48281e0aceb89afa8f51adabc799ed71e3a7b4ecb8f325057204240682b0ee87", func := "loop.example/g00024/laws.FnExactTimes", spec := "fnExactTimes", plainKeys := false, apart := false, narrowed := true }
def FnExactTimesUptoSaid : Prop := fnExactTimesUptoRow.holds Try.pinned (OpenSpec.upto fnExactTimesSpec)

/-- 'laws.FnExactBestPath', WHERE WHAT IT READS IS OF BULK AT MOST 1048576: true; the input reads as it did. -/
def fnExactBestPathUptoRow : OpenClaim := { program := "ytjfledckleeoaaa", sum := "48281e0aceb89afa8f51adabc799ed71e3a7b4ecb8f325057204240682b0ee87", func := "loop.example/g00024/laws.FnExactBestPath", spec := "fnExactBestPath", unfollowed := true, recurses := true, plainKeys := false, apart := false, narrowed := true }
def FnExactBestPathUptoSaid : Prop := fnExactBestPathUptoRow.holds Try.pinned (OpenSpec.upto fnExactBestPathSpec)

end Rows
end Go.Proofs.Ytjfledckleeoaaa
