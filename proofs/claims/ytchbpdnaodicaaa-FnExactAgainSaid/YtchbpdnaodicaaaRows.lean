/-
  No cell of these rows narrows 'for every input' (looked for: loops, veiled, ifaces, maps, wideKeys, modest, calm, conditions, laid).
  DERIVED. THE GIVEN ROWS OF THIS SEAT. 11 by the template 'for every input the law returns true; each argument reads behind the call as it read before'; 0 by the template 'total and deterministic' (their statements: YtchbpdnaodicaaaTotals.lean).
  GIVEN WITH THE SEED: the statements are not yours to turn. If you find one false, say at which input.
  Laid BY PROGRAM, IN A SANDBOX (cutbox-rows.mjs): the forced cells as the released guide's own fill.sh prints them over the translation 053fec7178bfff5d… (all of the seat's roots in one cut). By AI agents, Wed Nov 11 2026. No macro, syntax, notation, axiom, sorry.
-/
import Derived.Test.YtchbpdnaodicaaaChecked
import GoSem.Claim
import GoSem.ClaimJoined
import GoSem.ClaimMapViews
import Derived.JoinedTies
import Derived.KernelRfl
namespace Go.Proofs.Ytchbpdnaodicaaa
/- THE CELL 'sum', in the pinned program and in every row, IS THE sha256 OF THE DUMP (.gsa) THAT YtchbpdnaodicaaaProg.lean LOADS. Nothing in Lean hashes anything: it is a label: what it is worth is what the hold of that sum in a sandbox is worth. -/
noncomputable def Try.pinned : Pinned := { name := "ytchbpdnaodicaaa", sum := "053fec7178bfff5d4a572c762339444fc8157784c619361173edf51b7163d4b1", checked := Try.checked }
namespace Rows
def none {H : Type} : Left H := { results := [], args := [] }

/-- 'laws.FnExactGuide': WHATEVER THE INPUT: true; the input reads as it did. -/
def fnExactGuideSpec : ChangeSpec := { name := "fnExactGuide", fn := fun _ => fun
  | [d1, d2] => { results := [.lit (.bool true)], args := [d1, d2] }
  | _ => none }
def fnExactGuideRow : OpenClaim := { program := "ytchbpdnaodicaaa", sum := "053fec7178bfff5d4a572c762339444fc8157784c619361173edf51b7163d4b1", func := "loop.example/g00024/laws.FnExactGuide", spec := "fnExactGuide", plainKeys := false, apart := false }
def FnExactGuideSaid : Prop := fnExactGuideRow.holds Try.pinned (OpenSpec.ofChange fnExactGuideSpec)

/-- ITS FALSE NEIGHBOUR: 'it returns false'. Refute it at one input. -/
def fnExactGuideWrong : ChangeSpec := { name := "fnExactGuide", fn := fun _ => fun
  | [d1, d2] => { results := [.lit (.bool false)], args := [d1, d2] }
  | _ => none }
def FnExactGuideWrongFalsely : Prop := fnExactGuideRow.holds Try.pinned (OpenSpec.ofChange fnExactGuideWrong)

/-- 'laws.FnExactFollow': WHATEVER THE INPUT: true; the input reads as it did. -/
def fnExactFollowSpec : ChangeSpec := { name := "fnExactFollow", fn := fun _ => fun
  | [d1, d2, d3] => { results := [.lit (.bool true)], args := [d1, d2, d3] }
  | _ => none }
def fnExactFollowRow : OpenClaim := { program := "ytchbpdnaodicaaa", sum := "053fec7178bfff5d4a572c762339444fc8157784c619361173edf51b7163d4b1", func := "loop.example/g00024/laws.FnExactFollow", spec := "fnExactFollow", plainKeys := false, apart := false }
def FnExactFollowSaid : Prop := fnExactFollowRow.holds Try.pinned (OpenSpec.ofChange fnExactFollowSpec)

/-- ITS FALSE NEIGHBOUR: 'it returns false'. Refute it at one input. -/
def fnExactFollowWrong : ChangeSpec := { name := "fnExactFollow", fn := fun _ => fun
  | [d1, d2, d3] => { results := [.lit (.bool false)], args := [d1, d2, d3] }
  | _ => none }
def FnExactFollowWrongFalsely : Prop := fnExactFollowRow.holds Try.pinned (OpenSpec.ofChange fnExactFollowWrong)

/-- 'laws.FnExactRoundTime': WHATEVER THE INPUT: true; the input reads as it did. -/
def fnExactRoundTimeSpec : ChangeSpec := { name := "fnExactRoundTime", fn := fun _ => fun
  | [d1, d2, d3] => { results := [.lit (.bool true)], args := [d1, d2, d3] }
  | _ => none }
def fnExactRoundTimeRow : OpenClaim := { program := "ytchbpdnaodicaaa", sum := "053fec7178bfff5d4a572c762339444fc8157784c619361173edf51b7163d4b1", func := "loop.example/g00024/laws.FnExactRoundTime", spec := "fnExactRoundTime", plainKeys := false, apart := false }
def FnExactRoundTimeSaid : Prop := fnExactRoundTimeRow.holds Try.pinned (OpenSpec.ofChange fnExactRoundTimeSpec)

/-- ITS FALSE NEIGHBOUR: 'it returns false'. Refute it at one input. -/
def fnExactRoundTimeWrong : ChangeSpec := { name := "fnExactRoundTime", fn := fun _ => fun
  | [d1, d2, d3] => { results := [.lit (.bool false)], args := [d1, d2, d3] }
  | _ => none }
def FnExactRoundTimeWrongFalsely : Prop := fnExactRoundTimeRow.holds Try.pinned (OpenSpec.ofChange fnExactRoundTimeWrong)

/-- 'laws.FnExactPlanTime': WHATEVER THE INPUT: true; the input reads as it did. -/
def fnExactPlanTimeSpec : ChangeSpec := { name := "fnExactPlanTime", fn := fun _ => fun
  | [d1, d2, d3] => { results := [.lit (.bool true)], args := [d1, d2, d3] }
  | _ => none }
def fnExactPlanTimeRow : OpenClaim := { program := "ytchbpdnaodicaaa", sum := "053fec7178bfff5d4a572c762339444fc8157784c619361173edf51b7163d4b1", func := "loop.example/g00024/laws.FnExactPlanTime", spec := "fnExactPlanTime", plainKeys := false, apart := false }
def FnExactPlanTimeSaid : Prop := fnExactPlanTimeRow.holds Try.pinned (OpenSpec.ofChange fnExactPlanTimeSpec)

/-- ITS FALSE NEIGHBOUR: 'it returns false'. Refute it at one input. -/
def fnExactPlanTimeWrong : ChangeSpec := { name := "fnExactPlanTime", fn := fun _ => fun
  | [d1, d2, d3] => { results := [.lit (.bool false)], args := [d1, d2, d3] }
  | _ => none }
def FnExactPlanTimeWrongFalsely : Prop := fnExactPlanTimeRow.holds Try.pinned (OpenSpec.ofChange fnExactPlanTimeWrong)

/-- 'laws.FnExactVia': WHATEVER THE INPUT: true; the input reads as it did. -/
def fnExactViaSpec : ChangeSpec := { name := "fnExactVia", fn := fun _ => fun
  | [d1, d2, d3, d4] => { results := [.lit (.bool true)], args := [d1, d2, d3, d4] }
  | _ => none }
def fnExactViaRow : OpenClaim := { program := "ytchbpdnaodicaaa", sum := "053fec7178bfff5d4a572c762339444fc8157784c619361173edf51b7163d4b1", func := "loop.example/g00024/laws.FnExactVia", spec := "fnExactVia", unfollowed := true, recurses := true, plainKeys := false, apart := false }
def FnExactViaSaid : Prop := fnExactViaRow.holds Try.pinned (OpenSpec.ofChange fnExactViaSpec)

/-- ITS FALSE NEIGHBOUR: 'it returns false'. Refute it at one input. -/
def fnExactViaWrong : ChangeSpec := { name := "fnExactVia", fn := fun _ => fun
  | [d1, d2, d3, d4] => { results := [.lit (.bool false)], args := [d1, d2, d3, d4] }
  | _ => none }
def FnExactViaWrongFalsely : Prop := fnExactViaRow.holds Try.pinned (OpenSpec.ofChange fnExactViaWrong)

/-- 'laws.FnExactDaily': WHATEVER THE INPUT: true; the input reads as it did. -/
def fnExactDailySpec : ChangeSpec := { name := "fnExactDaily", fn := fun _ => fun
  | [d1, d2, d3, d4, d5] => { results := [.lit (.bool true)], args := [d1, d2, d3, d4, d5] }
  | _ => none }
def fnExactDailyRow : OpenClaim := { program := "ytchbpdnaodicaaa", sum := "053fec7178bfff5d4a572c762339444fc8157784c619361173edf51b7163d4b1", func := "loop.example/g00024/laws.FnExactDaily", spec := "fnExactDaily", unfollowed := true, recurses := true, plainKeys := false, apart := false }
def FnExactDailySaid : Prop := fnExactDailyRow.holds Try.pinned (OpenSpec.ofChange fnExactDailySpec)

/-- ITS FALSE NEIGHBOUR: 'it returns false'. Refute it at one input. -/
def fnExactDailyWrong : ChangeSpec := { name := "fnExactDaily", fn := fun _ => fun
  | [d1, d2, d3, d4, d5] => { results := [.lit (.bool false)], args := [d1, d2, d3, d4, d5] }
  | _ => none }
def FnExactDailyWrongFalsely : Prop := fnExactDailyRow.holds Try.pinned (OpenSpec.ofChange fnExactDailyWrong)

/-- 'laws.FnExactAgain': WHATEVER THE INPUT: true; the input reads as it did. -/
def fnExactAgainSpec : ChangeSpec := { name := "fnExactAgain", fn := fun _ => fun
  | [d1, d2, d3, d4, d5] => { results := [.lit (.bool true)], args := [d1, d2, d3, d4, d5] }
  | _ => none }
def fnExactAgainRow : OpenClaim := { program := "ytchbpdnaodicaaa", sum := "053fec7178bfff5d4a572c762339444fc8157784c619361173edf51b7163d4b1", func := "loop.example/g00024/laws.FnExactAgain", spec := "fnExactAgain", unfollowed := true, recurses := true, plainKeys := false, apart := false }
def FnExactAgainSaid : Prop := fnExactAgainRow.holds Try.pinned (OpenSpec.ofChange fnExactAgainSpec)

/-- ITS FALSE NEIGHBOUR: 'it returns false'. Refute it at one input. -/
def fnExactAgainWrong : ChangeSpec := { name := "fnExactAgain", fn := fun _ => fun
  | [d1, d2, d3, d4, d5] => { results := [.lit (.bool false)], args := [d1, d2, d3, d4, d5] }
  | _ => none }
def FnExactAgainWrongFalsely : Prop := fnExactAgainRow.holds Try.pinned (OpenSpec.ofChange fnExactAgainWrong)

/-- 'laws.FnExactWithin': WHATEVER THE INPUT: true; the input reads as it did. -/
def fnExactWithinSpec : ChangeSpec := { name := "fnExactWithin", fn := fun _ => fun
  | [d1, d2, d3] => { results := [.lit (.bool true)], args := [d1, d2, d3] }
  | _ => none }
def fnExactWithinRow : OpenClaim := { program := "ytchbpdnaodicaaa", sum := "053fec7178bfff5d4a572c762339444fc8157784c619361173edf51b7163d4b1", func := "loop.example/g00024/laws.FnExactWithin", spec := "fnExactWithin", inPlace := ["internal/reflectlite.ValueOf", "internal/reflectlite.Swapper", "(internal/reflectlite.Value).Len"], unfollowed := true, recurses := true, plainKeys := false, apart := false }
def FnExactWithinSaid : Prop := fnExactWithinRow.holds Try.pinned (OpenSpec.ofChange fnExactWithinSpec)

/-- ITS FALSE NEIGHBOUR: 'it returns false'. Refute it at one input. -/
def fnExactWithinWrong : ChangeSpec := { name := "fnExactWithin", fn := fun _ => fun
  | [d1, d2, d3] => { results := [.lit (.bool false)], args := [d1, d2, d3] }
  | _ => none }
def FnExactWithinWrongFalsely : Prop := fnExactWithinRow.holds Try.pinned (OpenSpec.ofChange fnExactWithinWrong)

/-- 'laws.FnExactNoBack': WHATEVER THE INPUT: true; the input reads as it did. -/
def fnExactNoBackSpec : ChangeSpec := { name := "fnExactNoBack", fn := fun _ => fun
  | [d] => { results := [.lit (.bool true)], args := [d] }
  | _ => none }
def fnExactNoBackRow : OpenClaim := { program := "ytchbpdnaodicaaa", sum := "053fec7178bfff5d4a572c762339444fc8157784c619361173edf51b7163d4b1", func := "loop.example/g00024/laws.FnExactNoBack", spec := "fnExactNoBack", inPlace := ["internal/reflectlite.ValueOf", "internal/reflectlite.Swapper", "(internal/reflectlite.Value).Len"], unfollowed := true, recurses := true, plainKeys := false, apart := false }
def FnExactNoBackSaid : Prop := fnExactNoBackRow.holds Try.pinned (OpenSpec.ofChange fnExactNoBackSpec)

/-- ITS FALSE NEIGHBOUR: 'it returns false'. Refute it at one input. -/
def fnExactNoBackWrong : ChangeSpec := { name := "fnExactNoBack", fn := fun _ => fun
  | [d] => { results := [.lit (.bool false)], args := [d] }
  | _ => none }
def FnExactNoBackWrongFalsely : Prop := fnExactNoBackRow.holds Try.pinned (OpenSpec.ofChange fnExactNoBackWrong)

/-- 'laws.FnExactForbid': WHATEVER THE INPUT: true; the input reads as it did. -/
def fnExactForbidSpec : ChangeSpec := { name := "fnExactForbid", fn := fun _ => fun
  | [d1, d2] => { results := [.lit (.bool true)], args := [d1, d2] }
  | _ => none }
def fnExactForbidRow : OpenClaim := { program := "ytchbpdnaodicaaa", sum := "053fec7178bfff5d4a572c762339444fc8157784c619361173edf51b7163d4b1", func := "loop.example/g00024/laws.FnExactForbid", spec := "fnExactForbid", inPlace := ["internal/reflectlite.ValueOf", "internal/reflectlite.Swapper", "(internal/reflectlite.Value).Len"], unfollowed := true, recurses := true, plainKeys := false, apart := false }
def FnExactForbidSaid : Prop := fnExactForbidRow.holds Try.pinned (OpenSpec.ofChange fnExactForbidSpec)

/-- ITS FALSE NEIGHBOUR: 'it returns false'. Refute it at one input. -/
def fnExactForbidWrong : ChangeSpec := { name := "fnExactForbid", fn := fun _ => fun
  | [d1, d2] => { results := [.lit (.bool false)], args := [d1, d2] }
  | _ => none }
def FnExactForbidWrongFalsely : Prop := fnExactForbidRow.holds Try.pinned (OpenSpec.ofChange fnExactForbidWrong)

/-- 'laws.FnExactMakeGraph': WHATEVER THE INPUT: true; the input reads as it did. -/
def fnExactMakeGraphSpec : ChangeSpec := { name := "fnExactMakeGraph", fn := fun _ => fun
  | [d1, d2] => { results := [.lit (.bool true)], args := [d1, d2] }
  | _ => none }
def fnExactMakeGraphRow : OpenClaim := { program := "ytchbpdnaodicaaa", sum := "053fec7178bfff5d4a572c762339444fc8157784c619361173edf51b7163d4b1", func := "loop.example/g00024/laws.FnExactMakeGraph", spec := "fnExactMakeGraph", plainKeys := false, apart := false }
def FnExactMakeGraphSaid : Prop := fnExactMakeGraphRow.holds Try.pinned (OpenSpec.ofChange fnExactMakeGraphSpec)

/-- ITS FALSE NEIGHBOUR: 'it returns false'. Refute it at one input. -/
def fnExactMakeGraphWrong : ChangeSpec := { name := "fnExactMakeGraph", fn := fun _ => fun
  | [d1, d2] => { results := [.lit (.bool false)], args := [d1, d2] }
  | _ => none }
def FnExactMakeGraphWrongFalsely : Prop := fnExactMakeGraphRow.holds Try.pinned (OpenSpec.ofChange fnExactMakeGraphWrong)

/- THE SECOND FORM. 'bulk': how many values and letters a reading holds, each counted each time it is reached (what is shared counts as often as it is met; a slice's spare places count too). A statement '..UptoSaid' is the law's where the arguments, and the package variables that the reading takes, are together of bulk at most 1048576: NARROWER than '..Said'. Prove '..Said' where nothing that the law and all that it calls make is longer than what came in: it says more and counts as full. Else prove '..UptoSaid'. A law counts once. -/
mutual
def uptoBulk {H : Type} : DataW H → Nat
  | .lit (.string bytes) => bytes.length + 1
  | .lit _ => 1
  | .nil => 1
  | .ptr d => uptoBulk d + 1
  | .slice elems spare => uptoBulkAll elems + uptoBulkAll spare + 1
  | .agg parts => uptoBulkAll parts + 1
  | .iface _ d => uptoBulk d + 1
  | .map entries => uptoBulkEntries entries + 1
  | .held _ => 1
def uptoBulkAll {H : Type} : List (DataW H) → Nat
  | [] => 0
  | d :: r => uptoBulk d + uptoBulkAll r
def uptoBulkEntries {H : Type} : List (Lit × DataW H) → Nat
  | [] => 0
  | x :: r => uptoBulkEntry x + uptoBulkEntries r
def uptoBulkEntry {H : Type} : Lit × DataW H → Nat
  | (.string bytes, d) => bytes.length + uptoBulk d + 1
  | (_, d) => uptoBulk d + 1
 end
def uptoSmall : (H : Type) → List (DataW H) → Bool := fun _ ds => decide (uptoBulkAll ds ≤ 1048576)
def OpenSpec.upto (s : _root_.Go.ChangeSpec) : _root_.Go.OpenSpec := { _root_.Go.OpenSpec.ofChange s with cond := some uptoSmall }

/-- 'laws.FnExactGuide', WHERE WHAT IT READS IS OF BULK AT MOST 1048576: true; the input reads as it did. -/
def fnExactGuideUptoRow : OpenClaim := { program := "ytchbpdnaodicaaa", sum := "053fec7178bfff5d4a572c762339444fc8157784c619361173edf51b7163d4b1", func := "loop.example/g00024/laws.FnExactGuide", spec := "fnExactGuide", plainKeys := false, apart := false, narrowed := true }
def FnExactGuideUptoSaid : Prop := fnExactGuideUptoRow.holds Try.pinned (OpenSpec.upto fnExactGuideSpec)

/-- 'laws.FnExactFollow', WHERE WHAT IT READS IS OF BULK AT MOST 1048576: true; the input reads as it did. -/
def fnExactFollowUptoRow : OpenClaim := { program := "ytchbpdnaodicaaa", sum := "053fec7178bfff5d4a572c762339444fc8157784c619361173edf51b7163d4b1", func := "loop.example/g00024/laws.FnExactFollow", spec := "fnExactFollow", plainKeys := false, apart := false, narrowed := true }
def FnExactFollowUptoSaid : Prop := fnExactFollowUptoRow.holds Try.pinned (OpenSpec.upto fnExactFollowSpec)

/-- 'laws.FnExactRoundTime', WHERE WHAT IT READS IS OF BULK AT MOST 1048576: true; the input reads as it did. -/
def fnExactRoundTimeUptoRow : OpenClaim := { program := "ytchbpdnaodicaaa", sum := "053fec7178bfff5d4a572c762339444fc8157784c619361173edf51b7163d4b1", func := "loop.example/g00024/laws.FnExactRoundTime", spec := "fnExactRoundTime", plainKeys := false, apart := false, narrowed := true }
def FnExactRoundTimeUptoSaid : Prop := fnExactRoundTimeUptoRow.holds Try.pinned (OpenSpec.upto fnExactRoundTimeSpec)

/-- 'laws.FnExactPlanTime', WHERE WHAT IT READS IS OF BULK AT MOST 1048576: true; the input reads as it did. -/
def fnExactPlanTimeUptoRow : OpenClaim := { program := "ytchbpdnaodicaaa", sum := "053fec7178bfff5d4a572c762339444fc8157784c619361173edf51b7163d4b1", func := "loop.example/g00024/laws.FnExactPlanTime", spec := "fnExactPlanTime", plainKeys := false, apart := false, narrowed := true }
def FnExactPlanTimeUptoSaid : Prop := fnExactPlanTimeUptoRow.holds Try.pinned (OpenSpec.upto fnExactPlanTimeSpec)

/-- 'laws.FnExactVia', WHERE WHAT IT READS IS OF BULK AT MOST 1048576: true; the input reads as it did. -/
def fnExactViaUptoRow : OpenClaim := { program := "ytchbpdnaodicaaa", sum := "053fec7178bfff5d4a572c762339444fc8157784c619361173edf51b7163d4b1", func := "loop.example/g00024/laws.FnExactVia", spec := "fnExactVia", unfollowed := true, recurses := true, plainKeys := false, apart := false, narrowed := true }
def FnExactViaUptoSaid : Prop := fnExactViaUptoRow.holds Try.pinned (OpenSpec.upto fnExactViaSpec)

/-- 'laws.FnExactDaily', WHERE WHAT IT READS IS OF BULK AT MOST 1048576: true; the input reads as it did. -/
def fnExactDailyUptoRow : OpenClaim := { program := "ytchbpdnaodicaaa", sum := "053fec7178bfff5d4a572c762339444fc8157784c619361173edf51b7163d4b1", func := "loop.example/g00024/laws.FnExactDaily", spec := "fnExactDaily", unfollowed := true, recurses := true, plainKeys := false, apart := false, narrowed := true }
def FnExactDailyUptoSaid : Prop := fnExactDailyUptoRow.holds Try.pinned (OpenSpec.upto fnExactDailySpec)

/-- 'laws.FnExactAgain', WHERE WHAT IT READS IS OF BULK AT MOST 1048576: true; the input reads as it did. -/
def fnExactAgainUptoRow : OpenClaim := { program := "ytchbpdnaodicaaa", sum := "053fec7178bfff5d4a572c762339444fc8157784c619361173edf51b7163d4b1", func := "loop.example/g00024/laws.FnExactAgain", spec := "fnExactAgain", unfollowed := true, recurses := true, plainKeys := false, apart := false, narrowed := true }
def FnExactAgainUptoSaid : Prop := fnExactAgainUptoRow.holds Try.pinned (OpenSpec.upto fnExactAgainSpec)

/-- 'laws.FnExactWithin', WHERE WHAT IT READS IS OF BULK AT MOST 1048576: true; the input reads as it did. -/
def fnExactWithinUptoRow : OpenClaim := { program := "ytchbpdnaodicaaa", sum := "053fec7178bfff5d4a572c762339444fc8157784c619361173edf51b7163d4b1", func := "loop.example/g00024/laws.FnExactWithin", spec := "fnExactWithin", inPlace := ["internal/reflectlite.ValueOf", "internal/reflectlite.Swapper", "(internal/reflectlite.Value).Len"], unfollowed := true, recurses := true, plainKeys := false, apart := false, narrowed := true }
def FnExactWithinUptoSaid : Prop := fnExactWithinUptoRow.holds Try.pinned (OpenSpec.upto fnExactWithinSpec)

/-- 'laws.FnExactNoBack', WHERE WHAT IT READS IS OF BULK AT MOST 1048576: true; the input reads as it did. -/
def fnExactNoBackUptoRow : OpenClaim := { program := "ytchbpdnaodicaaa", sum := "053fec7178bfff5d4a572c762339444fc8157784c619361173edf51b7163d4b1", func := "loop.example/g00024/laws.FnExactNoBack", spec := "fnExactNoBack", inPlace := ["internal/reflectlite.ValueOf", "internal/reflectlite.Swapper", "(internal/reflectlite.Value).Len"], unfollowed := true, recurses := true, plainKeys := false, apart := false, narrowed := true }
def FnExactNoBackUptoSaid : Prop := fnExactNoBackUptoRow.holds Try.pinned (OpenSpec.upto fnExactNoBackSpec)

/-- 'laws.FnExactForbid', WHERE WHAT IT READS IS OF BULK AT MOST 1048576: true; the input reads as it did. -/
def fnExactForbidUptoRow : OpenClaim := { program := "ytchbpdnaodicaaa", sum := "053fec7178bfff5d4a572c762339444fc8157784c619361173edf51b7163d4b1", func := "loop.example/g00024/laws.FnExactForbid", spec := "fnExactForbid", inPlace := ["internal/reflectlite.ValueOf", "internal/reflectlite.Swapper", "(internal/reflectlite.Value).Len"], unfollowed := true, recurses := true, plainKeys := false, apart := false, narrowed := true }
def FnExactForbidUptoSaid : Prop := fnExactForbidUptoRow.holds Try.pinned (OpenSpec.upto fnExactForbidSpec)

/-- 'laws.FnExactMakeGraph', WHERE WHAT IT READS IS OF BULK AT MOST 1048576: true; the input reads as it did. -/
def fnExactMakeGraphUptoRow : OpenClaim := { program := "ytchbpdnaodicaaa", sum := "053fec7178bfff5d4a572c762339444fc8157784c619361173edf51b7163d4b1", func := "loop.example/g00024/laws.FnExactMakeGraph", spec := "fnExactMakeGraph", plainKeys := false, apart := false, narrowed := true }
def FnExactMakeGraphUptoSaid : Prop := fnExactMakeGraphUptoRow.holds Try.pinned (OpenSpec.upto fnExactMakeGraphSpec)

end Rows
end Go.Proofs.Ytchbpdnaodicaaa
