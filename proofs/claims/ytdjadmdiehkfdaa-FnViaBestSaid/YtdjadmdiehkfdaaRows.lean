/-
  No cell of these rows narrows 'for every input' (looked for: loops, veiled, ifaces, maps, wideKeys, modest, calm, conditions, laid).
  DERIVED. THE GIVEN ROWS OF THIS SEAT. 4 by the template 'for every input the law returns true; each argument reads behind the call as it read before'; 0 by the template 'total and deterministic' (their statements: YtdjadmdiehkfdaaTotals.lean).
  GIVEN WITH THE SEED: the statements are not yours to turn. If you find one false, say at which input.
  Laid BY PROGRAM, IN A SANDBOX (cutbox-rows.mjs): the forced cells as the released guide's own fill.sh prints them over the translation 721e72e0c836f2ef… (all of the seat's roots in one cut). By AI agents, Wed Nov 11 2026. No macro, syntax, notation, axiom, sorry.
-/
import Derived.Test.YtdjadmdiehkfdaaChecked
import GoSem.Claim
import GoSem.ClaimJoined
import GoSem.ClaimMapViews
import Derived.JoinedTies
import Derived.KernelRfl
namespace Go.Proofs.Ytdjadmdiehkfdaa
/- THE CELL 'sum', in the pinned program and in every row, IS THE sha256 OF THE DUMP (.gsa) THAT YtdjadmdiehkfdaaProg.lean LOADS. Nothing in Lean hashes anything: it is a label: what it is worth is what the hold of that sum in a sandbox is worth. -/
noncomputable def Try.pinned : Pinned := { name := "ytdjadmdiehkfdaa", sum := "721e72e0c836f2ef647d30886aa9cbd128c1cf9cf5ddea19a41d863d887702f7", checked := Try.checked }
namespace Rows
def none {H : Type} : Left H := { results := [], args := [] }

/-- 'laws.FnPathBest': WHATEVER THE INPUT: true; the input reads as it did. -/
def fnPathBestSpec : ChangeSpec := { name := "fnPathBest", fn := fun _ => fun
  | [d] => { results := [.lit (.bool true)], args := [d] }
  | _ => none }
def fnPathBestRow : OpenClaim := { program := "ytdjadmdiehkfdaa", sum := "721e72e0c836f2ef647d30886aa9cbd128c1cf9cf5ddea19a41d863d887702f7", func := "loop.example/g00024/laws.FnPathBest", spec := "fnPathBest", unfollowed := true, recurses := true, plainKeys := false, apart := false }
def FnPathBestSaid : Prop := fnPathBestRow.holds Try.pinned (OpenSpec.ofChange fnPathBestSpec)

/-- ITS FALSE NEIGHBOUR: 'it returns false'. Refute it at one input. -/
def fnPathBestWrong : ChangeSpec := { name := "fnPathBest", fn := fun _ => fun
  | [d] => { results := [.lit (.bool false)], args := [d] }
  | _ => none }
def FnPathBestWrongFalsely : Prop := fnPathBestRow.holds Try.pinned (OpenSpec.ofChange fnPathBestWrong)

/-- 'laws.FnReach': WHATEVER THE INPUT: true; the input reads as it did. -/
def fnReachSpec : ChangeSpec := { name := "fnReach", fn := fun _ => fun
  | [d] => { results := [.lit (.bool true)], args := [d] }
  | _ => none }
def fnReachRow : OpenClaim := { program := "ytdjadmdiehkfdaa", sum := "721e72e0c836f2ef647d30886aa9cbd128c1cf9cf5ddea19a41d863d887702f7", func := "loop.example/g00024/laws.FnReach", spec := "fnReach", unfollowed := true, recurses := true, plainKeys := false, apart := false }
def FnReachSaid : Prop := fnReachRow.holds Try.pinned (OpenSpec.ofChange fnReachSpec)

/-- ITS FALSE NEIGHBOUR: 'it returns false'. Refute it at one input. -/
def fnReachWrong : ChangeSpec := { name := "fnReach", fn := fun _ => fun
  | [d] => { results := [.lit (.bool false)], args := [d] }
  | _ => none }
def FnReachWrongFalsely : Prop := fnReachRow.holds Try.pinned (OpenSpec.ofChange fnReachWrong)

/-- 'laws.FnViaBest': WHATEVER THE INPUT: true; the input reads as it did. -/
def fnViaBestSpec : ChangeSpec := { name := "fnViaBest", fn := fun _ => fun
  | [d] => { results := [.lit (.bool true)], args := [d] }
  | _ => none }
def fnViaBestRow : OpenClaim := { program := "ytdjadmdiehkfdaa", sum := "721e72e0c836f2ef647d30886aa9cbd128c1cf9cf5ddea19a41d863d887702f7", func := "loop.example/g00024/laws.FnViaBest", spec := "fnViaBest", unfollowed := true, recurses := true, plainKeys := false, apart := false }
def FnViaBestSaid : Prop := fnViaBestRow.holds Try.pinned (OpenSpec.ofChange fnViaBestSpec)

/-- ITS FALSE NEIGHBOUR: 'it returns false'. Refute it at one input. -/
def fnViaBestWrong : ChangeSpec := { name := "fnViaBest", fn := fun _ => fun
  | [d] => { results := [.lit (.bool false)], args := [d] }
  | _ => none }
def FnViaBestWrongFalsely : Prop := fnViaBestRow.holds Try.pinned (OpenSpec.ofChange fnViaBestWrong)

/-- 'laws.FnAgain': WHATEVER THE INPUT: true; the input reads as it did. -/
def fnAgainSpec : ChangeSpec := { name := "fnAgain", fn := fun _ => fun
  | [d] => { results := [.lit (.bool true)], args := [d] }
  | _ => none }
def fnAgainRow : OpenClaim := { program := "ytdjadmdiehkfdaa", sum := "721e72e0c836f2ef647d30886aa9cbd128c1cf9cf5ddea19a41d863d887702f7", func := "loop.example/g00024/laws.FnAgain", spec := "fnAgain", unfollowed := true, recurses := true, plainKeys := false, apart := false }
def FnAgainSaid : Prop := fnAgainRow.holds Try.pinned (OpenSpec.ofChange fnAgainSpec)

/-- ITS FALSE NEIGHBOUR: 'it returns false'. Refute it at one input. -/
def fnAgainWrong : ChangeSpec := { name := "fnAgain", fn := fun _ => fun
  | [d] => { results := [.lit (.bool false)], args := [d] }
  | _ => none }
def FnAgainWrongFalsely : Prop := fnAgainRow.holds Try.pinned (OpenSpec.ofChange fnAgainWrong)

/- THE SECOND FORM. 'bulk': how many values and letters a reading holds, each counted each time it is reached (what is shared counts as often as it is met; a slice's spare places count too). A statement '..UptoSaid' is the law's where the arguments, and the package variables that the reading takes, are together of bulk at most 1048576: NARROWER than '..Said'. Prove '..Said' where nothing that the law and all that it calls make is longer than what came in: it says more and counts as full. Else prove '..UptoSaid'. A law counts once. -/
mutual
def uptoBulk {H : Type} : DataW H → Nat
  | .lit (.string bytes) => bytes.length + 1
  | .lit _ => 1
  | .nil => 1
  | .ptr d => uptoBulk d + 1
  | .slice elems spare => uptoBulkAll elems + uptoBulkAll spare + 1
  | .agg parts => uptoBulkAll parts + 1
  | .iface _ d => uptoBulk d + 1
  | .map entries => uptoBulkEntries entries + 1
  | .held _ => 1
def uptoBulkAll {H : Type} : List (DataW H) → Nat
  | [] => 0
  | d :: r => uptoBulk d + uptoBulkAll r
def uptoBulkEntries {H : Type} : List (Lit × DataW H) → Nat
  | [] => 0
  | x :: r => uptoBulkEntry x + uptoBulkEntries r
def uptoBulkEntry {H : Type} : Lit × DataW H → Nat
  | (.string bytes, d) => bytes.length + uptoBulk d + 1
  | (_, d) => uptoBulk d + 1
 end
def uptoSmall : (H : Type) → List (DataW H) → Bool := fun _ ds => decide (uptoBulkAll ds ≤ 1048576)
def OpenSpec.upto (s : _root_.Go.ChangeSpec) : _root_.Go.OpenSpec := { _root_.Go.OpenSpec.ofChange s with cond := some uptoSmall }

/-- 'laws.FnPathBest', WHERE WHAT IT READS IS OF BULK AT MOST 1048576: true; the input reads as it did. -/
def fnPathBestUptoRow : OpenClaim := { program := "ytdjadmdiehkfdaa", sum := "721e72e0c836f2ef647d30886aa9cbd128c1cf9cf5ddea19a41d863d887702f7", func := "loop.example/g00024/laws.FnPathBest", spec := "fnPathBest", unfollowed := true, recurses := true, plainKeys := false, apart := false, narrowed := true }
def FnPathBestUptoSaid : Prop := fnPathBestUptoRow.holds Try.pinned (OpenSpec.upto fnPathBestSpec)

/-- 'laws.FnReach', WHERE WHAT IT READS IS OF BULK AT MOST 1048576: true; the input reads as it did. -/
def fnReachUptoRow : OpenClaim := { program := "ytdjadmdiehkfdaa", sum := "721e72e0c836f2ef647d30886aa9cbd128c1cf9cf5ddea19a41d863d887702f7", func := "loop.example/g00024/laws.FnReach", spec := "fnReach", unfollowed := true, recurses := true, plainKeys := false, apart := false, narrowed := true }
def FnReachUptoSaid : Prop := fnReachUptoRow.holds Try.pinned (OpenSpec.upto fnReachSpec)

/-- 'laws.FnViaBest', WHERE WHAT IT READS IS OF BULK AT MOST 1048576: true; the input reads as it did. -/
def fnViaBestUptoRow : OpenClaim := { program := "ytdjadmdiehkfdaa", sum := "721e72e0c836f2ef647d30886aa9cbd128c1cf9cf5ddea19a41d863d887702f7", func := "loop.example/g00024/laws.FnViaBest", spec := "fnViaBest", unfollowed := true, recurses := true, plainKeys := false, apart := false, narrowed := true }
def FnViaBestUptoSaid : Prop := fnViaBestUptoRow.holds Try.pinned (OpenSpec.upto fnViaBestSpec)

/-- 'laws.FnAgain', WHERE WHAT IT READS IS OF BULK AT MOST 1048576: true; the input reads as it did. -/
def fnAgainUptoRow : OpenClaim := { program := "ytdjadmdiehkfdaa", sum := "721e72e0c836f2ef647d30886aa9cbd128c1cf9cf5ddea19a41d863d887702f7", func := "loop.example/g00024/laws.FnAgain", spec := "fnAgain", unfollowed := true, recurses := true, plainKeys := false, apart := false, narrowed := true }
def FnAgainUptoSaid : Prop := fnAgainUptoRow.holds Try.pinned (OpenSpec.upto fnAgainSpec)

end Rows
end Go.Proofs.Ytdjadmdiehkfdaa
